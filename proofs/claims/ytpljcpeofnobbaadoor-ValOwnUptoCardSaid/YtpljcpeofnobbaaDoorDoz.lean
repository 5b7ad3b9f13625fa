/- What the rows' listed tables and sentinels give a walk. No conditions. -/
import Derived.Test.YtpljcpeofnobbaaDoorCards
import Derived.Test.YtpljcpeofnobbaaDoorVbr
import Derived.LaidLaws
import Derived.LaidMore
import Derived.Stop.LaidErr
import Derived.MakeChecks
import Derived.LaidHandle
import Derived.Stop.Joined
import Derived.ChangeVars
import Derived.JoinedOf
namespace Go.Proofs.YtpljcpeofnobbaaDoor
open Go.RowKit
theorem gPow : Tryd.prog.globalNamed "internal/strconv.uint64pow10" = some 4 := by kernel_rfl
theorem Tab.below {w w' : World} (h : Tab w) (h0 : 4 < w.heap.size) (hb : Below w.heap.size w w') : Tab w' := by
  unfold Tab Lib.TabIs World.var? at h ⊢
  rw [gPow] at h ⊢
  simp only [Option.bind_some] at h ⊢
  rw [hb.block 4 h0]
  exact h
theorem tab_of_head {r : List (String × DataW Unit)} {W : World} (h : laidMet Tryd.prog (("internal/strconv.uint64pow10", Rows.laid_internal_strconv_uint64pow10) :: r) W) : Tab W ∧ 4 < W.heap.size := by
  obtain ⟨ps, ⟨g, t, cs, fuel, p, q, hg, ht, hvar, hd, _, _⟩, _⟩ := h
  have eg : g = 4 := Option.some.inj (hg.symm.trans gPow)
  subst eg
  have et : t = 123 := Option.some.inj (ht.symm.trans (by kernel_rfl))
  subst et
  have hT : Tab W := by
    unfold Tab Lib.TabIs
    rw [hvar]
    have e : cs.toList = Lib.pow10Tab.map fun z => Value.int .u64 z := Lib.cells_of_tab (enc := fun _ => ()) (n := 20) (e := 95) Tryd.underlying123 Tryd.underlying95 (by kernel_rfl) (by kernel_rfl) (h := by
      rw [hd]; rfl)
    rw [← e]
  exact ⟨hT, by
    have := World.var?_cell gPow hT 0
    have hc : W.cell? ⟨4, 0, none⟩ = some (.int .u64 1) := this.trans (by kernel_rfl)
    exact cell_lt (p := ⟨4, 0, none⟩) hc⟩
theorem iface_of_head {P : Program} {n nm : String} {d : DataW Unit} {r : List (String × DataW Unit)} {W : World} {g : Nat} {ti : TypeId} {ms : Array (String × TypeId)}
    (h : laidMet P ((n, .iface nm d) :: r) W) (hg : P.globalNamed n = some g) (ht : (P.globals[g]?).map (·.type) = some ti) (hi : P.underlying ti = some (.interface ms)) :
    ∃ u v, W.cell? ⟨g, 0, none⟩ = some (.iface u v) := by
  obtain ⟨ps, ⟨g0, t0, cs0, f0, p0, q0, hg0, ht0, hv0, hd0, _, _⟩, _, _⟩ := h
  obtain rfl := Option.some.inj (hg.symm.trans hg0)
  obtain rfl := Option.some.inj (ht.symm.trans ht0)
  obtain ⟨l0⟩ := cs0
  obtain ⟨f, u, v, rfl, _, _⟩ := iface_of_trod hi hd0
  exact ⟨u, v, by simpa using World.var?_cell hg hv0 0⟩
theorem gRange : Tryd.prog.globalNamed "strconv.ErrRange" = some 3 := by kernel_rfl
theorem gSyntax : Tryd.prog.globalNamed "strconv.ErrSyntax" = some 2 := by kernel_rfl
theorem laidV_of_met {W : World} (h : laidMet Tryd.prog [("math/bits.deBruijn32tab", Rows.laid_math_bits_deBruijn32tab), ("math/bits.deBruijn64tab", Rows.laid_math_bits_deBruijn64tab), ("internal/strconv.uint64pow10", Rows.laid_internal_strconv_uint64pow10), ("strconv.ErrRange", Rows.laid_strconv_ErrRange), ("strconv.ErrSyntax", Rows.laid_strconv_ErrSyntax)] W) : LaidV W := by
  have h3 := h.tail.tail
  obtain ⟨hT, hl⟩ := tab_of_head h3
  obtain ⟨u, v, hr⟩ := iface_of_head h3.tail gRange (ti := 26) (by kernel_rfl) Tryd.underlying26
  obtain ⟨u', v', hs⟩ := iface_of_head h3.tail.tail gSyntax (ti := 26) (by kernel_rfl) Tryd.underlying26
  exact ⟨fun _ hb => hT.below hl hb, ⟨⟨_, hs, .inr ⟨_, _, rfl⟩⟩, ⟨_, hr, .inr ⟨_, _, rfl⟩⟩⟩, cell_lt hr, cell_lt hs⟩
end Go.Proofs.YtpljcpeofnobbaaDoor
