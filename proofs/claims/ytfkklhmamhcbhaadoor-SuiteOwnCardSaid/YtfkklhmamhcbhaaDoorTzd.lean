/- What the listed table of the 64-bit search gives a walk. No conditions. -/
import Derived.Test.YtfkklhmamhcbhaaDoorCards
import Derived.Test.YtfkklhmamhcbhaaDoorTzl
import Derived.LaidLaws
import Derived.LaidMore
import Derived.Stop.LaidErr
import Derived.MakeChecks
import Derived.LaidHandle
import Derived.Stop.Joined
import Derived.ChangeVars
import Derived.JoinedOf
namespace Go.Proofs.YtfkklhmamhcbhaaDoor
open Go.RowKit
theorem gTz : Tryd.prog.globalNamed "math/bits.deBruijn64tab" = some 2 := by kernel_rfl
theorem tz_of_head {r : List (String × DataW Unit)} {W : World} (h : laidMet Tryd.prog (("math/bits.deBruijn64tab", Rows.laid_math_bits_deBruijn64tab) :: r) W) : Tz W := by
  obtain ⟨ps, ⟨g, t, cs, fuel, p, q, hg, ht, hvar, hd, _, _⟩, _⟩ := h
  have eg : g = 2 := Option.some.inj (hg.symm.trans gTz)
  subst eg
  have et : t = 70 := Option.some.inj (ht.symm.trans (by kernel_rfl))
  subst et
  have e : cs.toList = (Lib.deBruijn64tab.map Int.ofNat).map fun z => Value.int .u8 z := Lib.cells_of_tab (enc := fun _ => ()) (n := 64) (e := 5) Tryd.underlying70 Tryd.underlying5 (by kernel_rfl) (by kernel_rfl) (h := by
    rw [hd]; rfl)
  intro j hj
  have h1 := World.var?_cell gTz hvar j
  rw [h1, ← Array.getElem?_toList, e, List.getElem?_map, List.getElem?_map, List.getElem?_eq_getElem hj, List.getD_eq_getElem?_getD, List.getElem?_eq_getElem hj]
  rfl
end Go.Proofs.YtfkklhmamhcbhaaDoor
