/- Whether a slice is nil. No conditions. -/
import Derived.Test.YtfkklhmamhcbhaaDoorGen
import Derived.Lib.AppendZeros
import Derived.Lib.SliceRun
namespace Go.Proofs.YtfkklhmamhcbhaaDoor
open Go.RowKit
def isNilS : Value → Bool
  | .slice a _ _ => a.isNone
  | _ => false
theorem nil_of_block {v : Value} {g : Nat} (h : v.ownBlock = some g) : isNilS v = false := by
  cases v <;> simp [Value.ownBlock] at h
  rename_i a n c
  cases a <;> simp_all [isNilS]
end Go.Proofs.YtfkklhmamhcbhaaDoor
