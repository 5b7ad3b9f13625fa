/- math/bits.TrailingZeros: the shelf's contract laid at this dump. Condition: the table is laid. -/
import Derived.Test.YtfkklhmamhcbhaaDoorGen
import Derived.Shelf.Spec.TrailingZeros
namespace Go.Proofs.YtfkklhmamhcbhaaDoor
open Go.Shelf Go.RowKit
def layTz_ren : Go.Shelf.Ren := ⟨fun | 27 => 20 | 28 => 29 | 29 => 30 | n => n, fun | 0 => 0 | 3 => 3 | 4 => 4 | 5 => 5 | 22 => 53 | 25 => 31 | 27 => 30 | 53 => 69 | 54 => 70 | n => n, fun | 0 => 1 | 1 => 2 | n => n⟩
set_option maxRecDepth 100000 in
theorem layTz : Lays7.n27 Tryd.prog layTz_ren := {
  mixed := by kernel_rfl
  f27 := Tryd.func20.trans (congrArg some (by kernel_rfl))
  f28 := Tryd.func29.trans (congrArg some (by kernel_rfl))
  f29 := Tryd.func30.trans (congrArg some (by kernel_rfl))
  t0 := Tryd.underlying0
  a0 := Tryd.isAgg0
  z0 := Tryd.sizeOf0
  v0 := Tryd.zeroValue0
  i0 := by kernel_rfl
  t3 := Tryd.underlying3
  a3 := Tryd.isAgg3
  z3 := Tryd.sizeOf3
  v3 := Tryd.zeroValue3
  i3 := by kernel_rfl
  t4 := Tryd.underlying4
  a4 := Tryd.isAgg4
  z4 := Tryd.sizeOf4
  v4 := Tryd.zeroValue4
  i4 := by kernel_rfl
  t5 := Tryd.underlying5
  a5 := Tryd.isAgg5
  z5 := Tryd.sizeOf5
  v5 := Tryd.zeroValue5
  i5 := by kernel_rfl
  t22 := Tryd.underlying53
  a22 := Tryd.isAgg53
  z22 := Tryd.sizeOf53
  v22 := Tryd.zeroValue53
  i22 := by kernel_rfl
  t25 := Tryd.underlying31
  a25 := Tryd.isAgg31
  z25 := Tryd.sizeOf31
  v25 := Tryd.zeroValue31
  i25 := by kernel_rfl
  t27 := Tryd.underlying30
  a27 := Tryd.isAgg30
  z27 := Tryd.sizeOf30
  v27 := Tryd.zeroValue30
  i27 := by kernel_rfl
  t53 := Tryd.underlying69
  a53 := Tryd.isAgg69
  z53 := Tryd.sizeOf69
  v53 := Tryd.zeroValue69
  i53 := by kernel_rfl
  t54 := Tryd.underlying70
  a54 := Tryd.isAgg70
  z54 := Tryd.sizeOf70
  g0 := by kernel_rfl
  g1 := by kernel_rfl }
/-- the table of the 64-bit search is laid -/
def Tz (w : World) : Prop := TabAt 2 Lib.deBruijn64tab w
theorem Tz.keep {w w' : World} (h : Tz w) (hb : w'.heap[2]? = w.heap[2]?) : Tz w' := fun j hj => (World.cell?_of_block (a := ⟨2, j, none⟩) (w := w) (w' := w') hb).trans (h j hj)
theorem Tz.below {w w' : World} {B : Nat} (h : Tz w) (hb : Below B w w') (hB : 2 < B) : Tz w' := h.keep (hb.block _ hB)
theorem tz_any (x : Nat) (hx : x < 18446744073709551616) (w : World) (hT : Tz w) :
    Calls Tryd.prog 20 #[.int .u64 x] w fun e w' => e = .returned (.int .i64 (Lib.ctz 64 x)) ∧ w' = w := Any7.bits_TrailingZeros layTz x hx w fun _ => hT
end Go.Proofs.YtfkklhmamhcbhaaDoor
