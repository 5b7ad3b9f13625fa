/- The library's cmp.Compare at integers: the shelf's contract, laid at this dump (printed by the kit's lay-shelf and lay-plain, names turned). No conditions. -/
import Derived.Test.YtbnannlpebggjaaDoorRows
import Derived.Shelf.Small.Wraps
import Derived.Ground.Names2Prog
namespace Go.Proofs.YtbnannlpebggjaaDoor
open Go.Shelf
def layCmp_ren : Go.Shelf.Ren := ⟨fun | 122 => 25 | 215 => 31 | n => n, fun | 3 => 3 | 4 => 4 | n => n, fun | n => n⟩
theorem layCmp : Go.Proofs.Lays.n122 Tryd.prog layCmp_ren := {
  mixed := by kernel_rfl
  f122 := Tryd.func25.trans (congrArg some (by kernel_rfl))
  f215 := Tryd.func31.trans (congrArg some (by kernel_rfl))
  t3 := Tryd.underlying3
  a3 := Tryd.isAgg3
  z3 := Tryd.sizeOf3
  v3 := Tryd.zeroValue3
  t4 := Tryd.underlying4
  a4 := Tryd.isAgg4
  z4 := Tryd.sizeOf4
  v4 := Tryd.zeroValue4 }
open Go.RowKit in
theorem cmp_int (x y : Int) (w : World) :
    Calls Tryd.prog 25 #[.int .i64 x, .int .i64 y] w fun e w' => e = .returned (.int .i64 (Lib.compareInt x y)) ∧ w' = w := Any.cmp_Compare_int layCmp x y w
end Go.Proofs.YtbnannlpebggjaaDoor
