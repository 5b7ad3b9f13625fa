/- The library's slices.Sort at integers: the shelf's contract, laid at this dump (names by a small program), and said of a row that the call owns. No conditions but its own. -/
import Derived.Test.YtmhledlcfbjfkaaDoorOwh
import Derived.Shelf.Sort.Plain
import Derived.Shelf.Slices.In.SortNone
import Derived.Sort.OwnSortedInts
namespace Go.Proofs.YtmhledlcfbjfkaaDoor
open Go.RowKit Go.Deep Go.Shelf Go.Sort
def laySort_ren : Go.Shelf.Ren := ⟨fun | 125 => 18 | 128 => 36 | 129 => 37 | 189 => 12 | 215 => 50 | 216 => 33 | 257 => 17 | 294 => 27 | 295 => 28 | 296 => 29 | 297 => 30 | 298 => 31 | 299 => 32 | 300 => 34 | 301 => 35 | 328 => 45 | 329 => 46 | 330 => 47 | 331 => 48 | 332 => 49 | 343 => 54 | n => n, fun | 0 => 0 | 3 => 3 | 4 => 4 | 5 => 5 | 9 => 9 | 28 => 23 | 46 => 45 | 51 => 65 | 53 => 67 | 131 => 62 | 182 => 56 | 183 => 57 | 218 => 84 | 222 => 88 | 228 => 104 | 229 => 105 | n => n, fun | n => n⟩
set_option maxRecDepth 100000 in
theorem laySort : Go.Proofs.Lays.n189 Tryd.prog laySort_ren := {
  mixed := by kernel_rfl
  f125 := Tryd.func18.trans (congrArg some (by kernel_rfl))
  f128 := Tryd.func36.trans (congrArg some (by kernel_rfl))
  f129 := Tryd.func37.trans (congrArg some (by kernel_rfl))
  f189 := Tryd.func12.trans (congrArg some (by kernel_rfl))
  f215 := Tryd.func50.trans (congrArg some (by kernel_rfl))
  f216 := Tryd.func33.trans (congrArg some (by kernel_rfl))
  f257 := Tryd.func17.trans (congrArg some (by kernel_rfl))
  f294 := Tryd.func27.trans (congrArg some (by kernel_rfl))
  f295 := Tryd.func28.trans (congrArg some (by kernel_rfl))
  f296 := Tryd.func29.trans (congrArg some (by kernel_rfl))
  f297 := Tryd.func30.trans (congrArg some (by kernel_rfl))
  f298 := Tryd.func31.trans (congrArg some (by kernel_rfl))
  f299 := Tryd.func32.trans (congrArg some (by kernel_rfl))
  f300 := Tryd.func34.trans (congrArg some (by kernel_rfl))
  f301 := Tryd.func35.trans (congrArg some (by kernel_rfl))
  f328 := Tryd.func45.trans (congrArg some (by kernel_rfl))
  f329 := Tryd.func46.trans (congrArg some (by kernel_rfl))
  f330 := Tryd.func47.trans (congrArg some (by kernel_rfl))
  f331 := Tryd.func48.trans (congrArg some (by kernel_rfl))
  f332 := Tryd.func49.trans (congrArg some (by kernel_rfl))
  f343 := Tryd.func54.trans (congrArg some (by kernel_rfl))
  t0 := Tryd.underlying0
  a0 := Tryd.isAgg0
  z0 := Tryd.sizeOf0
  v0 := Tryd.zeroValue0
  t3 := Tryd.underlying3
  a3 := Tryd.isAgg3
  z3 := Tryd.sizeOf3
  v3 := Tryd.zeroValue3
  t4 := Tryd.underlying4
  a4 := Tryd.isAgg4
  z4 := Tryd.sizeOf4
  v4 := Tryd.zeroValue4
  t5 := Tryd.underlying5
  a5 := Tryd.isAgg5
  z5 := Tryd.sizeOf5
  v5 := Tryd.zeroValue5
  t9 := Tryd.underlying9
  a9 := Tryd.isAgg9
  z9 := Tryd.sizeOf9
  v9 := Tryd.zeroValue9
  t28 := Tryd.underlying23
  a28 := Tryd.isAgg23
  z28 := Tryd.sizeOf23
  v28 := Tryd.zeroValue23
  t46 := Tryd.underlying45
  a46 := Tryd.isAgg45
  z46 := Tryd.sizeOf45
  v46 := Tryd.zeroValue45
  t51 := Tryd.underlying65
  a51 := Tryd.isAgg65
  z51 := Tryd.sizeOf65
  v51 := Tryd.zeroValue65
  t53 := Tryd.underlying67
  a53 := Tryd.isAgg67
  z53 := Tryd.sizeOf67
  v53 := Tryd.zeroValue67
  t131 := Tryd.underlying62
  a131 := Tryd.isAgg62
  z131 := Tryd.sizeOf62
  v131 := Tryd.zeroValue62
  t182 := Tryd.underlying56
  a182 := Tryd.isAgg56
  z182 := Tryd.sizeOf56
  v182 := Tryd.zeroValue56
  t183 := Tryd.underlying57
  a183 := Tryd.isAgg57
  z183 := Tryd.sizeOf57
  v183 := Tryd.zeroValue57
  t218 := Tryd.underlying84
  a218 := Tryd.isAgg84
  z218 := Tryd.sizeOf84
  v218 := Tryd.zeroValue84
  t222 := Tryd.underlying88
  a222 := Tryd.isAgg88
  z222 := Tryd.sizeOf88
  v222 := Tryd.zeroValue88
  t228 := Tryd.underlying104
  a228 := Tryd.isAgg104
  z228 := Tryd.sizeOf104
  v228 := Tryd.zeroValue104
  t229 := Tryd.underlying105
  a229 := Tryd.isAgg105
  z229 := Tryd.sizeOf105
  v229 := Tryd.zeroValue105 }
def srt (zs : List Int) : List Int := zs.mergeSort fun x y => decide (x ≤ y)
theorem srt_len (zs : List Int) : (srt zs).length = zs.length := by unfold srt; exact List.length_mergeSort _
theorem srt_mem {zs : List Int} {x : Int} : x ∈ srt zs ↔ x ∈ zs := by unfold srt; exact List.mem_mergeSort
theorem sort_any (zs : List Int) (n B : Nat) (v : Value) (w : World) (hn : zs.length = n) (hv : w.ownsRow B 3 1 v n (zs.map (Value.int .i64))) (hz : n ≤ 1000000) :
    Calls Tryd.prog 12 #[v] w fun e w' => e = .returned (.tuple #[]) ∧ w'.ownsRow B 3 1 v n ((srt zs).map (Value.int .i64)) ∧ w.grownBy w' v.ownBlock := by
  subst hn
  rcases hv.2 with ⟨rfl, h0⟩ | ⟨g, cap, cur, rfl, hb, hh, hc1, hc2, hc3, hc4⟩
  · obtain rfl : zs = [] := List.eq_nil_of_length_eq_zero h0
    refine (Any.slices_Sort_int_none laySort none 0 w).mono ?_
    rintro e w' ⟨rfl, rfl⟩
    rw [show srt [] = [] from List.eq_nil_of_length_eq_zero (by rw [srt_len]; rfl)]
    exact ⟨rfl, World.ownsRow_nil _ _ _ _, World.grownBy.refl _ _⟩
  · rw [Nat.mul_one] at hc4
    refine (Any.slices_Sort_int laySort g 0 cap zs w (holds_of_blockI hh hc4) (Has.lt hh) (by omega)).mono ?_
    rintro e w' ⟨rfl, n, os, rfl⟩
    exact ⟨rfl, ownsRow_sortedI (srt_len zs) hb hh hc1 hc2 hc3, grownBy_sortedI _⟩
end Go.Proofs.YtmhledlcfbjfkaaDoor
