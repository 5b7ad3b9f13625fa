/- The library's slices.Sort at integers: the shelf's contract, laid at this dump (names by a small program), and said of a row that the call owns. No conditions but its own. -/
import Derived.Test.YtmhledlcfbjfkaaOwh
import Derived.Shelf.Sort.Plain
import Derived.Shelf.Slices.In.SortNone
import Derived.Sort.OwnSortedInts
namespace Go.Proofs.Ytmhledlcfbjfkaa
open Go.RowKit Go.Deep Go.Shelf Go.Sort
def laySort_ren : Go.Shelf.Ren := ⟨fun | 125 => 15 | 128 => 31 | 129 => 32 | 189 => 10 | 215 => 41 | 216 => 28 | 257 => 14 | 294 => 22 | 295 => 23 | 296 => 24 | 297 => 25 | 298 => 26 | 299 => 27 | 300 => 29 | 301 => 30 | 328 => 36 | 329 => 37 | 330 => 38 | 331 => 39 | 332 => 40 | 343 => 42 | n => n, fun | 0 => 0 | 3 => 3 | 4 => 4 | 5 => 5 | 9 => 9 | 28 => 23 | 46 => 42 | 51 => 58 | 53 => 60 | 131 => 55 | 182 => 49 | 183 => 50 | 218 => 64 | 222 => 68 | 228 => 70 | 229 => 71 | n => n, fun | n => n⟩
set_option maxRecDepth 100000 in
theorem laySort : Go.Proofs.Lays.n189 Try.prog laySort_ren := {
  mixed := by kernel_rfl
  f125 := Try.func15.trans (congrArg some (by kernel_rfl))
  f128 := Try.func31.trans (congrArg some (by kernel_rfl))
  f129 := Try.func32.trans (congrArg some (by kernel_rfl))
  f189 := Try.func10.trans (congrArg some (by kernel_rfl))
  f215 := Try.func41.trans (congrArg some (by kernel_rfl))
  f216 := Try.func28.trans (congrArg some (by kernel_rfl))
  f257 := Try.func14.trans (congrArg some (by kernel_rfl))
  f294 := Try.func22.trans (congrArg some (by kernel_rfl))
  f295 := Try.func23.trans (congrArg some (by kernel_rfl))
  f296 := Try.func24.trans (congrArg some (by kernel_rfl))
  f297 := Try.func25.trans (congrArg some (by kernel_rfl))
  f298 := Try.func26.trans (congrArg some (by kernel_rfl))
  f299 := Try.func27.trans (congrArg some (by kernel_rfl))
  f300 := Try.func29.trans (congrArg some (by kernel_rfl))
  f301 := Try.func30.trans (congrArg some (by kernel_rfl))
  f328 := Try.func36.trans (congrArg some (by kernel_rfl))
  f329 := Try.func37.trans (congrArg some (by kernel_rfl))
  f330 := Try.func38.trans (congrArg some (by kernel_rfl))
  f331 := Try.func39.trans (congrArg some (by kernel_rfl))
  f332 := Try.func40.trans (congrArg some (by kernel_rfl))
  f343 := Try.func42.trans (congrArg some (by kernel_rfl))
  t0 := Try.underlying0
  a0 := Try.isAgg0
  z0 := Try.sizeOf0
  v0 := Try.zeroValue0
  t3 := Try.underlying3
  a3 := Try.isAgg3
  z3 := Try.sizeOf3
  v3 := Try.zeroValue3
  t4 := Try.underlying4
  a4 := Try.isAgg4
  z4 := Try.sizeOf4
  v4 := Try.zeroValue4
  t5 := Try.underlying5
  a5 := Try.isAgg5
  z5 := Try.sizeOf5
  v5 := Try.zeroValue5
  t9 := Try.underlying9
  a9 := Try.isAgg9
  z9 := Try.sizeOf9
  v9 := Try.zeroValue9
  t28 := Try.underlying23
  a28 := Try.isAgg23
  z28 := Try.sizeOf23
  v28 := Try.zeroValue23
  t46 := Try.underlying42
  a46 := Try.isAgg42
  z46 := Try.sizeOf42
  v46 := Try.zeroValue42
  t51 := Try.underlying58
  a51 := Try.isAgg58
  z51 := Try.sizeOf58
  v51 := Try.zeroValue58
  t53 := Try.underlying60
  a53 := Try.isAgg60
  z53 := Try.sizeOf60
  v53 := Try.zeroValue60
  t131 := Try.underlying55
  a131 := Try.isAgg55
  z131 := Try.sizeOf55
  v131 := Try.zeroValue55
  t182 := Try.underlying49
  a182 := Try.isAgg49
  z182 := Try.sizeOf49
  v182 := Try.zeroValue49
  t183 := Try.underlying50
  a183 := Try.isAgg50
  z183 := Try.sizeOf50
  v183 := Try.zeroValue50
  t218 := Try.underlying64
  a218 := Try.isAgg64
  z218 := Try.sizeOf64
  v218 := Try.zeroValue64
  t222 := Try.underlying68
  a222 := Try.isAgg68
  z222 := Try.sizeOf68
  v222 := Try.zeroValue68
  t228 := Try.underlying70
  a228 := Try.isAgg70
  z228 := Try.sizeOf70
  v228 := Try.zeroValue70
  t229 := Try.underlying71
  a229 := Try.isAgg71
  z229 := Try.sizeOf71
  v229 := Try.zeroValue71 }
def srt (zs : List Int) : List Int := zs.mergeSort fun x y => decide (x ≤ y)
theorem srt_len (zs : List Int) : (srt zs).length = zs.length := by unfold srt; exact List.length_mergeSort _
theorem srt_mem {zs : List Int} {x : Int} : x ∈ srt zs ↔ x ∈ zs := by unfold srt; exact List.mem_mergeSort
theorem sort_any (zs : List Int) (n B : Nat) (v : Value) (w : World) (hn : zs.length = n) (hv : w.ownsRow B 3 1 v n (zs.map (Value.int .i64))) (hz : n ≤ 1000000) :
    Calls Try.prog 10 #[v] w fun e w' => e = .returned (.tuple #[]) ∧ w'.ownsRow B 3 1 v n ((srt zs).map (Value.int .i64)) ∧ w.grownBy w' v.ownBlock := by
  subst hn
  rcases hv.2 with ⟨rfl, h0⟩ | ⟨g, cap, cur, rfl, hb, hh, hc1, hc2, hc3, hc4⟩
  · obtain rfl : zs = [] := List.eq_nil_of_length_eq_zero h0
    refine (Any.slices_Sort_int_none laySort none 0 w).mono ?_
    rintro e w' ⟨rfl, rfl⟩
    rw [show srt [] = [] from List.eq_nil_of_length_eq_zero (by rw [srt_len]; rfl)]
    exact ⟨rfl, World.ownsRow_nil _ _ _ _, World.grownBy.refl _ _⟩
  · rw [Nat.mul_one] at hc4
    refine (Any.slices_Sort_int laySort g 0 cap zs w (holds_of_blockI hh hc4) (Has.lt hh) (by omega)).mono ?_
    rintro e w' ⟨rfl, n, os, rfl⟩
    exact ⟨rfl, ownsRow_sortedI (srt_len zs) hb hh hc1 hc2 hc3, grownBy_sortedI _⟩
end Go.Proofs.Ytmhledlcfbjfkaa
