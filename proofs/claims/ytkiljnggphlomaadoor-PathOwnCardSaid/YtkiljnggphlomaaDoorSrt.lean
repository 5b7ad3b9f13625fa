/- The library's slices.Sort at integers: the shelf's contract, laid at this dump (names by a small program), and said of a row that the call owns. No conditions but its own. -/
import Derived.Test.YtkiljnggphlomaaDoorOwh
import Derived.Shelf.Sort.Plain
import Derived.Shelf.Slices.In.SortNone
import Derived.Sort.OwnSortedInts
namespace Go.Proofs.YtkiljnggphlomaaDoor
open Go.RowKit Go.Deep Go.Shelf Go.Sort
def laySort_ren : Go.Shelf.Ren := ⟨fun | 125 => 102 | 128 => 113 | 129 => 114 | 189 => 93 | 215 => 103 | 216 => 110 | 257 => 101 | 294 => 104 | 295 => 105 | 296 => 106 | 297 => 107 | 298 => 108 | 299 => 109 | 300 => 111 | 301 => 112 | 328 => 115 | 329 => 116 | 330 => 117 | 331 => 118 | 332 => 119 | 343 => 120 | n => n, fun | 0 => 0 | 3 => 3 | 4 => 4 | 5 => 5 | 9 => 9 | 28 => 23 | 46 => 53 | 51 => 162 | 53 => 165 | 131 => 176 | 182 => 171 | 183 => 172 | 218 => 180 | 222 => 184 | 228 => 186 | 229 => 187 | n => n, fun | n => n⟩
set_option maxRecDepth 100000 in
theorem laySort : Go.Proofs.Lays.n189 Tryd.prog laySort_ren := {
  mixed := by kernel_rfl
  f125 := Tryd.func102.trans (congrArg some (by kernel_rfl))
  f128 := Tryd.func113.trans (congrArg some (by kernel_rfl))
  f129 := Tryd.func114.trans (congrArg some (by kernel_rfl))
  f189 := Tryd.func93.trans (congrArg some (by kernel_rfl))
  f215 := Tryd.func103.trans (congrArg some (by kernel_rfl))
  f216 := Tryd.func110.trans (congrArg some (by kernel_rfl))
  f257 := Tryd.func101.trans (congrArg some (by kernel_rfl))
  f294 := Tryd.func104.trans (congrArg some (by kernel_rfl))
  f295 := Tryd.func105.trans (congrArg some (by kernel_rfl))
  f296 := Tryd.func106.trans (congrArg some (by kernel_rfl))
  f297 := Tryd.func107.trans (congrArg some (by kernel_rfl))
  f298 := Tryd.func108.trans (congrArg some (by kernel_rfl))
  f299 := Tryd.func109.trans (congrArg some (by kernel_rfl))
  f300 := Tryd.func111.trans (congrArg some (by kernel_rfl))
  f301 := Tryd.func112.trans (congrArg some (by kernel_rfl))
  f328 := Tryd.func115.trans (congrArg some (by kernel_rfl))
  f329 := Tryd.func116.trans (congrArg some (by kernel_rfl))
  f330 := Tryd.func117.trans (congrArg some (by kernel_rfl))
  f331 := Tryd.func118.trans (congrArg some (by kernel_rfl))
  f332 := Tryd.func119.trans (congrArg some (by kernel_rfl))
  f343 := Tryd.func120.trans (congrArg some (by kernel_rfl))
  t0 := Tryd.underlying0
  a0 := Tryd.isAgg0
  z0 := Tryd.sizeOf0
  v0 := Tryd.zeroValue0
  t3 := Tryd.underlying3
  a3 := Tryd.isAgg3
  z3 := Tryd.sizeOf3
  v3 := Tryd.zeroValue3
  t4 := Tryd.underlying4
  a4 := Tryd.isAgg4
  z4 := Tryd.sizeOf4
  v4 := Tryd.zeroValue4
  t5 := Tryd.underlying5
  a5 := Tryd.isAgg5
  z5 := Tryd.sizeOf5
  v5 := Tryd.zeroValue5
  t9 := Tryd.underlying9
  a9 := Tryd.isAgg9
  z9 := Tryd.sizeOf9
  v9 := Tryd.zeroValue9
  t28 := Tryd.underlying23
  a28 := Tryd.isAgg23
  z28 := Tryd.sizeOf23
  v28 := Tryd.zeroValue23
  t46 := Tryd.underlying53
  a46 := Tryd.isAgg53
  z46 := Tryd.sizeOf53
  v46 := Tryd.zeroValue53
  t51 := Tryd.underlying162
  a51 := Tryd.isAgg162
  z51 := Tryd.sizeOf162
  v51 := Tryd.zeroValue162
  t53 := Tryd.underlying165
  a53 := Tryd.isAgg165
  z53 := Tryd.sizeOf165
  v53 := Tryd.zeroValue165
  t131 := Tryd.underlying176
  a131 := Tryd.isAgg176
  z131 := Tryd.sizeOf176
  v131 := Tryd.zeroValue176
  t182 := Tryd.underlying171
  a182 := Tryd.isAgg171
  z182 := Tryd.sizeOf171
  v182 := Tryd.zeroValue171
  t183 := Tryd.underlying172
  a183 := Tryd.isAgg172
  z183 := Tryd.sizeOf172
  v183 := Tryd.zeroValue172
  t218 := Tryd.underlying180
  a218 := Tryd.isAgg180
  z218 := Tryd.sizeOf180
  v218 := Tryd.zeroValue180
  t222 := Tryd.underlying184
  a222 := Tryd.isAgg184
  z222 := Tryd.sizeOf184
  v222 := Tryd.zeroValue184
  t228 := Tryd.underlying186
  a228 := Tryd.isAgg186
  z228 := Tryd.sizeOf186
  v228 := Tryd.zeroValue186
  t229 := Tryd.underlying187
  a229 := Tryd.isAgg187
  z229 := Tryd.sizeOf187
  v229 := Tryd.zeroValue187 }
def srt (zs : List Int) : List Int := zs.mergeSort fun x y => decide (x ≤ y)
theorem srt_len (zs : List Int) : (srt zs).length = zs.length := by unfold srt; exact List.length_mergeSort _
theorem srt_mem {zs : List Int} {x : Int} : x ∈ srt zs ↔ x ∈ zs := by unfold srt; exact List.mem_mergeSort
theorem sort_any (zs : List Int) (n B : Nat) (v : Value) (w : World) (hn : zs.length = n) (hv : w.ownsRow B 3 1 v n (zs.map (Value.int .i64))) (hz : n ≤ 1000000) :
    Calls Tryd.prog 93 #[v] w fun e w' => e = .returned (.tuple #[]) ∧ w'.ownsRow B 3 1 v n ((srt zs).map (Value.int .i64)) ∧ w.grownBy w' v.ownBlock := by
  subst hn
  rcases hv.2 with ⟨rfl, h0⟩ | ⟨g, cap, cur, rfl, hb, hh, hc1, hc2, hc3, hc4⟩
  · obtain rfl : zs = [] := List.eq_nil_of_length_eq_zero h0
    refine (Any.slices_Sort_int_none laySort none 0 w).mono ?_
    rintro e w' ⟨rfl, rfl⟩
    rw [show srt [] = [] from List.eq_nil_of_length_eq_zero (by rw [srt_len]; rfl)]
    exact ⟨rfl, World.ownsRow_nil _ _ _ _, World.grownBy.refl _ _⟩
  · rw [Nat.mul_one] at hc4
    refine (Any.slices_Sort_int laySort g 0 cap zs w (holds_of_blockI hh hc4) (Has.lt hh) (by omega)).mono ?_
    rintro e w' ⟨rfl, n, os, rfl⟩
    exact ⟨rfl, ownsRow_sortedI (srt_len zs) hb hh hc1 hc2 hc3, grownBy_sortedI _⟩
end Go.Proofs.YtkiljnggphlomaaDoor
