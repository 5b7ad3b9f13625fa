/- The library's slices.Compact at integers: the shelf's contract, laid at this dump, and said of a row that the call owns. No conditions but its own. -/
import Derived.Test.YtmhledlcfbjfkaaDoorSrt
import Derived.Shelf.Slices.CompactI
namespace Go.Proofs.YtmhledlcfbjfkaaDoor
open Go.RowKit Go.Deep Go.Shelf Go.Sort Go.Lib
def layComp_ren : Go.Shelf.Ren := ⟨fun | 20 => 13 | n => n, fun | 0 => 0 | 3 => 3 | 4 => 4 | 22 => 23 | n => n, fun | n => n⟩
set_option maxRecDepth 100000 in
theorem layComp : Go.Proofs.Lays2.n20 Tryd.prog layComp_ren := {
  mixed := by kernel_rfl
  f20 := Tryd.func13.trans (congrArg some (by kernel_rfl))
  t0 := Tryd.underlying0
  a0 := Tryd.isAgg0
  z0 := Tryd.sizeOf0
  v0 := Tryd.zeroValue0
  t3 := Tryd.underlying3
  a3 := Tryd.isAgg3
  z3 := Tryd.sizeOf3
  v3 := Tryd.zeroValue3
  i3 := by kernel_rfl
  t4 := Tryd.underlying4
  a4 := Tryd.isAgg4
  z4 := Tryd.sizeOf4
  v4 := Tryd.zeroValue4
  t22 := Tryd.underlying23
  a22 := Tryd.isAgg23
  z22 := Tryd.sizeOf23
  v22 := Tryd.zeroValue23 }
theorem compact_len (zs : List Int) : (compact zs).length ≤ zs.length := by
  unfold compact compactUpTo
  rw [List.length_map]
  have := List.length_filter_le (keeps zs.toArray) (List.range zs.length)
  simpa using this
theorem own_prefix {w : World} {B g n m cap : Nat} {e : TypeId} {xs : List Value} (h : w.ownsRow B e 1 (.slice (some ⟨g, 0, none⟩) n cap) n xs) (hm : m ≤ n) : w.ownsRow B e 1 (.slice (some ⟨g, 0, none⟩) m cap) m (xs.take m) := by
  have hx : xs.length = n * 1 := h.1
  rcases h.2 with ⟨e, _⟩ | ⟨g', cap', cur, e, hb, hh, hc1, hc2, hc3, hc4⟩
  · cases e
  · injection e with e1 _ e3
    injection e1 with e1
    injection e1 with e1 _ _
    subst e1 e3
    refine ⟨by rw [List.length_take]; omega, .inr ⟨g, cap, cur, rfl, hb, hh, by omega, hc2, hc3, ?_⟩⟩
    rw [← hc4, List.take_take]
    congr 1
    omega
theorem comp_any (zs : List Int) (n B : Nat) (v : Value) (w : World) (hn : zs.length = n) (hv : w.ownsRow B 3 1 v n (zs.map (Value.int .i64))) (hz : n ≤ 1000000) :
    Calls Tryd.prog 13 #[v] w fun e w' => ∃ r, e = .returned r ∧ w'.ownsRow B 3 1 r (compact zs).length ((compact zs).map (Value.int .i64)) ∧ w.grownBy w' v.ownBlock := by
  subst hn
  rcases hv.2 with ⟨rfl, h0⟩ | ⟨g, cap, cur, rfl, hb, hh, hc1, hc2, hc3, hc4⟩
  · obtain rfl : zs = [] := List.eq_nil_of_length_eq_zero h0
    refine (Any.slices_Compact_int_empty layComp none 0 w).mono ?_
    rintro e w' ⟨rfl, rfl⟩
    exact ⟨_, rfl, World.ownsRow_nil _ _ _ _, World.grownBy.refl _ _⟩
  · rw [Nat.mul_one] at hc4
    refine (Any.slices_Compact_int layComp g 0 cap zs w (holds_of_blockI hh hc4) (by omega) hc1).mono ?_
    rintro e w' ⟨rfl, q, rfl⟩
    have hle := compact_len zs
    have h1 := ownsRow_sortedI (w := w) (base := B) (n := q) (os := #[]) (ts := compact zs ++ List.replicate (zs.length - (compact zs).length) 0) (ss := zs) (by simp; omega) hb hh hc1 hc2 hc3
    have h2 := grownBy_sortedI (w := w) (g := g) (n := q) (os := #[]) (compact zs ++ List.replicate (zs.length - (compact zs).length) 0).toArray
    rw [grow_empty] at h1 h2
    have h3 := own_prefix h1 hle
    rw [List.map_append, List.take_append_of_le_length (by simp), List.take_of_length_le (by simp)] at h3
    exact ⟨_, rfl, h3, h2⟩
end Go.Proofs.YtmhledlcfbjfkaaDoor
