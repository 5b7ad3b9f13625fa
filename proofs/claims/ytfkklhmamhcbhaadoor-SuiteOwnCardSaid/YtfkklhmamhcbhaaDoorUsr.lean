/- slices.Sort, slices.Compact and slices.Clone at uint32, said of rows that the call owns. Conditions: at most a million numbers, or 2^47 bytes. -/
import Derived.Test.YtfkklhmamhcbhaaDoorSqj
import Derived.Test.YtfkklhmamhcbhaaDoorOwh
import Derived.Test.YtfkklhmamhcbhaaDoorNis
import Derived.Sort.OwnSorted
import Derived.Shelf.SlicesE.Compact
namespace Go.Proofs.YtfkklhmamhcbhaaDoor
open Go.RowKit Go.Deep Go.Shelf Go.Sort Go.Lib
theorem infoU32 : (Tryd.prog.info? 30).map (fun i => (i.zero, i.size, i.bytes)) = some (some (.int .u32 0), 1, 4) := by kernel_rfl
section
variable {k : IntKind} {w : World} {g n cap base : Nat} {cur : Array Value} {e : TypeId} {os : Array Obj}
theorem holds_own {ss : List Int} (hb : w.heap[g]? = some (.cells cur e (0, 0))) (ht : cur.toList.take ss.length = ss.map (Value.int k)) : Holds (Value.int k) w g 0 ss.toArray := by
  intro j hj
  have hj' : j < ss.length := by simpa using hj
  refine ⟨?_, by simp [World.frozen?, hb]⟩
  have h1 : (cur.toList.take ss.length)[j]? = (ss.map (Value.int k))[j]? := by rw [ht]
  rw [List.getElem?_take_of_lt hj'] at h1
  simp only [World.cell?, hb, Nat.zero_add]
  simp only [Option.isSome_none, Bool.false_eq_true, if_false]
  rw [← Array.getElem?_toList, h1]
  simp [hj']
theorem grown_put (d : Array Int) : w.grownBy (grow (putRow (Value.int k) (Sort.ahead w n) g 0 d) os) (some g) := by
  refine ⟨rfl, rfl, rfl, by simp, fun m hm hne => ?_⟩
  rw [heap_grow_old _ _ (by simpa using hm)]
  have : g ≠ m := fun e => hne (by rw [e])
  simp [putRow, mapBlock, Sort.ahead, Array.getElem?_modify, this]
theorem own_put {ss ts : List Int} (hl : ts.length = ss.length) (hbase : base ≤ g) (hb : w.heap[g]? = some (.cells cur e (0, 0))) (h1 : ss.length ≤ cap) (h2 : cap ≤ maxLen) (h3 : cur.size = cap * 1) :
    (grow (putRow (Value.int k) (Sort.ahead w n) g 0 ts.toArray) os).ownsRow base e 1 (.slice (some ⟨g, 0, none⟩) ss.length cap) ss.length (ts.map (Value.int k)) := by
  have hg : g < w.heap.size := (Array.getElem?_eq_some_iff.1 hb).1
  have hp : (grow (putRow (Value.int k) (Sort.ahead w n) g 0 ts.toArray) os).heap[g]? = some (.cells (putCells (Value.int k) 0 ts.toArray cur) e (0, 0)) := by
    rw [heap_grow_old _ _ (by simpa using hg)]
    simp [putRow, mapBlock, Sort.ahead, Array.getElem?_modify, hb, onCells]
  refine ⟨by simp [hl], .inr ⟨g, cap, _, rfl, hbase, hp, h1, h2, by simp [putCells, h3], ?_⟩⟩
  rw [Nat.mul_one, ← hl]
  apply List.ext_getElem?
  intro j
  by_cases hj : j < ts.length
  · rw [List.getElem?_take_of_lt hj, Array.getElem?_toList]
    simp [putCells, hj, show j < cur.size by omega]
  · rw [List.getElem?_take_eq_none (by omega), List.getElem?_eq_none (by simp; omega)]
end
def srt (zs : List Int) : List Int := zs.mergeSort fun x y => decide (x ≤ y)
theorem srt_len (zs : List Int) : (srt zs).length = zs.length := by unfold srt; exact List.length_mergeSort _
theorem srt_mem {zs : List Int} {x : Int} : x ∈ srt zs ↔ x ∈ zs := by unfold srt; exact List.mem_mergeSort
theorem usort_any (zs : List Int) (n B : Nat) (v : Value) (w : World) (hn : zs.length = n) (hv : w.ownsRow B 30 1 v n (zs.map (Value.int .u32))) (hz : n ≤ 1000000) :
    Calls Tryd.prog 22 #[v] w fun e w' => e = .returned (.tuple #[]) ∧ w'.ownsRow B 30 1 v n ((srt zs).map (Value.int .u32)) ∧ w.grownBy w' v.ownBlock := by
  subst hn
  rcases hv.2 with ⟨rfl, h0⟩ | ⟨g, cap, cur, rfl, hb, hh, hc1, hc2, hc3, hc4⟩
  · obtain rfl : zs = [] := List.eq_nil_of_length_eq_zero h0
    refine (su_Sort_nil none 0 w).mono ?_
    rintro e w' ⟨rfl, rfl⟩
    rw [show srt [] = [] from List.eq_nil_of_length_eq_zero (by rw [srt_len]; rfl)]
    exact ⟨rfl, World.ownsRow_nil _ _ _ _, World.grownBy.refl _ _⟩
  · rw [Nat.mul_one] at hc4
    refine (su_sort g 0 cap zs w (holds_own hh hc4) (Has.lt hh) (by omega)).mono ?_
    rintro e w' ⟨rfl, n, os, rfl⟩
    exact ⟨rfl, own_put (srt_len zs) hb hh hc1 hc2 hc3, grown_put _⟩
def layUcmp_ren : Go.Shelf.Ren := ⟨fun | 43 => 23 | n => n, fun | 0 => 0 | 3 => 3 | 4 => 4 | 22 => 22 | 23 => 30 | n => n, fun | n => n⟩
set_option maxRecDepth 100000 in
theorem layUcmp : SlLaysE.n43 Tryd.prog layUcmp_ren := {
  mixed := by kernel_rfl
  f43 := ⟨"slices.Compact[[]uint32,uint32]", by decide, Tryd.func23.trans (congrArg some (by kernel_rfl))⟩
  t0 := Tryd.underlying0
  a0 := Tryd.isAgg0
  z0 := Tryd.sizeOf0
  v0 := Tryd.zeroValue0
  t3 := Tryd.underlying3
  a3 := Tryd.isAgg3
  z3 := Tryd.sizeOf3
  v3 := Tryd.zeroValue3
  t4 := Tryd.underlying4
  a4 := Tryd.isAgg4
  z4 := Tryd.sizeOf4
  v4 := Tryd.zeroValue4
  t22 := Tryd.underlying22
  a22 := Tryd.isAgg22
  z22 := Tryd.sizeOf22
  v22 := Tryd.zeroValue22
  a23 := Tryd.isAgg30
  z23 := Tryd.sizeOf30 }
theorem compact_len (zs : List Int) : (compact zs).length ≤ zs.length := by
  unfold compact compactUpTo
  rw [List.length_map]
  have := List.length_filter_le (keeps zs.toArray) (List.range zs.length)
  simpa using this
theorem own_prefix {w : World} {B g n m cap : Nat} {e : TypeId} {xs : List Value} (h : w.ownsRow B e 1 (.slice (some ⟨g, 0, none⟩) n cap) n xs) (hm : m ≤ n) : w.ownsRow B e 1 (.slice (some ⟨g, 0, none⟩) m cap) m (xs.take m) := by
  have hx : xs.length = n * 1 := h.1
  rcases h.2 with ⟨e, _⟩ | ⟨g', cap', cur, e, hb, hh, hc1, hc2, hc3, hc4⟩
  · cases e
  · injection e with e1 _ e3
    injection e1 with e1
    injection e1 with e1 _ _
    subst e1 e3
    refine ⟨by rw [List.length_take]; omega, .inr ⟨g, cap, cur, rfl, hb, hh, by omega, hc2, hc3, ?_⟩⟩
    rw [← hc4, List.take_take]
    congr 1
    omega
set_option maxRecDepth 100000 in
set_option maxHeartbeats 400000 in
theorem ucomp_nil (n : Nat) (a : Option Addr) (hn : n = 0) (cap : Nat) (w : World) : Calls Tryd.prog 23 #[.slice a n cap] w fun e w' => e = .returned (.slice a n cap) ∧ w' = w := by
  subst hn
  go_enter Tryd.func23, Tryd.ntmps23
  go_wp2
  go_ret
  exact ⟨rfl, rfl⟩
theorem ucomp_any (zs : List Int) (n B : Nat) (v : Value) (w : World) (hn : zs.length = n) (hv : w.ownsRow B 30 1 v n (zs.map (Value.int .u32))) (hz : n ≤ 1000000) :
    Calls Tryd.prog 23 #[v] w fun e w' => ∃ r, e = .returned r ∧ w'.ownsRow B 30 1 r (compact zs).length ((compact zs).map (Value.int .u32)) ∧ w.grownBy w' v.ownBlock ∧ r.ownBlock = v.ownBlock := by
  subst hn
  rcases hv.2 with ⟨rfl, h0⟩ | ⟨g, cap, cur, rfl, hb, hh, hc1, hc2, hc3, hc4⟩
  · obtain rfl : zs = [] := List.eq_nil_of_length_eq_zero h0
    refine (ucomp_nil 0 none rfl 0 w).mono ?_
    rintro e w' ⟨rfl, rfl⟩
    exact ⟨_, rfl, World.ownsRow_nil _ _ _ _, World.grownBy.refl _ _, rfl⟩
  · rw [Nat.mul_one] at hc4
    refine (AnyE.slices_Compact layUcmp (Value.int .u32) (fun _ => rfl) (EqlAt.intD _ _ .u32) (NeqAt.intD _ _ .u32) 0 Tryd.zeroValue30 g 0 cap zs.toArray w (holds_own hh hc4) (by simp; omega) (by simpa using hc1)).mono ?_
    rintro e w' ⟨rfl, q, rfl⟩
    have hle := compact_len zs
    have he : compactUpTo zs.toArray zs.toArray.size = compact zs := by unfold compact; simp
    rw [he]
    have h1 := own_put (k := .u32) (w := w) (base := B) (n := q) (os := #[]) (ts := compact zs ++ List.replicate (zs.length - (compact zs).length) 0) (ss := zs) (by simp; omega) hb hh hc1 hc2 hc3
    have h2 := grown_put (k := .u32) (w := w) (g := g) (n := q) (os := #[]) (compact zs ++ List.replicate (zs.length - (compact zs).length) 0).toArray
    rw [grow_empty] at h1 h2
    have h3 := own_prefix h1 hle
    rw [List.map_append, List.take_append_of_le_length (by simp), List.take_of_length_le (by simp)] at h3
    exact ⟨_, rfl, h3, h2, rfl⟩
set_option maxRecDepth 100000 in
set_option maxHeartbeats 400000 in
theorem uclone_any (zs : List Int) (F : Nat → Prop) (v : Value) (w : World) (hF : ∀ b, F b → b < w.heap.size) (hv : IntsIn .u32 F w v zs) (hz : zs.length * 4 ≤ 140737488355328) :
    Calls Tryd.prog 21 #[v] w fun e w' => ∃ r, e = .returned r ∧ w'.ownsRow w.heap.size 30 1 r zs.length (zs.map (Value.int .u32)) ∧ isNilS r = isNilS v ∧ Below w.heap.size w w' := by
  have H := hid hv
  have HF := hid hF
  obtain ⟨A, c, rfl, h1, _, h3⟩ := hv
  have HZ := hid hz
  have h2 : zs.length ≤ 35184372088832 := by omega
  clear h1 hF hz
  obtain ⟨i0, hi, hz0, hz1, hz2⟩ := info_parts infoU32
  have eqn := fun w => Lib.run_eql_slice_nil (P := Tryd.prog) w 22 30 A zs.length c 0 0 Tryd.underlying22
  cases A with
  | none =>
    have h0 : zs.length = 0 := by
      rcases Nat.eq_zero_or_pos zs.length with h | h
      · exact h
      · obtain ⟨_, _, h, _⟩ := h3 h; cases h
    obtain rfl : zs = [] := List.eq_nil_of_length_eq_zero h0
    clear h3 h0
    simp at eqn
    go_enter Tryd.func21, Tryd.ntmps21
    go_wp2_with fail
    go_ret
    exact ⟨_, rfl, World.ownsRow_nil _ _ _ _, rfl, Below.refl _ _⟩
  | some a =>
    clear h3
    simp at eqn
    have O0 := hid (World.ownsRow_lit (e := 30) (size := 1) (base := w.heap.size) w #[] 0 (Nat.le_refl _) (by unfold maxLen; omega) rfl)
    have C0 := hid (H.out.cells.keep (w' := w.alloc (Obj.cells #[] 30)) (fun b hb => Below.heap_alloc _ _ _ (HF.out b hb)))
    go_enter Tryd.func21, Tryd.ntmps21
    go_wp2_with (at_builtin; refine wpList_app _ rfl (.tmp 5) (.tmp 6) 22 rfl w.heap.size 30 i0 (.int .u32 0) 1 4 Tryd.underlying22 hi hz0 hz1 hz2 rfl (by decide) _ 0 [] rfl O0.out _ _ zs.length _ rfl C0.out (ints_one _ _) (by unfold maxLen; omega) (by omega) (by simp) ?_; intro v1 w1 hown hgrow hat; have B1 : Below w.heap.size w w1 := ((Below.refl _ _).alloc (Nat.le_refl _) _).grown hgrow (by simp) (own_ge O0.out); replace hown : w1.ownsRow w.heap.size 30 1 v1 zs.length (zs.map (Value.int .u32)) := (by simpa using hown); have hnil : isNilS v1 = false := (by rcases hat with h | h; exact nil_of_block (h.trans rfl); exact nil_of_block h))
    go_ret
    exact ⟨_, rfl, hown, hnil, B1⟩
end Go.Proofs.YtfkklhmamhcbhaaDoor
