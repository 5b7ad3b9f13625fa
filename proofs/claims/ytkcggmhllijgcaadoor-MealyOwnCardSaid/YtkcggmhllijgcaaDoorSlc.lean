/- What slices.Index, Contains, Clone, Grow (of nil) and Concat return at slices of integers. Condition: what grows takes at most 2^47 bytes. -/
import Derived.Test.YtkcggmhllijgcaaDoorEql
import Derived.Test.YtkcggmhllijgcaaDoorRap
import Derived.Lib.AppendZeros
import Derived.Lib.SliceRun
namespace Go.Proofs.YtkcggmhllijgcaaDoor
open Go.RowKit
def ixOf (zs : List Int) (x : Int) : Int := if x ∈ zs then (zs.idxOf x : Nat) else -1
theorem ix_at {zs : List Int} {x : Int} {j : Nat} (hj : j < zs.length) (hx : at0 zs j = x) (hold : ∀ k, k < j → at0 zs k ≠ x) : ixOf zs x = j := by
  have hm : x ∈ zs := by rw [← hx]; exact mem_at hj
  unfold ixOf
  rw [if_pos hm]
  have h1 : zs.idxOf x < zs.length := List.idxOf_lt_length_of_mem hm
  have h2 : at0 zs (zs.idxOf x) = x := by
    unfold at0; rw [List.getD_eq_getElem?_getD, List.getElem?_eq_getElem h1]
    simp [List.getElem_idxOf]
  have h3 : ¬ zs.idxOf x < j := fun h => hold _ h h2
  have h4 : zs.idxOf x ≤ j := by
    rcases Nat.lt_or_ge j (zs.idxOf x) with h | h
    · have := List.not_of_lt_findIdx (p := fun y => y == x) (xs := zs) (i := j) (by simpa [List.idxOf] using h)
      unfold at0 at hx; rw [List.getD_eq_getElem?_getD, List.getElem?_eq_getElem hj] at hx
      simp at hx; simp [hx] at this
    · exact h
  omega
theorem ix_none {zs : List Int} {x : Int} (hold : ∀ k, k < zs.length → at0 zs k ≠ x) : ixOf zs x = -1 := by
  unfold ixOf
  rw [if_neg]
  intro hm
  obtain ⟨i, hi, rfl⟩ := List.getElem_of_mem hm
  apply hold i hi
  unfold at0; rw [List.getD_eq_getElem?_getD, List.getElem?_eq_getElem hi]; rfl
theorem ix_ge {zs : List Int} {x : Int} : 0 ≤ ixOf zs x ↔ x ∈ zs := by
  unfold ixOf; split <;> simp [*]
theorem ix_lt {zs : List Int} {x : Int} : ixOf zs x < zs.length := by
  unfold ixOf; split
  · have := List.idxOf_lt_length_of_mem (a := x) (l := zs) (by assumption); omega
  · omega
set_option maxHeartbeats 400000 in
theorem index_any (zs : List Int) (x : Int) (F : Nat → Prop) (v : Value) (w : World) (hv : IntsIn .i64 F w v zs) :
    Calls Tryd.prog 39 #[v, .int .i64 x] w fun e w' => e = .returned (.int .i64 (ixOf zs x)) ∧ w = w' := by
  obtain ⟨A, c, rfl, h1, _, h3⟩ := hv
  have H := hid h3
  unfold maxLen at h1
  clear h3
  go_enter Tryd.func39, Tryd.ntmps39
  go_wp2_with fail
  go_loop [8] (fun i => ∃ j : Nat, j ≤ zs.length ∧ i = .int .i64 j ∧ Hid (∀ k, k < j → at0 zs k ≠ x)) (fun i => zs.length - (intOf i).toNat)
  case atStart => exact ⟨0, Nat.zero_le _, rfl, fun k hk => by omega⟩
  case round =>
    obtain ⟨j, hj, rfl, hold⟩ := hrel
    by_cases hlt : j < zs.length
    · obtain ⟨b, o, rfl, _, hc⟩ := H.out (by omega)
      have c1 : w.cell? ⟨b, o + j, none⟩ = some (.int .i64 (at0 zs j)) := hc j hlt
      have i1 : (j : Int) < (zs.length : Int) := by omega
      clear hc
      obtain ⟨y, hy⟩ : ∃ y, y = at0 zs j := ⟨_, rfl⟩
      rw [← hy] at c1
      have HY := hid hy
      clear hy
      by_cases hxy : x = y
      · have R : Hid (ixOf zs x = j) := ix_at hlt (by rw [← HY.out, hxy]) hold.out
        have e1 : (x == y) = true := by simp [hxy]
        clear hxy
        go_wp2_with fail
        go_ret
        exact ⟨by rw [R.out]; rfl, rfl⟩
      · have e1 : (x == y) = false := by simp [hxy]
        have N : Hid (∀ k, k < j + 1 → at0 zs k ≠ x) := fun k hk => by
          by_cases hkj : k = j
          · subst hkj; rw [← HY.out]; exact fun h => hxy h.symm
          · exact hold.out k (by omega)
        clear hxy
        go_wp2_with fail
        go_round
        case rel => exact ⟨j + 1, by omega, by go_num, N⟩
        case measure => simp [intOf]; omega
    · have R : Hid (ixOf zs x = -1) := ix_none fun k hk => hold.out k (by omega)
      go_wp2_with fail
      go_ret
      exact ⟨by rw [R.out]; rfl, rfl⟩
set_option maxHeartbeats 400000 in
theorem contains_any (zs : List Int) (x : Int) (F : Nat → Prop) (v : Value) (w : World) (hv : IntsIn .i64 F w v zs) :
    Calls Tryd.prog 38 #[v, .int .i64 x] w fun e w' => e = .returned (.bool (decide (x ∈ zs))) ∧ w = w' := by
  have H := hid hv
  obtain ⟨A, c, rfl, h1, _, _⟩ := hv
  have R : Hid (decide (0 ≤ ixOf zs x) = decide (x ∈ zs)) := by show _ = _; rw [decide_eq_decide]; exact ix_ge
  go_enter Tryd.func38, Tryd.ntmps38
  go_wp2_with (go_at_call 39; refine (index_any zs x F _ _ H.out).mono ?_; rintro e w' ⟨rfl, rfl⟩)
  go_ret
  exact ⟨by rw [← R.out]; rfl, rfl⟩
def isNilS : Value → Bool
  | .slice a _ _ => a.isNone
  | _ => false
theorem nil_of_block {v : Value} {g : Nat} (h : v.ownBlock = some g) : isNilS v = false := by
  cases v <;> simp [Value.ownBlock] at h
  rename_i a n c
  cases a <;> simp_all [isNilS]
set_option maxRecDepth 100000 in
set_option maxHeartbeats 400000 in
theorem clone_any (zs : List Int) (F : Nat → Prop) (v : Value) (w : World) (hF : ∀ b, F b → b < w.heap.size) (hv : IntsIn .i64 F w v zs) (hz : zs.length * 8 ≤ 140737488355328) :
    Calls Tryd.prog 29 #[v] w fun e w' => ∃ r, e = .returned r ∧ w'.ownsRow w.heap.size 3 1 r zs.length (zs.map (Value.int .i64)) ∧ isNilS r = isNilS v ∧ Below w.heap.size w w' := by
  have H := hid hv
  have HF := hid hF
  obtain ⟨A, c, rfl, h1, _, h3⟩ := hv
  have HZ := hid hz
  have h2 : zs.length ≤ 17592186044416 := by omega
  clear h1 hF hz
  obtain ⟨i0, hi, hz0, hz1, hz2⟩ := info_parts infoInt
  have eqn := fun w => Lib.run_eql_slice_nil (P := Tryd.prog) w 29 3 A zs.length c 0 0 Tryd.underlying29
  cases A with
  | none =>
    have h0 : zs.length = 0 := by
      rcases Nat.eq_zero_or_pos zs.length with h | h
      · exact h
      · obtain ⟨_, _, h, _⟩ := h3 h; cases h
    obtain rfl : zs = [] := List.eq_nil_of_length_eq_zero h0
    clear h3 h0
    simp at eqn
    go_enter Tryd.func29, Tryd.ntmps29
    go_wp2_with fail
    go_ret
    exact ⟨_, rfl, World.ownsRow_nil _ _ _ _, rfl, Below.refl _ _⟩
  | some a =>
    clear h3
    simp at eqn
    have O0 := hid (World.ownsRow_lit (e := 3) (size := 1) (base := w.heap.size) w #[] 0 (Nat.le_refl _) (by unfold maxLen; omega) rfl)
    have C0 := hid (H.out.cells.keep (w' := w.alloc (Obj.cells #[] 3)) (fun b hb => Below.heap_alloc _ _ _ (HF.out b hb)))
    go_enter Tryd.func29, Tryd.ntmps29
    go_wp2_with (at_builtin; refine wpList_app _ rfl (.tmp 5) (.tmp 6) 29 rfl w.heap.size 3 i0 (.int .i64 0) 1 8 Tryd.underlying29 hi hz0 hz1 hz2 rfl (by decide) _ 0 [] rfl O0.out _ _ zs.length _ rfl C0.out (ints_one _ _) (by unfold maxLen; omega) (by omega) (by simp) ?_; intro v1 w1 hown hgrow hat; have B1 : Below w.heap.size w w1 := ((Below.refl _ _).alloc (Nat.le_refl _) _).grown hgrow (by simp) (own_ge O0.out); replace hown : w1.ownsRow w.heap.size 3 1 v1 zs.length (zs.map (Value.int .i64)) := (by simpa using hown); have hnil : isNilS v1 = false := (by rcases hat with h | h; exact nil_of_block (h.trans rfl); exact nil_of_block h))
    go_ret
    exact ⟨_, rfl, hown, hnil, B1⟩
set_option maxRecDepth 100000 in
set_option maxHeartbeats 400000 in
theorem grow_nil (n : Nat) (w : World) (hn : n * 8 ≤ 140737488355328) :
    Calls Tryd.prog 49 #[.slice none 0 0, .int .i64 n] w fun e w' => ∃ r, e = .returned r ∧ w'.ownsRow w.heap.size 3 1 r 0 [] ∧ isNilS r = decide (n = 0) ∧ Below w.heap.size w w' := by
  obtain ⟨i0, hi, hz0, hz1, hz2⟩ := info_parts infoInt
  have h2 : (n : Int) ≤ 17592186044416 := by omega
  by_cases h0 : n = 0
  · subst h0
    go_enter Tryd.func49, Tryd.ntmps49
    go_wp2_with fail
    go_ret
    exact ⟨_, rfl, World.ownsRow_nil _ _ _ _, rfl, Below.refl _ _⟩
  · have hr := fun w ty => Lib.run_append_nil_zeros (P := Tryd.prog) w 29 3 ty 3 i0 (.int .i64 0) .i64 .i64 Tryd.underlying29 Tryd.underlying3 hi hz0 n (by omega) (by omega) (by omega) (by rw [hz2]; omega)
    have hp : 0 < (n : Int) := by omega
    have HN := hid h0
    have HR := hid hr
    have hge : n ≤ grownCap w n 0 3 := grownCap_ge w n 0 _
    clear h0 hr
    have hle : grownCap w n 0 3 ≤ maxLen := grownCap_le_maxLen w n 0 _ (by unfold maxLen; omega)
    go_enter Tryd.func49, Tryd.ntmps49
    go_wp2_with (at_builtin; refine Lib.wpList_append_run _ rfl _ _ _ _ rfl _ _ rfl rfl _ _ (HR.out _ _) ?_)
    go_ret
    refine ⟨_, rfl, ⟨rfl, .inr ⟨w.heap.size, _, _, rfl, Nat.le_refl _, heap_alloc_new w _, Nat.zero_le _, hle, ?_, rfl⟩⟩, ?_, ((Below.refl _ _).alloc (Nat.le_refl _) _).drew⟩
    · simp [Builtin.zeroCells]; omega
    · have := HN.out; simp [isNilS]; omega
theorem flat_take (ll : List (List Int)) (j : Nat) (h : j < ll.length) : (ll.take (j + 1)).flatten = (ll.take j).flatten ++ rowAt ll j := by
  rw [List.take_succ_eq_append_getElem h, List.flatten_append]
  unfold rowAt; rw [List.getD_eq_getElem?_getD, List.getElem?_eq_getElem h]; simp
def flen (ll : List (List Int)) (j : Nat) : Nat := (ll.take j).flatten.length
theorem flen_succ (ll : List (List Int)) (j : Nat) (h : j < ll.length) : flen ll (j + 1) = flen ll j + (rowAt ll j).length := by unfold flen; rw [flat_take ll j h, List.length_append]
theorem flat_len (ll : List (List Int)) (j : Nat) : (ll.take j).flatten.length ≤ ll.flatten.length := by
  have h : ll.flatten = (ll.take j).flatten ++ (ll.drop j).flatten := by rw [← List.flatten_append, List.take_append_drop]
  rw [h, List.length_append]; omega
set_option maxRecDepth 100000 in
set_option maxHeartbeats 400000 in
theorem concat_any (ll : List (List Int)) (F : Nat → Prop) (v : Value) (w : World) (hF : ∀ b, F b → b < w.heap.size) (hv : RowsIn F w v ll) (hz : ll.flatten.length * 8 ≤ 140737488355328) :
    Calls Tryd.prog 40 #[v] w fun e w' => ∃ r, e = .returned r ∧ w'.ownsRow w.heap.size 3 1 r ll.flatten.length (ll.flatten.map (Value.int .i64)) ∧ Below w.heap.size w w' := by
  have H := hid hv
  have HF := hid hF
  obtain ⟨A, c, rfl, h1, h3⟩ := hv
  have H3 := hid h3
  obtain ⟨T, hT⟩ : ∃ T, T = ll.flatten.length := ⟨_, rfl⟩
  have HT := hid hT
  rw [← hT] at hz
  have hz2 : T ≤ 17592186044416 := by omega
  have fl : ∀ j, flen ll j ≤ T := fun j => by rw [hT]; exact flat_len ll j
  have FL := hid fl
  unfold maxLen at h1
  clear h3 hF hz fl hT
  obtain ⟨i0, hi, hz0, hz1, hz2'⟩ := info_parts infoInt
  go_enter Tryd.func40, Tryd.ntmps40
  go_wp2_with fail
  go_loop [3, 11] (fun sz i => ∃ j : Nat, j ≤ ll.length ∧ i = .int .i64 j ∧ sz = .int .i64 (flen ll j : Nat)) (fun _ i => ll.length - (intOf i).toNat)
  case atStart => exact ⟨0, Nat.zero_le _, rfl, rfl⟩
  case round =>
    obtain ⟨j, hj, rfl, rfl⟩ := hrel
    have s0 := FL.out j
    by_cases hlt : j < ll.length
    · obtain ⟨b, o, rfl, hb, hc⟩ := H3.out (by omega)
      obtain ⟨r, hr, ⟨A2, c2, rfl, l2, _, _⟩⟩ := hc j hlt
      have i1 : (j : Int) < (ll.length : Int) := by omega
      have s1 := FL.out (j + 1)
      have E : Hid (flen ll (j + 1) = flen ll j + (rowAt ll j).length) := flen_succ ll j hlt
      rw [E.out] at s1
      clear hc l2
      go_wp2_with fail
      go_round
      case rel => exact ⟨j + 1, by omega, by go_num, by rw [E.out]; go_num⟩
      case measure => simp [intOf]; omega
    · obtain rfl : j = ll.length := by omega
      have E : Hid (flen ll ll.length = T) := by show _ = _; unfold flen; rw [List.take_length, HT.out]
      rw [E.out]
      clear s0
      go_wp2_with fail
      refine (grow_nil T _ (by omega)).mono ?_
      rintro e w1 ⟨r1, rfl, hown, _, hb1⟩
      have B1 := hid hb1
      clear hb1
      go_wp2_with fail
      go_loopw [6, 27] (fun out i wr => ∃ j : Nat, j ≤ ll.length ∧ i = .int .i64 j ∧ wr.ownsRow w.heap.size 3 1 out (flen ll j) ((ll.take j).flatten.map (Value.int .i64)) ∧ Hid (Below w.heap.size w wr)) (fun _ i _ => ll.length - (intOf i).toNat)
      case atStart => exact ⟨0, Nat.zero_le _, rfl, hown, B1⟩
      case round =>
        obtain ⟨j, hj, rfl, hown, hB⟩ := hrel
        by_cases hlt : j < ll.length
        · obtain ⟨b, o, rfl, hb, hc⟩ := H3.out (by omega)
          obtain ⟨r, hr, i2⟩ := hc j hlt
          have lb := HF.out b hb
          have hr' := (hB.out.cell (p := ⟨b, o + j, none⟩) lb).trans hr
          have I2 := hid ((i2.keep (Same.of_below hB.out HF.out)).cells)
          obtain ⟨A2, c2, rfl, l2, _, _⟩ := i2
          have i1 : (j : Int) < (ll.length : Int) := by omega
          have s1 := FL.out (j + 1)
          have E : Hid ((ll.take (j + 1)).flatten = (ll.take j).flatten ++ rowAt ll j) := flat_take ll j hlt
          have E3 : Hid (flen ll (j + 1) = flen ll j + (rowAt ll j).length) := flen_succ ll j hlt
          rw [E3.out] at s1
          clear hc l2 hr
          go_wp2_with (at_builtin; refine wpList_app _ rfl (.tmp 31) (.tmp 32) 29 rfl w.heap.size 3 i0 (.int .i64 0) 1 8 Tryd.underlying29 hi hz0 hz1 hz2' rfl (by decide) _ _ _ rfl hown _ _ _ _ rfl I2.out (ints_one _ _) (by unfold maxLen; omega) (by omega) hB.out.size ?_; intro v1 w2 hown2 hgrow _; have B2 : Below w.heap.size wr w2 := (Below.refl _ _).grown hgrow hB.out.size (own_ge hown); clear hr')
          go_roundw
          case rel => exact ⟨j + 1, by omega, by go_num, by rw [E3.out, E.out, List.map_append]; exact hown2, hB.out.trans B2⟩
          case measure => simp [intOf]; omega
        · obtain rfl : j = ll.length := by omega
          unfold flen at hown
          rw [List.take_length] at hown
          go_wp2_with fail
          go_ret
          exact ⟨_, rfl, hown, hB.out⟩
end Go.Proofs.YtkcggmhllijgcaaDoor
