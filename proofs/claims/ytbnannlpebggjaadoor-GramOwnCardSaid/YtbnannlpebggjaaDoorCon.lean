/- What slices.Grow (of nil) and Concat return at integers. Condition: 2^47 bytes. -/
import Derived.Test.YtbnannlpebggjaaDoorNis
import Derived.Lib.AppendZeros
import Derived.Lib.SliceRun
namespace Go.Proofs.YtbnannlpebggjaaDoor
open Go.RowKit
set_option maxRecDepth 100000 in
set_option maxHeartbeats 400000 in
theorem grow_nil (n : Nat) (w : World) (hn : n * 8 ≤ 140737488355328) :
    Calls Tryd.prog 20 #[.slice none 0 0, .int .i64 n] w fun e w' => ∃ r, e = .returned r ∧ w'.ownsRow w.heap.size 3 1 r 0 [] ∧ isNilS r = decide (n = 0) ∧ Below w.heap.size w w' := by
  obtain ⟨i0, hi, hz0, hz1, hz2⟩ := info_parts infoInt
  have h2 : (n : Int) ≤ 17592186044416 := by omega
  by_cases h0 : n = 0
  · subst h0
    go_enter Tryd.func20, Tryd.ntmps20
    go_wp2_with fail
    go_ret
    exact ⟨_, rfl, World.ownsRow_nil _ _ _ _, rfl, Below.refl _ _⟩
  · have hr := fun w ty => Lib.run_append_nil_zeros (P := Tryd.prog) w 29 3 ty 3 i0 (.int .i64 0) .i64 .i64 Tryd.underlying29 Tryd.underlying3 hi hz0 n (by omega) (by omega) (by omega) (by rw [hz2]; omega)
    have hp : 0 < (n : Int) := by omega
    have HN := hid h0
    have HR := hid hr
    have hge : n ≤ grownCap w n 0 3 := grownCap_ge w n 0 _
    clear h0 hr
    have hle : grownCap w n 0 3 ≤ maxLen := grownCap_le_maxLen w n 0 _ (by unfold maxLen; omega)
    go_enter Tryd.func20, Tryd.ntmps20
    go_wp2_with (at_builtin; refine Lib.wpList_append_run _ rfl _ _ _ _ rfl _ _ rfl rfl _ _ (HR.out _ _) ?_)
    go_ret
    refine ⟨_, rfl, ⟨rfl, .inr ⟨w.heap.size, _, _, rfl, Nat.le_refl _, heap_alloc_new w _, Nat.zero_le _, hle, ?_, rfl⟩⟩, ?_, ((Below.refl _ _).alloc (Nat.le_refl _) _).drew⟩
    · simp [Builtin.zeroCells]; omega
    · have := HN.out; simp [isNilS]; omega
theorem flat_take (ll : List (List Int)) (j : Nat) (h : j < ll.length) : (ll.take (j + 1)).flatten = (ll.take j).flatten ++ rowAt ll j := by
  rw [List.take_succ_eq_append_getElem h, List.flatten_append]
  unfold rowAt; rw [List.getD_eq_getElem?_getD, List.getElem?_eq_getElem h]; simp
def flen (ll : List (List Int)) (j : Nat) : Nat := (ll.take j).flatten.length
theorem flen_succ (ll : List (List Int)) (j : Nat) (h : j < ll.length) : flen ll (j + 1) = flen ll j + (rowAt ll j).length := by unfold flen; rw [flat_take ll j h, List.length_append]
theorem flat_len (ll : List (List Int)) (j : Nat) : (ll.take j).flatten.length ≤ ll.flatten.length := by
  have h : ll.flatten = (ll.take j).flatten ++ (ll.drop j).flatten := by rw [← List.flatten_append, List.take_append_drop]
  rw [h, List.length_append]; omega
set_option maxRecDepth 100000 in
set_option maxHeartbeats 400000 in
theorem concat_any (ll : List (List Int)) (F : Nat → Prop) (v : Value) (w : World) (hF : ∀ b, F b → b < w.heap.size) (hv : RowsIn F w v ll) (hz : ll.flatten.length * 8 ≤ 140737488355328) :
    Calls Tryd.prog 14 #[v] w fun e w' => ∃ r, e = .returned r ∧ w'.ownsRow w.heap.size 3 1 r ll.flatten.length (ll.flatten.map (Value.int .i64)) ∧ Below w.heap.size w w' := by
  have H := hid hv
  have HF := hid hF
  obtain ⟨A, c, rfl, h1, h3⟩ := hv
  have H3 := hid h3
  obtain ⟨T, hT⟩ : ∃ T, T = ll.flatten.length := ⟨_, rfl⟩
  have HT := hid hT
  rw [← hT] at hz
  have hz2 : T ≤ 17592186044416 := by omega
  have fl : ∀ j, flen ll j ≤ T := fun j => by rw [hT]; exact flat_len ll j
  have FL := hid fl
  unfold maxLen at h1
  clear h3 hF hz fl hT
  obtain ⟨i0, hi, hz0, hz1, hz2'⟩ := info_parts infoInt
  go_enter Tryd.func14, Tryd.ntmps14
  go_wp2_with fail
  go_loop [3, 11] (fun sz i => ∃ j : Nat, j ≤ ll.length ∧ i = .int .i64 j ∧ sz = .int .i64 (flen ll j : Nat)) (fun _ i => ll.length - (intOf i).toNat)
  case atStart => exact ⟨0, Nat.zero_le _, rfl, rfl⟩
  case round =>
    obtain ⟨j, hj, rfl, rfl⟩ := hrel
    have s0 := FL.out j
    by_cases hlt : j < ll.length
    · obtain ⟨b, o, rfl, hb, hc⟩ := H3.out (by omega)
      obtain ⟨r, hr, ⟨A2, c2, rfl, l2, _, _⟩⟩ := hc j hlt
      have i1 : (j : Int) < (ll.length : Int) := by omega
      have s1 := FL.out (j + 1)
      have E : Hid (flen ll (j + 1) = flen ll j + (rowAt ll j).length) := flen_succ ll j hlt
      rw [E.out] at s1
      clear hc l2
      go_wp2_with fail
      go_round
      case rel => exact ⟨j + 1, by omega, by go_num, by rw [E.out]; go_num⟩
      case measure => simp [intOf]; omega
    · obtain rfl : j = ll.length := by omega
      have E : Hid (flen ll ll.length = T) := by show _ = _; unfold flen; rw [List.take_length, HT.out]
      rw [E.out]
      clear s0
      go_wp2_with fail
      refine (grow_nil T _ (by omega)).mono ?_
      rintro e w1 ⟨r1, rfl, hown, _, hb1⟩
      have B1 := hid hb1
      clear hb1
      go_wp2_with fail
      go_loopw [6, 27] (fun out i wr => ∃ j : Nat, j ≤ ll.length ∧ i = .int .i64 j ∧ wr.ownsRow w.heap.size 3 1 out (flen ll j) ((ll.take j).flatten.map (Value.int .i64)) ∧ Hid (Below w.heap.size w wr)) (fun _ i _ => ll.length - (intOf i).toNat)
      case atStart => exact ⟨0, Nat.zero_le _, rfl, hown, B1⟩
      case round =>
        obtain ⟨j, hj, rfl, hown, hB⟩ := hrel
        by_cases hlt : j < ll.length
        · obtain ⟨b, o, rfl, hb, hc⟩ := H3.out (by omega)
          obtain ⟨r, hr, i2⟩ := hc j hlt
          have lb := HF.out b hb
          have hr' := (hB.out.cell (p := ⟨b, o + j, none⟩) lb).trans hr
          have I2 := hid ((i2.keep (Same.of_below hB.out HF.out)).cells)
          obtain ⟨A2, c2, rfl, l2, _, _⟩ := i2
          have i1 : (j : Int) < (ll.length : Int) := by omega
          have s1 := FL.out (j + 1)
          have E : Hid ((ll.take (j + 1)).flatten = (ll.take j).flatten ++ rowAt ll j) := flat_take ll j hlt
          have E3 : Hid (flen ll (j + 1) = flen ll j + (rowAt ll j).length) := flen_succ ll j hlt
          rw [E3.out] at s1
          clear hc l2 hr
          go_wp2_with (at_builtin; refine wpList_app _ rfl (.tmp 31) (.tmp 32) 29 rfl w.heap.size 3 i0 (.int .i64 0) 1 8 Tryd.underlying29 hi hz0 hz1 hz2' rfl (by decide) _ _ _ rfl hown _ _ _ _ rfl I2.out (ints_one _ _) (by unfold maxLen; omega) (by omega) hB.out.size ?_; intro v1 w2 hown2 hgrow _; have B2 : Below w.heap.size wr w2 := (Below.refl _ _).grown hgrow hB.out.size (own_ge hown); clear hr')
          go_roundw
          case rel => exact ⟨j + 1, by omega, by go_num, by rw [E3.out, E.out, List.map_append]; exact hown2, hB.out.trans B2⟩
          case measure => simp [intOf]; omega
        · obtain rfl : j = ll.length := by omega
          unfold flen at hown
          rw [List.take_length] at hown
          go_wp2_with fail
          go_ret
          exact ⟨_, rfl, hown, hB.out⟩
end Go.Proofs.YtbnannlpebggjaaDoor
