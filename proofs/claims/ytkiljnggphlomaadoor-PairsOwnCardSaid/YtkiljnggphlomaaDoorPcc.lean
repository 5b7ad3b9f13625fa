/- What slices.Grow (of nil) and Concat (of two) return at rows. Condition: 2^47 bytes. -/
import Derived.Test.YtkiljnggphlomaaDoorPgr
namespace Go.Proofs.YtkiljnggphlomaaDoor
open Go.RowKit Go.Deep
set_option maxRecDepth 100000 in
set_option maxHeartbeats 400000 in
theorem rgrow_nil (n : Nat) (w : World) (hn : n ≤ 1000000) :
    Calls Tryd.prog 79 #[.slice none 0 0, .int .i64 n] w fun e w' => ∃ r, e = .returned r ∧ w'.ownsRow w.heap.size 23 1 r 0 [] ∧ Below w.heap.size w w' := by
  obtain ⟨i0, hi, hz0, hz1, hz2⟩ := info_parts infoRow
  have h2 : (n : Int) ≤ 17592186044416 := by omega
  by_cases h0 : n = 0
  · subst h0
    go_enter Tryd.func79, Tryd.ntmps79
    go_wp2_with fail
    go_ret
    exact ⟨_, rfl, World.ownsRow_nil _ _ _ _, Below.refl _ _⟩
  · have hr := fun w ty => Lib.run_append_nil_zeros (P := Tryd.prog) w 37 3 ty 23 i0 (.slice none 0 0) .i64 .i64 Tryd.underlying37 Tryd.underlying3 hi hz0 n (by omega) (by omega) (by omega) (by rw [hz2]; omega)
    have hp : 0 < (n : Int) := by omega
    have HN := hid h0
    have HR := hid hr
    have hge : n ≤ grownCap w n 0 23 := grownCap_ge w n 0 _
    clear h0 hr
    have hle : grownCap w n 0 23 ≤ maxLen := grownCap_le_maxLen w n 0 _ (by unfold maxLen; omega)
    go_enter Tryd.func79, Tryd.ntmps79
    go_wp2_with (at_builtin; refine Lib.wpList_append_run _ rfl _ _ _ _ rfl _ _ rfl rfl _ _ (HR.out _ _) ?_)
    go_ret
    refine ⟨_, rfl, ⟨rfl, .inr ⟨w.heap.size, _, _, rfl, Nat.le_refl _, heap_alloc_new w _, Nat.zero_le _, hle, ?_, rfl⟩⟩, ((Below.refl _ _).alloc (Nat.le_refl _) _).drew⟩
    simp [Builtin.zeroCells]; omega
set_option maxRecDepth 100000 in
set_option maxHeartbeats 1000000 in
theorem rconcat_two (F : Nat → Prop) (g c : Nat) (v1 v2 : Value) (n1 n2 : Nat) (c1 c2 : List Value) (w : World) (hF : ∀ b, F b → b < w.heap.size) (h1 : w.cell? ⟨g, 0, none⟩ = some v1) (h2 : w.cell? ⟨g, 1, none⟩ = some v2)
    (hc1 : CellsIn F w 1 v1 n1 c1) (hc2 : CellsIn F w 1 v2 n2 c2) (ho1 : ∀ u ∈ c1, u.oneCell' = true) (ho2 : ∀ u ∈ c2, u.oneCell' = true) (hn : n1 + n2 ≤ 1000000) :
    Calls Tryd.prog 48 #[.slice (some ⟨g, 0, none⟩) 2 c] w fun e w' => ∃ r, e = .returned r ∧ w'.ownsRow w.heap.size 23 1 r (n1 + n2) (c1 ++ c2) ∧ Below w.heap.size w w' := by
  have HF := hid hF
  have lg := cell_lt h1
  have C1 := hid hc1
  have C2 := hid hc2
  have O1 := hid ho1
  have O2 := hid ho2
  obtain ⟨A1, p1, rfl, hl1, _⟩ := hc1
  obtain ⟨A2, p2, rfl, hl2, _⟩ := hc2
  have K1 := hid h1
  have K2 := hid h2
  clear hF ho1 ho2 hl1 hl2
  obtain ⟨i0, hi, hz0, hz1, hz2⟩ := info_parts infoRow
  go_enter Tryd.func48, Tryd.ntmps48
  go_wp2_with fail
  go_loop [3, 11] (fun sz i => (i = .int .i64 0 ∧ sz = .int .i64 0) ∨ (i = .int .i64 1 ∧ sz = .int .i64 n1) ∨ (i = .int .i64 2 ∧ sz = .int .i64 ((n1 + n2 : Nat) : Int))) (fun _ i => 2 - (intOf i).toNat)
  case atStart => exact .inl ⟨rfl, rfl⟩
  case round =>
    rcases hrel with ⟨rfl, rfl⟩ | ⟨rfl, rfl⟩ | ⟨rfl, rfl⟩
    · go_wp2_with fail
      go_round
      case rel => exact .inr (.inl ⟨rfl, by go_num⟩)
      case measure => decide
    · go_wp2_with fail
      go_round
      case rel => exact .inr (.inr ⟨rfl, by go_num⟩)
      case measure => decide
    · clear h1 h2
      go_wp2_with fail
      refine (rgrow_nil (n1 + n2) _ (by omega)).mono ?_
      rintro e w1 ⟨r1, rfl, hown, hb1⟩
      have B1 := hid hb1
      have OW := hid hown
      clear hb1 hown
      go_wp2_with fail
      go_loopw [6, 27] (fun out i wr => ((i = .int .i64 0 ∧ Hid (wr.ownsRow w.heap.size 23 1 out 0 [])) ∨ (i = .int .i64 1 ∧ Hid (wr.ownsRow w.heap.size 23 1 out n1 c1)) ∨ (i = .int .i64 2 ∧ Hid (wr.ownsRow w.heap.size 23 1 out (n1 + n2) (c1 ++ c2)))) ∧ Hid (Below w.heap.size w wr)) (fun _ i _ => 2 - (intOf i).toNat)
      case atStart => exact ⟨.inl ⟨rfl, OW⟩, B1⟩
      case round =>
        clear OW B1
        obtain ⟨hrel, hB⟩ := hrel
        have sB := hB.out.size
        rcases hrel with ⟨rfl, hO⟩ | ⟨rfl, hO⟩ | ⟨rfl, hO⟩
        · have k1 := (hB.out.cell (p := ⟨g, 0, none⟩) lg).trans K1.out
          have D1 := hid (C1.out.keep (Same.of_below hB.out HF.out))
          go_wp2_with (at_builtin; refine wpList_app _ rfl (.tmp 31) (.tmp 32) 37 rfl w.heap.size 23 i0 (.slice none 0 0) 1 24 Tryd.underlying37 hi hz0 hz1 hz2 rfl (by decide) _ _ _ rfl hO.out _ _ _ _ rfl D1.out O1.out (by unfold maxLen; omega) (by omega) sB ?_; intro v1 w2 hown2 hgrow hat; have R2 : Hid (w2.ownsRow w.heap.size 23 1 v1 n1 c1) := (by have := hown2; rw [Nat.zero_add, List.nil_append] at this; exact this); have B2 : Hid (Below w.heap.size w w2) := hB.out.grown hgrow sB (own_ge hO.out); clear hown2 hgrow hat k1)
          go_roundw
          case rel => exact ⟨.inr (.inl ⟨rfl, R2⟩), B2⟩
          case measure => decide
        · have k1 := (hB.out.cell (p := ⟨g, 1, none⟩) lg).trans K2.out
          have D1 := hid (C2.out.keep (Same.of_below hB.out HF.out))
          go_wp2_with (at_builtin; refine wpList_app _ rfl (.tmp 31) (.tmp 32) 37 rfl w.heap.size 23 i0 (.slice none 0 0) 1 24 Tryd.underlying37 hi hz0 hz1 hz2 rfl (by decide) _ _ _ rfl hO.out _ _ _ _ rfl D1.out O2.out (by unfold maxLen; omega) (by omega) sB ?_; intro v1 w2 hown2 hgrow hat; have R2 : Hid (w2.ownsRow w.heap.size 23 1 v1 (n1 + n2) (c1 ++ c2)) := hown2; have B2 : Hid (Below w.heap.size w w2) := hB.out.grown hgrow sB (own_ge hO.out); clear hown2 hgrow hat k1)
          go_roundw
          case rel => exact ⟨.inr (.inr ⟨rfl, R2⟩), B2⟩
          case measure => decide
        · go_wp2_with fail
          go_ret
          exact ⟨_, rfl, hO.out, hB.out⟩
end Go.Proofs.YtkiljnggphlomaaDoor
