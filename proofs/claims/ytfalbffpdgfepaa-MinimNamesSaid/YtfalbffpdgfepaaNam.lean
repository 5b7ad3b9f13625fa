/- The law MinimNames: it returns true, and all that the call was given reads as before. No conditions. -/
import Derived.Test.YtfalbffpdgfepaaBad
import Derived.Test.YtfalbffpdgfepaaSwp
import Derived.Test.YtfalbffpdgfepaaSam
namespace Go.Proofs.Ytfalbffpdgfepaa
open Go.RowKit Go.Deep
theorem rows1 {F : Nat → Prop} {w : World} {b c : Nat} {r0 : Value} {x : List Int} (hF : F b) (h0 : w.cell? ⟨b, 0, none⟩ = some r0) (i0 : IntsIn .i64 F w r0 x) : RowsIn F w (.slice (some ⟨b, 0, none⟩) 1 c) [x] :=
  ⟨_, c, rfl, by simp [maxLen], fun _ => ⟨b, 0, rfl, hF, fun i hi => by
    match i, hi with
    | 0, _ => exact ⟨r0, by simpa using h0, i0⟩⟩⟩
def oneD : MachD := ⟨[[7]], [[0]]⟩
/-- the world in which the one-state machine is handed over -/
abbrev oneW (w : World) (g : Nat) : World := ((((w.alloc (.cells #[.int .i64 7] 3)).alloc (.cells #[.slice (some ⟨g, 0, none⟩) 1 1] 25)).alloc (.cells #[.int .i64 0] 3)).alloc (.cells #[.slice (some ⟨g + 1 + 1, 0, none⟩) 1 1] 25)).alloc (.cells #[.int .i64 0] 3)
theorem one_run (w : World) (g : Nat) (hg : g = w.heap.size) : Calls Try.prog 8 #[.agg #[.slice (some ⟨g + 1, 0, none⟩) 1 1, .slice (some ⟨g + 1 + 1 + 1, 0, none⟩) 1 1], .int .i64 0, .slice (some ⟨g + 1 + 1 + 1 + 1, 0, none⟩) 1 1] (oneW w g) fun e w' => ∃ A c, e = .returned (.tuple #[.slice A 1 c, .int .i64 0, .nilIface]) ∧ Below g w w' := by
  subst hg
  have hs : (oneW w w.heap.size).heap.size = w.heap.size + 5 := by simp
  have B0 : Below w.heap.size w (oneW w w.heap.size) := by
    repeat (refine Below.alloc ?_ (by first | exact Nat.le_refl _ | (simp only [World.size_alloc]; omega)) _)
    exact Below.refl _ _
  refine (run_any oneD 0 [0] (fun b => b < w.heap.size + 5) _ _ _ (fun b hb => by rw [hs]; exact hb) ⟨_, _, rfl, rows1 (r0 := .slice (some ⟨w.heap.size, 0, none⟩) 1 1) (by omega) (by simp [go_sem]) (ints1 (by omega) (by simp [go_sem]) (by decide)), rows1 (r0 := .slice (some ⟨w.heap.size + 1 + 1, 0, none⟩) 1 1) (by omega) (by simp [go_sem]) (ints1 (by omega) (by simp [go_sem]) (by decide))⟩ (ints1 (by omega) (by simp [go_sem]) (by decide)) (by decide)).mono ?_
  rintro e w2 ⟨_, hr, hb⟩
  obtain ⟨u, rfl, A, c, rfl, _⟩ := hr (by decide)
  exact ⟨A, c, rfl, B0.trans (hb.mono (by omega))⟩
def NamPost (W : World) (e : Ending) (w' : World) : Prop := e = .returned (.bool true) ∧ Below W.heap.size W w'
set_option maxRecDepth 100000 in
set_option maxHeartbeats 1000000 in
theorem names_bad (m : MachD) (v : Value) (i k : Int) (W : World) (hm : MachIn (fun b => b < W.heap.size) W v m) (hg : chk m ≠ 0) :
    Calls Try.prog 5 #[v, .int .i64 i, .int .i64 k] W (NamPost W) := by
  have HM := hid hm
  have HG := hid hg
  obtain ⟨o, nx, rfl, ⟨Ao, co, rfl, ho1, _⟩, ⟨An, cn, rfl, hn1, _⟩⟩ := hm
  clear hg
  go_enter Try.func5, Try.ntmps5
  go_wp2_with fail
  refine (least_bad m (fun b => b < W.heap.size) _ _ (fun b hb => by simp; omega) (HM.out.keep fun b hb => Below.heap_alloc _ _ _ hb) HG.out).mono ?_
  rintro e w1 ⟨rfl, hb⟩
  obtain ⟨B1, X1, s1⟩ := box_below hb
  have K1 := hid B1
  have L1 := hid X1
  clear hb B1 X1
  go_wp2_with fail
  refine (one_run (w1.alloc (Obj.cells #[Value.slice none 0 0, Value.slice none 0 0] 24)) (w1.heap.size + 1) (by simp)).mono ?_
  rintro e w2 ⟨A1, c1, rfl, hb2⟩
  have s2 := hb2.size
  simp only [World.size_alloc] at s2
  have K2 : Hid (Below W.heap.size W w2) := (K1.out.alloc (by omega) _).trans (hb2.mono (by omega))
  have x0 := Has.cell (Has.below (Has.alloc L1.out _) hb2 (by omega)) 0
  have y0 := Has.cell (Has.below (Has.new w1 _) hb2 (by omega)) 0
  simp at x0 y0
  clear hb2
  go_wp2_with fail
  go_ret
  exact ⟨rfl, K2.out⟩
set_option maxRecDepth 100000 in
set_option maxHeartbeats 1000000 in
theorem names_out (m : MachD) (v : Value) (i k : Int) (W : World) (hm : MachIn (fun b => b < W.heap.size) W v m) (g : Good m) (hr : i < 1 ∨ (m.out.length : Int) ≤ i ∨ k < 1 ∨ (m.out.length : Int) ≤ k) :
    Calls Try.prog 5 #[v, .int .i64 i, .int .i64 k] W (NamPost W) := by
  have HM := hid hm
  have G := hid g
  obtain ⟨o, nx, rfl, ⟨Ao, co, rfl, ho1, _⟩, ⟨An, cn, rfl, hn1, _⟩⟩ := hm
  clear g
  go_enter Try.func5, Try.ntmps5
  go_wp2_with fail
  refine (least_ok m (fun b => b < W.heap.size) _ _ (fun b hb => by simp; omega) (HM.out.keep fun b hb => Below.heap_alloc _ _ _ hb) G.out).mono ?_
  rintro e w1 ⟨r, c, l, rfl, CO, LD, LM, hb⟩
  obtain ⟨oA, oB, rfl, ⟨A3, a3, rfl, _, _⟩, ⟨A4, a4, rfl, _, _⟩⟩ := LM
  obtain ⟨B1, X1, s1⟩ := box_below hb
  have K1 := hid B1
  have L1 := hid X1
  clear hb B1 X1 CO LD
  go_wp2_with fail
  refine (one_run (w1.alloc (Obj.cells #[Value.slice A3 l.out.length a3, Value.slice A4 l.next.length a4] 24)) (w1.heap.size + 1) (by simp)).mono ?_
  rintro e w2 ⟨A1, c1, rfl, hb2⟩
  have s2 := hb2.size
  simp only [World.size_alloc] at s2
  have K2 : Hid (Below W.heap.size W w2) := (K1.out.alloc (by omega) _).trans (hb2.mono (by omega))
  have x0 := Has.cell (Has.below (Has.alloc L1.out _) hb2 (by omega)) 0
  have y0 := Has.cell (Has.below (Has.new w1 _) hb2 (by omega)) 0
  simp at x0 y0
  clear hb2
  by_cases h1 : i < 1
  · clear hr
    go_wp2_with fail
    go_ret
    exact ⟨rfl, K2.out⟩
  · have d1 : decide (i < 1) = false := by simp [h1]
    by_cases h2 : (m.out.length : Int) ≤ i
    · clear hr
      go_wp2_with fail
      go_ret
      exact ⟨rfl, K2.out⟩
    · have d2 : decide ((m.out.length : Int) ≤ i) = false := by simp [h2]
      by_cases h3 : k < 1
      · clear hr
        go_wp2_with fail
        go_ret
        exact ⟨rfl, K2.out⟩
      · have d3 : decide (k < 1) = false := by simp [h3]
        have h4 : (m.out.length : Int) ≤ k := by
          rcases hr with h | h | h | h
          · exact absurd h h1
          · exact absurd h h2
          · exact absurd h h3
          · exact h
        clear hr
        go_wp2_with fail
        go_ret
        exact ⟨rfl, K2.out⟩
end Go.Proofs.Ytfalbffpdgfepaa
