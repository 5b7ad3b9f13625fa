/- The law DdCounts: it returns true, and all that the call was given reads as before. No conditions. -/
import Derived.Test.YtkiljnggphlomaaDdw
import Derived.Test.YtkiljnggphlomaaRin
namespace Go.Proofs.Ytkiljnggphlomaa
open Go.RowKit
set_option maxHeartbeats 400000 in
theorem asks_two (w0 : World) : Asks 8 #[] (fun x => decide ((2 : Int) ∈ x)) w0 := by
  intro w v zs _ hv _
  show Calls Try.prog 8 #[v] w _
  have HV := hid hv
  obtain ⟨A, c, rfl, _, _, _⟩ := hv
  go_enter Try.func8, Try.ntmps8
  go_wp2_with fail
  refine (rin_any zs 2 _ _ _ HV.out).mono ?_
  rintro e w' ⟨rfl, rfl⟩
  go_wp2_with fail
  go_ret
  exact ⟨rfl, Below.refl _ _⟩
set_option maxHeartbeats 400000 in
theorem asks_many (n : Int) (g : Nat) (w0 : World) (hg : w0.cell? ⟨g, 0, none⟩ = some (.int .i64 n)) : Asks 10 #[.pointer (some ⟨g, 0, none⟩)] (fun x => decide (n ≤ (x.length : Int))) w0 := by
  intro w v zs hb hv hl
  show Calls Try.prog 10 #[v, .pointer (some ⟨g, 0, none⟩)] w _
  have lg : g < w0.heap.size := cell_lt hg
  have c0 : w.cell? ⟨g, 0, none⟩ = some (.int .i64 n) := (hb.cell (p := ⟨g, 0, none⟩) lg).trans hg
  obtain ⟨A, c, rfl, _, _, _⟩ := hv
  clear hg hb
  go_enter Try.func10, Try.ntmps10
  go_wp2_with fail
  go_ret
  exact ⟨rfl, Below.refl _ _⟩
theorem enter_two : ∀ (args : Array Value) (w : World), Sem.run Try.prog (callFunc 8 args) w = .ok (.enter 8 args) w := fun _ _ => by kernel_rfl
theorem enter_many : ∀ (args : Array Value) (w : World), Sem.run Try.prog (callFunc 10 args) w = .ok (.enter 10 args) w := fun _ _ => by kernel_rfl
set_option maxRecDepth 100000 in
set_option maxHeartbeats 1000000 in
theorem ddCounts_walk (l : List Int) (v : Value) (n : Int) (W : World) (hv : IntsIn .i64 (fun b => b < W.heap.size) W v l) :
    Calls Try.prog 3 #[v, .int .i64 n] W fun e w' => e = .returned (.bool true) ∧ Below W.heap.size W w' := by
  have HV := hid hv
  obtain ⟨A, c, rfl, h1, _, _⟩ := hv
  unfold maxLen at h1
  go_enter Try.func3, Try.ntmps3
  go_wp2_with fail
  refine (ddmin_any (fun x => decide ((2 : Int) ∈ x)) _ #[] [1, 2] (fun b => b < W.heap.size + 2) _ _ (fun b h => by simpa using h) ?_ (asks_two _) enter_two).mono ?_
  · exact ⟨_, 2, rfl, by simp [maxLen], by decide, fun _ => ⟨W.heap.size + 1, 0, by simp, by omega, fun i hi => by
      match i, hi with
      | 0, _ => simp
      | 1, _ => simp⟩⟩
  rintro e w1 ⟨hb1, hp⟩
  have B1 : Hid (Below W.heap.size W w1) := (((Below.refl _ _).alloc (Nat.le_refl _) _).alloc (by simp) _).trans (hb1.mono (by simp; omega))
  have X1 : w1.cell? ⟨W.heap.size, 0, none⟩ = some (.int .i64 n) := (hb1.cell (p := ⟨W.heap.size, 0, none⟩) (by simp; omega)).trans (by simp)
  rcases hp with ⟨h, _⟩ | ⟨_, h, _⟩ | ⟨r, m, _, rfl, hs, hr⟩
  · simp at h
  · simp at h
  have hm := dd_fact hs
  obtain ⟨A2, c2, rfl, _, _, _⟩ := hr
  rw [hm]
  clear hm hs hb1
  have HX1 := hid X1
  go_wp2_with fail
  refine (ddmin_any (fun x => decide (n ≤ (x.length : Int))) _ _ l (fun b => b < W.heap.size) _ _ (fun b h => by have := B1.out.size; omega) (HV.out.keep (Same.of_below B1.out fun b h => h)) (asks_many n W.heap.size w1 HX1.out) enter_many).mono ?_
  rintro e w2 ⟨hb2, hp⟩
  have B2 := hid (B1.out.trans (hb2.mono B1.out.size))
  have X2 : w2.cell? ⟨W.heap.size, 0, none⟩ = some (.int .i64 n) := (hb2.cell (p := ⟨W.heap.size, 0, none⟩) (cell_lt HX1.out)).trans HX1.out
  clear hb2 X1
  rcases hp with ⟨h, rfl⟩ | ⟨h, hP, rfl⟩ | ⟨r, m, h, rfl, hs, hr⟩
  · have d1 : decide ((12 : Int) < (l.length : Int)) = true := by simp; omega
    have d2 : decide (12 < l.length) = true := by simp; omega
    go_wp2_with fail
    go_ret
    exact ⟨rfl, B2.out⟩
  · have d1 : decide ((12 : Int) < (l.length : Int)) = false := by simp; omega
    have d2 : decide (12 < l.length) = false := by simp; omega
    have d3 : decide ((l.length : Int) < n) = true := by simp at hP ⊢; omega
    clear hP
    go_wp2_with fail
    go_ret
    exact ⟨rfl, B2.out⟩
  · have E := hid (dd_counts hs)
    obtain ⟨A3, c3, rfl, lr, _, _⟩ := hr
    unfold maxLen at lr
    have e1 : ((m.length : Int) == max n 0) = true := by rw [E.out]; simp
    clear hs
    go_wp2_with fail
    go_ret
    exact ⟨rfl, B2.out⟩
end Go.Proofs.Ytkiljnggphlomaa
