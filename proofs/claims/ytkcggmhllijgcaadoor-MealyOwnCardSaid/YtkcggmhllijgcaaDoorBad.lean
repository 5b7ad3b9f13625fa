/- What minim.Classes and minim.Least return of a machine that is wrong, and of any. No conditions. -/
import Derived.Test.YtkcggmhllijgcaaDoorLea
namespace Go.Proofs.YtkcggmhllijgcaaDoor
open Go.RowKit
set_option maxHeartbeats 400000 in
theorem classes_bad (m : MachD) (F : Nat → Prop) (v : Value) (w : World) (hF : ∀ b, F b → b < w.heap.size) (h : MachIn F w v m) (hg : chk m ≠ 0) :
    Calls Tryd.prog 37 #[v] w fun e w' => e = .returned (.tuple #[.slice none 0 0, .iface 33 (.int .i64 (chk m))]) ∧ Below w.heap.size w w' := by
  have HF := hid hF
  have H := hid h
  have HG := hid hg
  obtain ⟨o, nx, rfl, ⟨Ao, co, rfl, ho1, _⟩, ⟨An, cn, rfl, hn1, _⟩⟩ := h
  clear hF hg
  go_enter Tryd.func37, Tryd.ntmps37
  go_wp2_with fail
  refine (chk_bad (F := F) (fun b hb => by have := HF.out b hb; simp; omega) (H.out.keep fun b hb => Below.heap_alloc _ _ _ (HF.out b hb)) HG.out).mono ?_
  rintro e w1 ⟨rfl, hb⟩
  obtain ⟨hbw, hbox, hlt⟩ := box_below hb
  go_wp2_with fail
  go_ret2
  exact ⟨rfl, hbw⟩
set_option maxHeartbeats 400000 in
theorem least_bad (m : MachD) (F : Nat → Prop) (v : Value) (w : World) (hF : ∀ b, F b → b < w.heap.size) (h : MachIn F w v m) (hg : chk m ≠ 0) :
    Calls Tryd.prog 18 #[v] w fun e w' => e = .returned (.tuple #[.agg #[.slice none 0 0, .slice none 0 0], .iface 33 (.int .i64 (chk m))]) ∧ Below w.heap.size w w' := by
  have HF := hid hF
  have H := hid h
  have HG := hid hg
  obtain ⟨o, nx, rfl, ⟨Ao, co, rfl, ho1, _⟩, ⟨An, cn, rfl, hn1, _⟩⟩ := h
  clear hF hg
  go_enter Tryd.func18, Tryd.ntmps18
  go_wp2_with fail
  refine (classes_bad m F _ _ (fun b hb => by have := HF.out b hb; simp; omega) ((H.out.keep (w' := w.alloc _) fun b hb => Below.heap_alloc _ _ _ (HF.out b hb)).keep fun b hb => Below.heap_alloc _ _ _ (by have := HF.out b hb; simp; omega)) HG.out).mono ?_
  rintro e w1 ⟨rfl, hb⟩
  obtain ⟨B1, X1, s1⟩ := box_below hb
  have BW : Hid (Below w.heap.size w w1) := ((Below.refl _ _).alloc (Nat.le_refl _) _).trans (B1.mono (by simp))
  have X2 : w1.heap[w.heap.size + 1]? = some (Obj.cells #[Value.slice none 0 0, Value.slice none 0 0] 24 (0, 0)) := by rw [World.size_alloc] at X1; exact X1
  have x0 := Has.cell X2 0
  have x1 := Has.cell X2 1
  have fx0 := Has.froz X2 0
  have fx1 := Has.froz X2 1
  simp at x0 x1
  clear hb B1 X1 X2
  go_wp2_with fail
  refine bodyPost_ret (v := .tuple #[.agg #[.slice none 0 0, .slice none 0 0], .iface 33 (.int .i64 (chk m))]) (by simp [results, Tryd.results18, go_sem, x0, x1]) rfl ⟨rfl, ?_⟩
  exact (BW.out.setCell (by simp) _).setCell (by simp) _
end Go.Proofs.YtkcggmhllijgcaaDoor
