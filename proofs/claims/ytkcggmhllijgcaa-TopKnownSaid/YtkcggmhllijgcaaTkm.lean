/- Who tells the same of words that it may be asked passes them. No conditions. -/
import Derived.Test.YtkcggmhllijgcaaSui
import Derived.Test.YtkcggmhllijgcaaTkv
namespace Go.Proofs.Ytkcggmhllijgcaa
theorem pass_same {m o : MachD} (gm : Good m) (go : Good o) (hi : ins m = ins o) {ws : List (List Int)} (hw : ∀ w ∈ ws, word m w) (he : ∀ w ∈ ws, tells m 0 w = tells o 0 w) : passFault m o ws = 0 ∧ passB m o ws = true := by
  have h1 : passFault m o ws = 0 := by
    unfold passFault
    rw [if_neg (by simp [good_chk gm]), if_neg (by simp [good_chk go]), if_neg (by simp [hi]), if_pos]
    intro w h x hx
    have := hw w h x hx
    unfold letter at this
    exact this
  refine ⟨h1, ?_⟩
  unfold passB passVal
  rw [h1, decide_eq_true rfl, Bool.true_and, List.all_eq_true]
  exact fun w h => decide_eq_true (he w h)
def factD : MachD := ⟨[[7]], [[0]]⟩
theorem fact_good : Good factD := by
  refine ⟨by decide, by decide, rfl, by decide, by decide, fun i hi => ?_, fun i hi => ?_, fun i hi x hx => ?_⟩
  · obtain rfl : i = 0 := by simp [factD] at hi; omega
    rfl
  · obtain rfl : i = 0 := by simp [factD] at hi; omega
    rfl
  · obtain rfl : i = 0 := by simp [factD] at hi; omega
    obtain rfl : x = 0 := by simp [factD, ins, rowAt] at hx; omega
    decide
/-- the machine of the control, as it lies behind four allocations -/
theorem fact_in {w w4 : World} (h : w4 = (((w.alloc (.cells #[.int .i64 7] 3)).alloc (.cells #[.slice (some ⟨w.heap.size, 0, none⟩) 1 1] 29)).alloc (.cells #[.int .i64 0] 3)).alloc (.cells #[.slice (some ⟨w.heap.size + 1 + 1, 0, none⟩) 1 1] 29)) :
    MachIn (fun b => b < w4.heap.size) w4 (.agg #[.slice (some ⟨w.heap.size + 1, 0, none⟩) 1 1, .slice (some ⟨w.heap.size + 1 + 1 + 1, 0, none⟩) 1 1]) factD := by
  have hs : w4.heap.size = w.heap.size + 4 := by rw [h]; simp
  have h0 : w4.cell? ⟨w.heap.size, 0, none⟩ = some (.int .i64 7) := by
    rw [h]; exact (Has.cell (Has.alloc (Has.alloc (Has.alloc (Has.new w (.cells #[.int .i64 7] 3)) _) _) _) 0).trans rfl
  have h1 : w4.cell? ⟨w.heap.size + 1, 0, none⟩ = some (.slice (some ⟨w.heap.size, 0, none⟩) 1 1) := by
    rw [h]; exact (Has.cell (Has.alloc (Has.alloc (Has.newAt (g := w.heap.size + 1) (w.alloc (.cells #[.int .i64 7] 3)) (.cells #[.slice (some ⟨w.heap.size, 0, none⟩) 1 1] 29) (by simp)) _) _) 0).trans rfl
  have h2 : w4.cell? ⟨w.heap.size + 1 + 1, 0, none⟩ = some (.int .i64 0) := by
    rw [h]; exact (Has.cell (Has.alloc (Has.newAt (g := w.heap.size + 1 + 1) ((w.alloc (.cells #[.int .i64 7] 3)).alloc (.cells #[.slice (some ⟨w.heap.size, 0, none⟩) 1 1] 29)) (.cells #[.int .i64 0] 3) (by simp)) _) 0).trans rfl
  have h3 : w4.cell? ⟨w.heap.size + 1 + 1 + 1, 0, none⟩ = some (.slice (some ⟨w.heap.size + 1 + 1, 0, none⟩) 1 1) := by
    rw [h]; exact (Has.cell (Has.newAt (g := w.heap.size + 1 + 1 + 1) _ (.cells #[.slice (some ⟨w.heap.size + 1 + 1, 0, none⟩) 1 1] 29) (by simp)) 0).trans rfl
  refine ⟨_, _, rfl, ⟨_, 1, rfl, by simp [factD, maxLen], fun _ => ⟨_, 0, rfl, by omega, fun i hi => ?_⟩⟩, ⟨_, 1, rfl, by simp [factD, maxLen], fun _ => ⟨_, 0, rfl, by omega, fun i hi => ?_⟩⟩⟩
  · obtain rfl : i = 0 := by simp [factD] at hi; omega
    exact ⟨_, h1, ints1 (by omega) h0 (by decide)⟩
  · obtain rfl : i = 0 := by simp [factD] at hi; omega
    exact ⟨_, h3, ints1 (by omega) h2 (by decide)⟩
theorem fact_tells : tells factD 0 [0] = [7] := by decide
theorem fact_run : runFault factD 0 [0] = 0 := runFault_good fact_good (by decide) (by decide) (fun x hx => by rw [List.mem_singleton.1 hx]; exact ⟨by decide, by decide⟩)
end Go.Proofs.Ytkcggmhllijgcaa
