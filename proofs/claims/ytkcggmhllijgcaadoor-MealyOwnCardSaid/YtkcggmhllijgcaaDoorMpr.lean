/- Run by its two ends, apart. Condition: the word takes at most 2^47 bytes. -/
import Derived.Test.YtkcggmhllijgcaaDoorInts
import Derived.Test.YtkcggmhllijgcaaDoorApp
namespace Go.Proofs.YtkcggmhllijgcaaDoor
open Go.RowKit
theorem run_err (m : MachD) (s : Int) (ws : List Int) (F : Nat → Prop) (v u : Value) (w : World) (hF : ∀ b, F b → b < w.heap.size) (h : MachIn F w v m) (hu : IntsIn .i64 F w u ws) (hz : ws.length * 8 ≤ 140737488355328) (hf : runFault m s ws ≠ 0) :
    Calls Tryd.prog 14 #[v, .int .i64 s, u] w fun e w' => ∃ c : Int, e = .returned (.tuple #[.slice none 0 0, .int .i64 0, .iface 33 (.int .i64 c)]) ∧ Below w.heap.size w w' := by
  refine (run_any m s ws F v u w hF h hu hz).mono ?_
  rintro e w' ⟨h1, _, hb⟩
  exact ⟨_, h1 hf, hb⟩
theorem run_ok (m : MachD) (s : Nat) (ws : List Int) (F : Nat → Prop) (v u : Value) (w : World) (hF : ∀ b, F b → b < w.heap.size) (h : MachIn F w v m) (hu : IntsIn .i64 F w u ws) (hz : ws.length * 8 ≤ 140737488355328) (hf : runFault m s ws = 0) :
    Calls Tryd.prog 14 #[v, .int .i64 s, u] w fun e w' => ∃ r, e = .returned (.tuple #[r, .int .i64 (goes m s ws : Nat), .nilIface]) ∧ Hid (IntsIn .i64 (Fresh w w') w' r (tells m s ws)) ∧ Below w.heap.size w w' := by
  refine (run_any m s ws F v u w hF h hu hz).mono ?_
  rintro e w' ⟨_, h1, hb⟩
  obtain ⟨r, rfl, hi⟩ := h1 hf
  exact ⟨r, rfl, hi, hb⟩
theorem fault_zero {m : MachD} {s : Int} {ws : List Int} : runFault m s ws = 0 ↔ Good m ∧ 0 ≤ s ∧ s < m.out.length ∧ word m ws := by
  unfold runFault
  constructor
  · intro h
    split at h
    · rename_i h1; exact absurd h h1
    · rename_i h1
      split at h
      · simp at h
      · rename_i h2
        simp only [not_or, Decidable.not_not] at h1 h2
        exact ⟨chk_good h1, by omega, by omega, h2.2.2⟩
  · rintro ⟨h1, h2, h3, h4⟩
    rw [if_neg (by simp [good_chk h1]), if_neg]
    simp only [not_or, Decidable.not_not]
    exact ⟨by omega, by omega, h4⟩
theorem word_append {m : MachD} {v w : List Int} : word m (v ++ w) ↔ word m v ∧ word m w := by
  unfold word; simp only [List.mem_append]
  exact ⟨fun h => ⟨fun x hx => h x (.inl hx), fun x hx => h x (.inr hx)⟩, fun h x hx => hx.elim (h.1 x) (h.2 x)⟩
end Go.Proofs.YtkcggmhllijgcaaDoor
