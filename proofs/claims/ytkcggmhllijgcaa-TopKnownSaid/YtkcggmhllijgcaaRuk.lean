/- mealy.Run's contract in one form, whatever comes of it. Condition: the word's cells take at most 2^47 bytes. -/
import Derived.Test.YtkcggmhllijgcaaRun
namespace Go.Proofs.Ytkcggmhllijgcaa
open Go.RowKit
def runL (m : MachD) (s : Int) (ws : List Int) : List Int := if runFault m s ws = 0 then tells m s.toNat ws else []
def runG (m : MachD) (s : Int) (ws : List Int) : Nat := if runFault m s ws = 0 then goes m s.toNat ws else 0
def RukPost (m : MachD) (s : Int) (ws : List Int) (w : World) (e : Ending) (w' : World) : Prop :=
  ∃ r, e = .returned (.tuple #[r, .int .i64 (runG m s ws : Nat), errV (runFault m s ws)]) ∧ IntsIn .i64 (Fresh w w') w' r (runL m s ws) ∧ Below w.heap.size w w'
theorem run_ruk (m : MachD) (s : Int) (ws : List Int) (F : Nat → Prop) (v wv : Value) (w : World) (hF : ∀ b, F b → b < w.heap.size) (h : MachIn F w v m) (hw : IntsIn .i64 F w wv ws) (hz : ws.length * 8 ≤ 140737488355328) :
    Calls Try.prog 6 #[v, .int .i64 s, wv] w (RukPost m s ws w) := by
  refine (run_any m s ws F v wv w hF h hw hz).mono ?_
  rintro e w' ⟨h1, h2, hb⟩
  by_cases hc : runFault m s ws = 0
  · obtain ⟨r, rfl, hr⟩ := h2 hc
    refine ⟨r, ?_, ?_, hb⟩
    · unfold runG; rw [if_pos hc, hc]; rfl
    · unfold runL; rw [if_pos hc]; exact hr
  · refine ⟨.slice none 0 0, ?_, ?_, hb⟩
    · rw [h1 hc, errV_no hc]; unfold runG; rw [if_neg hc]; rfl
    · unfold runL; rw [if_neg hc]; exact IntsIn.nil_
theorem runFault_zero {m : MachD} {s : Int} {ws : List Int} (h : runFault m s ws = 0) : Good m ∧ 0 ≤ s ∧ s < m.out.length ∧ word m ws := by
  unfold runFault at h
  split at h
  · rename_i h1; exact absurd h h1
  · rename_i h1
    split at h
    · simp at h
    · rename_i h2
      simp only [not_or, Decidable.not_not] at h1 h2
      exact ⟨chk_good h1, by omega, by omega, h2.2.2⟩
theorem runFault_good {m : MachD} {s : Int} {ws : List Int} (g : Good m) (h0 : 0 ≤ s) (h1 : s < m.out.length) (hw : word m ws) : runFault m s ws = 0 := by
  unfold runFault
  rw [if_neg (by simp [good_chk g]), if_neg]
  simp only [not_or, Decidable.not_not]
  exact ⟨by omega, by omega, hw⟩
end Go.Proofs.Ytkcggmhllijgcaa
