/- What wset.Set and wset.Passes return, whatever they are given, in one form. Condition of Passes: each word takes at most 2^47 bytes. -/
import Derived.Test.YtkcggmhllijgcaaDoorSet
import Derived.Test.YtkcggmhllijgcaaDoorPad
namespace Go.Proofs.YtkcggmhllijgcaaDoor
open Go.RowKit
noncomputable def setR (m : MachD) : List (List Int) := if chk m = 0 then setL m else []
def SetRPost (m : MachD) (w : World) (e : Ending) (w' : World) : Prop := ∃ r, e = .returned (.tuple #[r, errV (chk m)]) ∧ RowsIn (Fresh w w') w' r (setR m) ∧ Below w.heap.size w w'
set_option maxHeartbeats 400000 in
theorem set_bad (m : MachD) (F : Nat → Prop) (v : Value) (w : World) (hF : ∀ b, F b → b < w.heap.size) (h : MachIn F w v m) (hg : chk m ≠ 0) :
    Calls Tryd.prog 22 #[v] w fun e w' => e = .returned (.tuple #[.slice none 0 0, .iface 33 (.int .i64 (chk m))]) ∧ Below w.heap.size w w' := by
  have HF := hid hF
  have H := hid h
  have HG := hid hg
  obtain ⟨o, nx, rfl, ⟨Ao, co, rfl, ho1, _⟩, ⟨An, cn, rfl, hn1, _⟩⟩ := h
  clear hF hg
  go_enter Tryd.func22, Tryd.ntmps22
  go_wp2_with fail
  refine (chk_bad (F := F) (fun b hb => by have := HF.out b hb; simp; omega) (H.out.keep fun b hb => Below.heap_alloc _ _ _ (HF.out b hb)) HG.out).mono ?_
  rintro e w1 ⟨rfl, hb⟩
  obtain ⟨hbw, hbox, hlt⟩ := box_below hb
  go_wp2_with fail
  go_ret2
  exact ⟨rfl, hbw⟩
theorem set_any (m : MachD) (F : Nat → Prop) (v : Value) (w : World) (hF : ∀ b, F b → b < w.heap.size) (h : MachIn F w v m) :
    Calls Tryd.prog 22 #[v] w (SetRPost m w) := by
  by_cases hc : chk m = 0
  · refine (set_ok m F v w hF h (chk_good hc)).mono ?_
    rintro e w' ⟨r, rfl, hr, hb⟩
    exact ⟨r, by rw [hc]; rfl, by unfold setR; rw [if_pos hc]; exact hr, hb⟩
  · refine (set_bad m F v w hF h hc).mono ?_
    rintro e w' ⟨rfl, hb⟩
    exact ⟨_, by rw [errV_no hc], by unfold setR; rw [if_neg hc]; exact RowsIn.nil_, hb⟩
def passB (m o : MachD) (ws : List (List Int)) : Bool := decide (passFault m o ws = 0) && passVal m o ws
theorem passes_one (m o : MachD) (ws : List (List Int)) (F : Nat → Prop) (mv ov wv : Value) (w : World) (hF : ∀ b, F b → b < w.heap.size) (hm : MachIn F w mv m) (ho : MachIn F w ov o) (hw : RowsIn F w wv ws) (hz : ∀ x ∈ ws, x.length * 8 ≤ 140737488355328) :
    Calls Tryd.prog 20 #[mv, ov, wv] w fun e w' => e = .returned (.tuple #[.bool (passB m o ws), errV (passFault m o ws)]) ∧ Below w.heap.size w w' := by
  refine (passes_any m o ws F mv ov wv w hF hm ho hw hz).mono ?_
  rintro e w' ⟨h1, h2, hb⟩
  by_cases hc : passFault m o ws = 0
  · refine ⟨?_, hb⟩
    rw [h2 hc]; unfold passB; rw [hc]; simp [errV]
  · refine ⟨?_, hb⟩
    rw [h1 hc, errV_no hc]; unfold passB; simp [hc]
end Go.Proofs.YtkcggmhllijgcaaDoor
