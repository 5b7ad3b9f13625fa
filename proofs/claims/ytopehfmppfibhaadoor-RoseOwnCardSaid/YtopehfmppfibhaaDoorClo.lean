/- What slices.Clone returns at integers. Condition: 2^47 bytes. -/
import Derived.Test.YtopehfmppfibhaaDoorNis
import Derived.Lib.AppendZeros
import Derived.Lib.SliceRun
namespace Go.Proofs.YtopehfmppfibhaaDoor
open Go.RowKit
set_option maxRecDepth 100000 in
set_option maxHeartbeats 400000 in
theorem clone_any (zs : List Int) (F : Nat → Prop) (v : Value) (w : World) (hF : ∀ b, F b → b < w.heap.size) (hv : IntsIn .i64 F w v zs) (hz : zs.length * 8 ≤ 140737488355328) :
    Calls Tryd.prog 29 #[v] w fun e w' => ∃ r, e = .returned r ∧ w'.ownsRow w.heap.size 3 1 r zs.length (zs.map (Value.int .i64)) ∧ isNilS r = isNilS v ∧ Below w.heap.size w w' := by
  have H := hid hv
  have HF := hid hF
  obtain ⟨A, c, rfl, h1, _, h3⟩ := hv
  have HZ := hid hz
  have h2 : zs.length ≤ 17592186044416 := by omega
  clear h1 hF hz
  obtain ⟨i0, hi, hz0, hz1, hz2⟩ := info_parts infoInt
  have eqn := fun w => Lib.run_eql_slice_nil (P := Tryd.prog) w 25 3 A zs.length c 0 0 Tryd.underlying25
  cases A with
  | none =>
    have h0 : zs.length = 0 := by
      rcases Nat.eq_zero_or_pos zs.length with h | h
      · exact h
      · obtain ⟨_, _, h, _⟩ := h3 h; cases h
    obtain rfl : zs = [] := List.eq_nil_of_length_eq_zero h0
    clear h3 h0
    simp at eqn
    go_enter Tryd.func29, Tryd.ntmps29
    go_wp2_with fail
    go_ret
    exact ⟨_, rfl, World.ownsRow_nil _ _ _ _, rfl, Below.refl _ _⟩
  | some a =>
    clear h3
    simp at eqn
    have O0 := hid (World.ownsRow_lit (e := 3) (size := 1) (base := w.heap.size) w #[] 0 (Nat.le_refl _) (by unfold maxLen; omega) rfl)
    have C0 := hid (H.out.cells.keep (w' := w.alloc (Obj.cells #[] 3)) (fun b hb => Below.heap_alloc _ _ _ (HF.out b hb)))
    go_enter Tryd.func29, Tryd.ntmps29
    go_wp2_with (at_builtin; refine wpList_app _ rfl (.tmp 5) (.tmp 6) 25 rfl w.heap.size 3 i0 (.int .i64 0) 1 8 Tryd.underlying25 hi hz0 hz1 hz2 rfl (by decide) _ 0 [] rfl O0.out _ _ zs.length _ rfl C0.out (ints_one _ _) (by unfold maxLen; omega) (by omega) (by simp) ?_; intro v1 w1 hown hgrow hat; have B1 : Below w.heap.size w w1 := ((Below.refl _ _).alloc (Nat.le_refl _) _).grown hgrow (by simp) (own_ge O0.out); replace hown : w1.ownsRow w.heap.size 3 1 v1 zs.length (zs.map (Value.int .i64)) := (by simpa using hown); have hnil : isNilS v1 = false := (by rcases hat with h | h; exact nil_of_block (h.trans rfl); exact nil_of_block h))
    go_ret
    exact ⟨_, rfl, hown, hnil, B1⟩
end Go.Proofs.YtopehfmppfibhaaDoor
