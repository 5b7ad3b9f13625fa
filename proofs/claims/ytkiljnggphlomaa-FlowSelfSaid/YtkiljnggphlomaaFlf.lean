/- What flow.Left returns of the way that stays at 0: all edges. No conditions. -/
import Derived.Test.YtkiljnggphlomaaEmp
import Derived.Test.YtkiljnggphlomaaEix
namespace Go.Proofs.Ytkiljnggphlomaa
open Go.RowKit Go.Maps Go.WideMaps
theorem enter_left : ∀ (args : Array Value) (w : World), Sem.run Try.prog (callFunc 24 args) w = .ok (.enter 24 args) w := fun _ _ => by kernel_rfl
set_option maxHeartbeats 400000 in
theorem gone_none (g mb : Nat) (w0 : World) (hg : w0.cell? ⟨g, 0, none⟩ = some (.map (some mb))) (hm : w0.ownsMap (H := Unit) Try.prog 44 unitElem mb 0 (.map [])) :
    AskE 24 #[.pointer (some ⟨g, 0, none⟩)] (fun _ => false) w0 := by
  intro w a b hab hb
  show Calls Try.prog 24 #[.agg #[.int .i64 a, .int .i64 b], .pointer (some ⟨g, 0, none⟩)] w _
  have lg : g < w0.heap.size := cell_lt hg
  have c0 : w.cell? ⟨g, 0, none⟩ = some (.map (some mb)) := (hb.cell (p := ⟨g, 0, none⟩) lg).trans hg
  have hmap : w.ownsMap (H := Unit) Try.prog 44 unitElem mb 0 (.map []) := by
    have hl := hm.lt
    obtain ⟨es, clock, h1, h2⟩ := hm
    exact ⟨es, clock, (hb.block mb hl).trans h1, h2⟩
  have hk := keyOf_edge (a, b) hab
  have lgw : g < w.heap.size := Nat.lt_of_lt_of_le lg hb.size
  clear hg hb hm
  go_enter Try.func24, Try.ntmps24
  go_wp2_with (at_lookup; refine wpList_lookup_own_unit (H := Unit) _ rfl _ _ 52 rfl 44 54 lawE Try.underlying52 (zeroU _) mb 0 _ rfl (hmap.alloc _) _ (keyE (a, b)) rfl hk ?_)
  go_ret
  exact ⟨rfl, ((Below.refl _ _).alloc (Nat.le_refl _) _).alloc (by simp) _⟩
def leftL (n : Int) (l : EdgeL) : EdgeL := if flowC n l = 0 then l else []
set_option maxRecDepth 100000 in
set_option maxHeartbeats 1000000 in
theorem left_one (n : Int) (l : EdgeL) (F : Nat → Prop) (v : Value) (g c1 : Nat) (w : World) (hF : ∀ b, F b → b < w.heap.size) (hv : EdgesIn F w v l) (hg : w.cell? ⟨g, 0, none⟩ = some (.int .i64 0)) (hl : l.length ≤ 1000000000000) :
    Calls Try.prog 14 #[.int .i64 n, v, .slice (some ⟨g, 0, none⟩) 1 c1] w fun e w' => ∃ r, e = .returned (.tuple #[r, errV (flowC n l)]) ∧ Below w.heap.size w w' ∧ w'.ownsRow w.heap.size 44 2 r (leftL n l).length (ecells (leftL n l)) := by
  have H := hid hv
  have HF := hid hF
  have LG := cell_lt hg
  obtain ⟨A, c, rfl, hc, _, _⟩ := hv
  unfold maxLen at hc
  have hmm := @run_makeMap Try.prog
  clear hF
  by_cases h0 : flowC n l = 0
  · have HG := hid h0
    have L : leftL n l = l := by unfold leftL; rw [if_pos h0]
    rw [L, h0, errV_0]
    clear L h0
    go_enter Try.func14, Try.ntmps14
    go_wp2_with fail
    refine (fcheck_any n l F _ w HF.out H.out).mono ?_
    rintro e w1 ⟨rfl, hb1⟩
    have B1 := hid hb1
    have G1 : w1.cell? ⟨g, 0, none⟩ = some (.int .i64 0) := (hb1.cell (p := ⟨g, 0, none⟩) LG).trans hg
    rw [HG.out, errV_0]
    clear hb1 hg
    go_wp2_with fail
    clear G1 hmm
    refine wp_loop_rounds 1 ?_
    rw [rounds_succ]
    go_wp2_with fail
    have BX : Below w1.heap.size w1 ((w1.alloc (.map #[] 0)).alloc (.cells #[.map (some w1.heap.size)] 52)) := ((Below.refl _ _).alloc (Nat.le_refl _) _).alloc (by simp) _
    have M2 := hid ((World.ownsMap_made w1 Try.prog 44 (unitElem (H := Unit))).alloc (.cells #[.map (some w1.heap.size)] 52))
    have X2 := hid ((Has.cell (Has.newAt (g := w1.heap.size + 1) (w1.alloc (.map #[] 0)) (.cells #[.map (some w1.heap.size)] 52) (by simp)) 0).trans rfl)
    have B2 := hid (B1.out.trans (BX.mono B1.out.size))
    have I2 := hid ((H.out.keep (Same.of_below B2.out HF.out)))
    have WF : Hid (∀ e ∈ l, wf64 e.1 ∧ wf64 e.2) := by obtain ⟨_, _, _, _, h, _⟩ := H.out; exact h
    generalize (w1.alloc (.map #[] 0)).alloc (.cells #[.map (some w1.heap.size)] 52) = w2 at *
    refine (eclone_any l F _ w2 (fun b hb => Nat.lt_of_lt_of_le (HF.out b hb) B2.out.size) I2.out (by omega)).mono ?_
    rintro e w3 ⟨r3, rfl, ho, hb3⟩
    have s3 := hb3.size
    have X3 := hid ((hb3.cell (p := ⟨w1.heap.size + 1, 0, none⟩) (cell_lt X2.out)).trans X2.out)
    have M3 : Hid (w3.ownsMap (H := Unit) Try.prog 44 unitElem w1.heap.size 0 (.map [])) := by
      obtain ⟨es, clock, h1, h2⟩ := M2.out
      exact ⟨es, clock, (hb3.block _ (Has.lt h1)).trans h1, h2⟩
    have O3 := hid ho
    have I3 := hid (edges_of_own ho WF.out)
    have B3 := hid (B2.out.trans (hb3.mono B2.out.size))
    obtain ⟨A3, c3, rfl, _, _⟩ := own_sl ho
    clear ho hb3 BX
    go_wp2_with fail
    refine (edel_none _ _ l _ _ w3 (fun b hb => hb.2) I3.out (gone_none _ _ w3 X3.out M3.out) enter_left).mono ?_
    rintro e w4 ⟨rfl, hb4⟩
    have B4 := hid (B3.out.trans (hb4.mono B3.out.size))
    have O4 := hid (own_below O3.out hb4)
    clear hb4
    go_wp2_with fail
    go_ret2
    exact ⟨_, rfl, B4.out, own_lo O4.out B2.out.size⟩
  · have E : errV (flowC n l) = .iface 47 (.int .i64 (flowC n l)) := by unfold errV; rw [if_neg h0]
    have L : leftL n l = [] := by unfold leftL; rw [if_neg h0]
    rw [L, E]
    have HE := hid E
    clear E L
    go_enter Try.func14, Try.ntmps14
    go_wp2_with fail
    refine (fcheck_any n l F _ w HF.out H.out).mono ?_
    rintro e w1 ⟨rfl, hb1⟩
    rw [HE.out]
    have B1 := hid hb1
    clear hb1
    go_wp2_with fail
    go_ret2
    exact ⟨_, rfl, B1.out, World.ownsRow_nil _ _ _ _⟩
end Go.Proofs.Ytkiljnggphlomaa
