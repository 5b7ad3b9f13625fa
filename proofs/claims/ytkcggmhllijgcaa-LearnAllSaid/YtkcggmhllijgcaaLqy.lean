/- The two function values of LearnAll: a machine's answers, and what is wrong with another one, counted. Condition: a right machine. -/
import Derived.Test.YtkcggmhllijgcaaLqx
import Derived.Test.YtkcggmhllijgcaaApt
import Derived.Test.YtkcggmhllijgcaaRuk
namespace Go.Proofs.Ytkcggmhllijgcaa
open Go.RowKit Go.Deep
theorem enter_t1 : ∀ (args : Array Value) (w : World), Sem.run Try.prog (callFunc 14 args) w = .ok (.enter 14 args) w := fun _ _ => by kernel_rfl
theorem enter_t2 : ∀ (args : Array Value) (w : World), Sem.run Try.prog (callFunc 15 args) w = .ok (.enter 15 args) w := fun _ _ => by kernel_rfl
/-- what both hold: the box of the count, the box of the machine -/
structure RA (m : MachD) (bA bm B0 : Nat) (o nx : Value) (k : Nat) (w : World) : Prop where
  a : ∃ x : Int, w.heap[bA]? = some (.cells #[.int .i64 x] 3 (0, 0)) ∧ (k ≤ 1000 → x = (k : Int))
  x : w.heap[bm]? = some (.cells #[o, nx] 24 (0, 0))
  mi : MachIn (fun b => b < B0 ∧ b ≠ bA) w (.agg #[o, nx]) m
theorem RA.keep {m : MachD} {bA bm B0 : Nat} {o nx : Value} {k : Nat} {w w' : World} (hA : bA < B0) (hm : bm < B0) (h : RA m bA bm B0 o nx k w) (hk : ∀ b, b < B0 → w'.heap[b]? = w.heap[b]?) : RA m bA bm B0 o nx k w' :=
  ⟨by
    obtain ⟨x, h1, h2⟩ := h.a
    exact ⟨x, (hk _ hA).trans h1, h2⟩, (hk _ hm).trans h.x, h.mi.keep fun b hb => hk b hb.1⟩
theorem agg_two {F : Nat → Prop} {w : World} {o nx : Value} {m : MachD} (h : MachIn F w (.agg #[o, nx]) m) : ∃ A c A' c', o = .slice A m.out.length c ∧ nx = .slice A' m.next.length c' := by
  obtain ⟨x1, x2, e, ⟨A, c, e1, _⟩, ⟨A', c', e2, _⟩⟩ := h
  injection e with e
  have := congrArg Array.toList e
  simp at this
  exact ⟨A, c, A', c', this.1.trans e1, this.2.trans e2⟩
set_option maxRecDepth 100000 in
set_option maxHeartbeats 2000000 in
theorem tells_ok {m : MachD} (gm : Good m) {bA bm B0 : Nat} {o nx : Value} (hA : bA < B0) (hm : bm < B0) (k : Nat) :
    TellsOk 14 #[.pointer (some ⟨bm, 0, none⟩)] (TM m) (ins m) (some bA) (fun _ w => RA m bA bm B0 o nx k w) B0 := by
  refine ⟨fun s w v ws hR hB hi hl hx => ?_, fun s w w' hR hk => hR.keep hA hm hk, enter_t1, fun b e => by injection e with e; omega, fun ws h => by unfold TM; rw [tells_length]; exact h⟩
  have HR := hid hR
  have HI := hid hi
  have RF : Hid (runFault m 0 ws = 0) := runFault_good gm (Int.le_refl 0) (by have := gm.pos; omega) (fun x h => hx x h)
  obtain ⟨A1, c1, A2, c2, rfl, rfl⟩ := agg_two hR.mi
  have x0 := (Has.cell hR.x 0).trans rfl
  have x1 := (Has.cell hR.x 1).trans rfl
  obtain ⟨A, c, rfl, _, _, _⟩ := hi
  clear hR hx
  show Calls Try.prog 14 #[.slice A ws.length c, .pointer (some ⟨bm, 0, none⟩)] w _
  go_enter Try.func14, Try.ntmps14
  go_wp2_with fail
  refine (run_any m 0 ws (fun b => b < w.heap.size) _ _ w (fun b h => h) (HR.out.mi.more fun b h => by have := h.1; omega) (HI.out.more fun b h => h.1) (by omega)).mono ?_
  rintro e w2 ⟨_, h2, hb⟩
  obtain ⟨u, rfl, hu⟩ := h2 RF.out
  have G := hid (gr_below hb (some bA))
  have R2 : Hid (RA m bA bm B0 (.slice A1 m.out.length c1) (.slice A2 m.next.length c2) k w2) := HR.out.keep hA hm fun b h => hb.block b (by omega)
  have U2 : Hid (IntsIn .i64 (Fx (some bA) w2) w2 u (TM m ws)) := hu.more fun b h => ⟨h.2, fun e => by injection e with e; have := h.1; omega⟩
  obtain ⟨A3, c3, rfl, _, _, _⟩ := hu
  clear h2 hb
  go_wp2_with fail
  go_ret
  exact ⟨_, rfl, U2.out, G.out, R2.out⟩
set_option maxRecDepth 100000 in
set_option maxHeartbeats 2000000 in
theorem wrong_ok {m : MachD} (gm : Good m) {bA bm B0 : Nat} {o nx : Value} (hA : bA < B0) (hm : bm < B0) (hne : bm ≠ bA) :
    WrongOk 15 #[.pointer (some ⟨bA, 0, none⟩), .pointer (some ⟨bm, 0, none⟩)] (WM m) (ins m) (some bA) (fun k _ w => RA m bA bm B0 o nx k w) B0 := by
  refine ⟨fun k s w v l hR hB hv gl hil => ?_, enter_t2⟩
  have HR := hid hR
  have HV := hid hv
  have GM := hid gm
  have GL := hid gl
  have HIL := hid hil
  obtain ⟨A1, c1, A2, c2, rfl, rfl⟩ := agg_two hR.mi
  obtain ⟨o', n', rfl, ⟨A3, c3, rfl, _, _⟩, ⟨A4, c4, rfl, _, _⟩⟩ := hv
  obtain ⟨x, ha, hxk⟩ := hR.a
  have HXK := hid hxk
  have HA := hid ha
  obtain ⟨w1, hw1⟩ : ∃ w1, w1 = w.alloc (.cells #[.slice A3 l.out.length c3, .slice A4 l.next.length c4] 24) := ⟨_, rfl⟩
  obtain ⟨g, hg⟩ : ∃ g, g = w.heap.size := ⟨_, rfl⟩
  have HG := hid hg
  have s1 : w1.heap.size = w.heap.size + 1 := by rw [hw1]; simp
  have B1 : Hid (Below w.heap.size w w1) := by show Below _ _ _; rw [hw1]; exact (Below.refl _ _).alloc (Nat.le_refl _) _
  have X1 : Hid (w1.heap[g]? = some (.cells #[.slice A3 l.out.length c3, .slice A4 l.next.length c4] 24 (0, 0))) := by show _ = _; rw [hw1, hg]; exact Has.new w _
  have XA : Hid (w1.heap[bA]? = some (.cells #[.int .i64 x] 3 (0, 0))) := Has.below ha B1.out (Has.lt ha)
  have a0 := (Has.cell XA.out 0).trans rfl
  have fa0 := Has.froz XA.out 0
  -- the world behind the count
  obtain ⟨w2, hw2⟩ : ∃ w2, w2 = w1.setCell ⟨bA, 0, none⟩ (.int .i64 (wrap64 (x + 1))) := ⟨_, rfl⟩
  have k2 : Hid (∀ b, b ≠ bA → w2.heap[b]? = w1.heap[b]?) := fun b hb => by rw [hw2]; exact Below.heap_setCell w1 _ _ b hb
  have s2 : w2.heap.size = w1.heap.size := by rw [hw2]; simp
  have gA : g ≠ bA := by omega
  have G2 : Hid (w.grownBy w2 (some bA)) := by
    have b1 := B1.out
    exact ⟨by rw [hw2]; exact b1.os, by rw [hw2]; exact b1.tape, by rw [hw2]; exact b1.output, by omega, fun b hb hr => (k2.out b (fun e => hr (by rw [e]))).trans (b1.block b hb)⟩
  have X2 : Hid (w2.heap[g]? = some (.cells #[.slice A3 l.out.length c3, .slice A4 l.next.length c4] 24 (0, 0))) := (k2.out g gA).trans X1.out
  have XM2 : Hid (w2.heap[bm]? = some (.cells #[.slice A1 m.out.length c1, .slice A2 m.next.length c2] 24 (0, 0))) := (k2.out bm hne).trans (Has.below hR.x B1.out (Has.lt hR.x))
  have R2 : Hid (RA m bA bm B0 (.slice A1 m.out.length c1) (.slice A2 m.next.length c2) (k + 1) w2) := by
    refine ⟨⟨wrap64 (x + 1), by rw [hw2, Has.set XA.out 0]; rfl, fun h => ?_⟩, XM2.out, HR.out.mi.keep fun b hb => (k2.out b hb.2).trans (B1.out.block b (by have := hb.1; omega))⟩
    have := HXK.out (by omega)
    rw [this]; unfold wrap64; omega
  have x20 := (Has.cell X2.out 0).trans rfl
  have x21 := (Has.cell X2.out 1).trans rfl
  have m20 := (Has.cell XM2.out 0).trans rfl
  have m21 := (Has.cell XM2.out 1).trans rfl
  have VL2 : Hid (MachIn (fun b => b < w2.heap.size) w2 (.agg #[.slice A3 l.out.length c3, .slice A4 l.next.length c4]) l) := (HV.out.keep fun b hb => gr_block G2.out hb.1 hb.2).more fun b hb => by have := hb.1; omega
  have VM2 : Hid (MachIn (fun b => b < w2.heap.size) w2 (.agg #[.slice A1 m.out.length c1, .slice A2 m.next.length c2]) m) := R2.out.mi.more fun b hb => by have := hb.1; omega
  clear hR ha hxk
  show Calls Try.prog 15 #[.agg #[.slice A3 l.out.length c3, .slice A4 l.next.length c4], .pointer (some ⟨bA, 0, none⟩), .pointer (some ⟨bm, 0, none⟩)] w _
  go_enter Try.func15, Try.ntmps15
  go_upto_region 1 with fail
  rw [← hw1, ← hg]
  clear hw1 hg
  go_upto_region 2 with fail
  rw [← hw2]
  clear hw2 a0 fa0
  go_wp2_with fail
  refine (apart_ok m l (fun b => b < w2.heap.size) _ _ w2 (fun b h => h) VM2.out VL2.out GM.out GL.out HIL.out.symm).mono ?_
  rintro e w3 ⟨u, rfl, hu, hb⟩
  have G3 := hid (G2.out.trans (gr_below hb (some bA)))
  have R3 : Hid (RA m bA bm B0 (.slice A1 m.out.length c1) (.slice A2 m.next.length c2) (k + 1) w3) := R2.out.keep hA hm fun b h => hb.block b (by omega)
  have U3 := hid hu
  have s3 := hb.size
  cases hW : WM m l with
  | none =>
    have HW := hid hW
    have hc : apC m l ≠ 0 := fun h => by unfold WM at hW; rw [if_pos h] at hW; cases hW
    rw [errV_no hc]
    obtain ⟨A5, c5, rfl, _, _, _⟩ := hu
    clear hb hW hc
    go_wp2_with fail
    go_ret
    exact ⟨_, s, rfl, fun _ => rfl, fun t h => (by rw [HW.out] at h; cases h), G3.out, Nat.le_refl _, by omega, R3.out⟩
  | some t =>
    have HW := hid hW
    have WS := hid (WM_some gm gl hil.symm hW)
    rw [WS.out.2.1, errV_ok]
    rw [WS.out.2.2] at U3 hu
    have TP : Hid (0 < t.length) := by
      show 0 < t.length
      rcases Nat.eq_zero_or_pos t.length with h | h
      · exfalso
        have h1 := WS.out.1.2.1
        rw [List.eq_nil_of_length_eq_zero h] at h1
        exact h1 rfl
      · exact h
    obtain ⟨A5, c5, rfl, _, _, _⟩ := hu
    clear hb hW
    go_wp2_with fail
    go_ret
    refine ⟨_, s, rfl, fun h => (by rw [HW.out] at h; cases h), fun t' h => ?_, G3.out, Nat.le_refl _, by omega, R3.out⟩
    have e : t' = t := by rw [HW.out] at h; injection h with h; exact h.symm
    rw [e]
    exact ⟨U3.out.more fun b h => ⟨by have := h.1; omega, h.2⟩, TP.out⟩
end Go.Proofs.Ytkcggmhllijgcaa
