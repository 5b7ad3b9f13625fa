/- The two function values of TopKnown: a machine's answers, and what is wrong with another one. Condition: a right machine. -/
import Derived.Test.YtkcggmhllijgcaaLqx
import Derived.Test.YtkcggmhllijgcaaApt
import Derived.Test.YtkcggmhllijgcaaRuk
namespace Go.Proofs.Ytkcggmhllijgcaa
open Go.RowKit Go.Deep
theorem enter_s1 : ∀ (args : Array Value) (w : World), Sem.run Try.prog (callFunc 8 args) w = .ok (.enter 8 args) w := fun _ _ => by kernel_rfl
theorem enter_s2 : ∀ (args : Array Value) (w : World), Sem.run Try.prog (callFunc 9 args) w = .ok (.enter 9 args) w := fun _ _ => by kernel_rfl
theorem agg_twoS {F : Nat → Prop} {w : World} {o nx : Value} {m : MachD} (h : MachIn F w (.agg #[o, nx]) m) : ∃ A c A' c', o = .slice A m.out.length c ∧ nx = .slice A' m.next.length c' := by
  obtain ⟨x1, x2, e, ⟨A, c, e1, _⟩, ⟨A', c', e2, _⟩⟩ := h
  injection e with e
  have := congrArg Array.toList e
  simp at this
  exact ⟨A, c, A', c', this.1.trans e1, this.2.trans e2⟩
/-- what both hold: the box of the machine -/
structure MA (m : MachD) (bm B0 : Nat) (o nx : Value) (w : World) : Prop where
  x : w.heap[bm]? = some (.cells #[o, nx] 24 (0, 0))
  mi : MachIn (fun b => b < B0) w (.agg #[o, nx]) m
theorem MA.keep {m : MachD} {bm B0 : Nat} {o nx : Value} {w w' : World} (hm : bm < B0) (h : MA m bm B0 o nx w) (hk : ∀ b, b < B0 → w'.heap[b]? = w.heap[b]?) : MA m bm B0 o nx w' :=
  ⟨(hk _ hm).trans h.x, h.mi.keep fun b hb => hk b hb⟩
set_option maxRecDepth 100000 in
set_option maxHeartbeats 2000000 in
theorem tellS_ok {m : MachD} (gm : Good m) {bm B0 : Nat} {o nx : Value} (hm : bm < B0) :
    TellsOk 8 #[.pointer (some ⟨bm, 0, none⟩)] (TM m) (ins m) none (fun _ w => MA m bm B0 o nx w) B0 := by
  refine ⟨fun s w v ws hR hB hi hl hx => ?_, fun s w w' hR hk => hR.keep hm hk, enter_s1, fun _ e => (by cases e), fun ws h => by unfold TM; rw [tells_length]; exact h⟩
  have HR := hid hR
  have HI := hid hi
  have RF : Hid (runFault m 0 ws = 0) := runFault_good gm (Int.le_refl 0) (by have := gm.pos; omega) (fun x h => hx x h)
  obtain ⟨A1, c1, A2, c2, rfl, rfl⟩ := agg_twoS hR.mi
  have x0 := (Has.cell hR.x 0).trans rfl
  have x1 := (Has.cell hR.x 1).trans rfl
  obtain ⟨A, c, rfl, _, _, _⟩ := hi
  clear hR hx
  show Calls Try.prog 8 #[.slice A ws.length c, .pointer (some ⟨bm, 0, none⟩)] w _
  go_enter Try.func8, Try.ntmps8
  go_wp2_with fail
  refine (run_any m 0 ws (fun b => b < w.heap.size) _ _ w (fun b h => h) (HR.out.mi.more fun b h => by omega) (HI.out.more fun b h => h.1) (by omega)).mono ?_
  rintro e w2 ⟨_, h2, hb⟩
  obtain ⟨u, rfl, hu⟩ := h2 RF.out
  have G := hid (gr_below hb none)
  have R2 : Hid (MA m bm B0 (.slice A1 m.out.length c1) (.slice A2 m.next.length c2) w2) := HR.out.keep hm fun b h => hb.block b (by omega)
  have U2 : Hid (IntsIn .i64 (Fx none w2) w2 u (TM m ws)) := hu.more fun b h => ⟨h.2, fun e => by cases e⟩
  obtain ⟨A3, c3, rfl, _, _, _⟩ := hu
  clear h2 hb
  go_wp2_with fail
  go_ret
  exact ⟨_, rfl, U2.out, G.out, R2.out⟩
set_option maxRecDepth 100000 in
set_option maxHeartbeats 2000000 in
theorem wrongS_ok {m : MachD} (gm : Good m) {bm B0 : Nat} {o nx : Value} (hm : bm < B0) :
    WrongOk 9 #[.pointer (some ⟨bm, 0, none⟩)] (WM m) (ins m) none (fun _ _ w => MA m bm B0 o nx w) B0 := by
  refine ⟨fun k s w v l hR hB hv gl hil => ?_, enter_s2⟩
  have HR := hid hR
  have HV := hid hv
  have GM := hid gm
  have GL := hid gl
  have HIL := hid hil
  obtain ⟨A1, c1, A2, c2, rfl, rfl⟩ := agg_twoS hR.mi
  obtain ⟨o', n', rfl, ⟨A3, c3, rfl, _, _⟩, ⟨A4, c4, rfl, _, _⟩⟩ := hv
  obtain ⟨w1, hw1⟩ : ∃ w1, w1 = w.alloc (.cells #[.slice A3 l.out.length c3, .slice A4 l.next.length c4] 24) := ⟨_, rfl⟩
  obtain ⟨g, hg⟩ : ∃ g, g = w.heap.size := ⟨_, rfl⟩
  have s1 : w1.heap.size = w.heap.size + 1 := by rw [hw1]; simp
  have B1 : Hid (Below w.heap.size w w1) := by show Below _ _ _; rw [hw1]; exact (Below.refl _ _).alloc (Nat.le_refl _) _
  have X1 : Hid (w1.heap[g]? = some (.cells #[.slice A3 l.out.length c3, .slice A4 l.next.length c4] 24 (0, 0))) := by show _ = _; rw [hw1, hg]; exact Has.new w _
  have XM1 : Hid (w1.heap[bm]? = some (.cells #[.slice A1 m.out.length c1, .slice A2 m.next.length c2] 24 (0, 0))) := Has.below hR.x B1.out (Has.lt hR.x)
  have G1 := hid (gr_below B1.out none)
  have R1 : Hid (MA m bm B0 (.slice A1 m.out.length c1) (.slice A2 m.next.length c2) w1) := HR.out.keep hm fun b h => B1.out.block b (by omega)
  have x10 := (Has.cell X1.out 0).trans rfl
  have x11 := (Has.cell X1.out 1).trans rfl
  have m10 := (Has.cell XM1.out 0).trans rfl
  have m11 := (Has.cell XM1.out 1).trans rfl
  have VL1 : Hid (MachIn (fun b => b < w1.heap.size) w1 (.agg #[.slice A3 l.out.length c3, .slice A4 l.next.length c4]) l) := (HV.out.keep fun b hb => B1.out.block b hb.1).more fun b hb => by have := hb.1; omega
  have VM1 : Hid (MachIn (fun b => b < w1.heap.size) w1 (.agg #[.slice A1 m.out.length c1, .slice A2 m.next.length c2]) m) := R1.out.mi.more fun b hb => by omega
  clear hR
  show Calls Try.prog 9 #[.agg #[.slice A3 l.out.length c3, .slice A4 l.next.length c4], .pointer (some ⟨bm, 0, none⟩)] w _
  go_enter Try.func9, Try.ntmps9
  go_upto_region 1 with fail
  rw [← hw1, ← hg]
  clear hw1 hg
  go_wp2_with fail
  refine (apart_ok m l (fun b => b < w1.heap.size) _ _ w1 (fun b h => h) VM1.out VL1.out GM.out GL.out HIL.out.symm).mono ?_
  rintro e w3 ⟨u, rfl, hu, hb⟩
  have G3 := hid (G1.out.trans (gr_below hb none))
  have R3 : Hid (MA m bm B0 (.slice A1 m.out.length c1) (.slice A2 m.next.length c2) w3) := R1.out.keep hm fun b h => hb.block b (by omega)
  have U3 := hid hu
  have s3 := hb.size
  cases hW : WM m l with
  | none =>
    have HW := hid hW
    have hc : apC m l ≠ 0 := fun h => by unfold WM at hW; rw [if_pos h] at hW; cases hW
    rw [errV_no hc]
    obtain ⟨A5, c5, rfl, _, _, _⟩ := hu
    clear hb hW hc
    go_wp2_with fail
    go_ret
    exact ⟨_, s, rfl, fun _ => rfl, fun t h => (by rw [HW.out] at h; cases h), G3.out, Nat.le_refl _, by omega, R3.out⟩
  | some t =>
    have HW := hid hW
    have WS := hid (WM_some gm gl hil.symm hW)
    rw [WS.out.2.1, errV_ok]
    rw [WS.out.2.2] at U3 hu
    have TP : Hid (0 < t.length) := by
      show 0 < t.length
      rcases Nat.eq_zero_or_pos t.length with h | h
      · exfalso
        have h1 := WS.out.1.2.1
        rw [List.eq_nil_of_length_eq_zero h] at h1
        exact h1 rfl
      · exact h
    obtain ⟨A5, c5, rfl, _, _, _⟩ := hu
    clear hb hW
    go_wp2_with fail
    go_ret
    refine ⟨_, s, rfl, fun h => (by rw [HW.out] at h; cases h), fun t' h => ?_, G3.out, Nat.le_refl _, by omega, R3.out⟩
    have e : t' = t := by rw [HW.out] at h; injection h with h; exact h.symm
    rw [e]
    exact ⟨U3.out.more fun b h => ⟨by have := h.1; omega, h.2⟩, TP.out⟩
end Go.Proofs.Ytkcggmhllijgcaa
