/- What the reference's Leaves returns of a value of at most 1048576 parts: its leaves, in a new list. Condition: that bound. -/
import Derived.Test.YtcifglaklligfaaDoorLvm
import Derived.Test.YtcifglaklligfaaDoorGen
import Derived.Test.YtcifglaklligfaaDoorVac
namespace Go.Proofs.YtcifglaklligfaaDoor
open Go.RowKit
def LvPost (x : Va) (w : World) (e : Ending) (w' : World) : Prop := ∃ v, e = .returned v ∧ IntsIn .i64 (Fresh w w') w' v x.lvs ∧ Below w.heap.size w w'
def LvOk (x : Va) : Prop := ∀ (F : Nat → Prop) (a b c : Value) (w : World), (∀ g, F g → g < w.heap.size) → VaIn F w x a b c → x.nodes ≤ 1048576 →
  Calls Tryd.prog 29 #[.agg #[a, b, c]] w (LvPost x w)
theorem wf_of_ok {n : Int} (h : Ok64 n) : (Lit.int .i64 n).wf = true := WalkArith.wf_i64 (by unfold Ok64 at h; omega)
set_option maxRecDepth 100000 in
set_option maxHeartbeats 1000000 in
theorem leaves_step (k : Bool) (n : Int) (s : List Va) (ih : ∀ y ∈ s, LvOk y) : LvOk (.mk k n s) := by
  intro F a b c w hF hx hn
  have HF := hid hF
  have IH := hid ih
  have HX := hid hx
  have FIT := hid (VaIn.fit _ hx)
  obtain ⟨A, cp, rfl, rfl, rfl, l1, l2, hs⟩ := hx.box
  have HS := hid hs
  have B0 : Hid (Below w.heap.size w (w.alloc (.cells #[.bool k, .int .i64 n, .slice A s.length cp] 38))) := (Below.refl _ _).alloc (Nat.le_refl _) _
  have X0 := hid (Has.new w (.cells #[.bool k, .int .i64 n, .slice A s.length cp] 38))
  rw [Va.nodes] at hn
  have ND := hid hn
  clear hF ih hs hx
  cases k with
  | false =>
    have OKN : Hid (Ok64 n) := by have := FIT.out; rw [Va.fit] at this; exact this.1
    go_enter Tryd.func29, Tryd.ntmps29
    go_wp2_with fail
    go_ret
    refine ⟨_, rfl, ?_, B0.out.alloc (by simp) _⟩
    rw [Va.lvs]
    exact ints1 ⟨by simp, by simp⟩ (by simp) (wf_of_ok OKN.out)
  | true =>
    have FS : Hid (∀ z ∈ Vas.lvs s, (Lit.int .i64 z).wf = true) := fun z hz => by
      have h1 := FIT.out
      rw [Va.fit] at h1
      exact wf_of_ok (Vas.lvs_ok s h1.2.2 z hz)
    obtain ⟨i0, hi0, hz0, hz1, hz2⟩ := info_parts infoInt
    go_enter Tryd.func29, Tryd.ntmps29
    go_wp2_with fail
    go_loopw [3, 4] (fun ov iv wr => ∃ (i : Nat) (v : Value), i ≤ s.length ∧ ov = v ∧ iv = .int .i64 i ∧ Hid (wr.ownsRow (w.heap.size + 1) 3 1 v (Vas.lvs (s.take i)).length ((Vas.lvs (s.take i)).map (Value.int .i64))) ∧ Hid (wr.heap[w.heap.size]? = some (.cells #[.bool true, .int .i64 n, .slice A s.length cp] 38 (0, 0))) ∧ Hid (Below w.heap.size w wr)) (fun _ iv _ => s.length - (intOf iv).toNat)
    case atStart => exact ⟨0, _, Nat.zero_le _, rfl, rfl, World.ownsRow_nil _ _ _ _, X0, B0⟩
    case round =>
      obtain ⟨i, v, hi, rfl, rfl, hO, hX, hB⟩ := hrel
      obtain ⟨wo, rfl⟩ : ∃ wo : World, wo = wr := ⟨_, rfl⟩
      have lB := hB.out.size
      have lX := Has.lt hX.out
      have x2 := Has.cell hX.out 2
      simp at x2
      clear B0 X0
      by_cases hlt : i < s.length
      · obtain ⟨bl, off, rfl, hFb, hex⟩ := HS.out (by omega)
        obtain ⟨a1, b1, c1, q1, q2, q3, hy⟩ := (VasIn.keep (Same.of_below hB.out HF.out) s hFb hex).at_ hlt
        have HY := hid hy
        have PI := hid (IH.out s[i] (List.getElem_mem hlt))
        have i1 : (i : Int) < (s.length : Int) := by omega
        have NY : Hid (s[i].nodes ≤ 1048576) := by have := nodes_mem (List.getElem_mem hlt); have := ND.out; show _ ≤ _; omega
        have TK := hid (lvs_succ hlt)
        have LL : (Vas.lvs (s.take i)).length + s[i].lvs.length ≤ 1048576 := by
          have h1 := Vas.lvs_len (s.take (i + 1))
          have h2 := nodes_take s (i + 1)
          have h3 := ND.out
          rw [TK.out, List.length_append] at h1
          omega
        obtain ⟨⟨k1, n1, s1⟩, hy0⟩ : ∃ y, y = s[i] := ⟨_, rfl⟩
        rw [← hy0] at HY PI NY TK LL
        obtain ⟨A1, cp1, rfl, rfl, rfl, _, _, _⟩ := HY.out.box
        clear hex hy hy0
        go_wp2_with fail
        refine (PI.out F _ _ _ wo (fun g hg => by have := HF.out g hg; omega) HY.out NY.out).mono ?_
        rintro e w2 ⟨v1, rfl, I1, hb2⟩
        have C1 := hid I1.cells
        have O2 := hid (own_below hO.out hb2)
        have B2 := hid (hB.out.trans (hb2.mono lB))
        have X2 := hid (Has.below hX.out hb2 lX)
        have l2 := hb2.size
        clear I1 hb2 x2 q1 q2 q3
        go_wp2_with (at_builtin; refine wpList_app _ rfl (.tmp 18) (.tmp 24) 42 rfl (w.heap.size + 1) 3 i0 (.int .i64 0) 1 8 Tryd.underlying42 hi0 hz0 hz1 hz2 rfl (by decide) _ _ _ rfl O2.out _ _ _ _ rfl C1.out (ints_one _ _) (by unfold maxLen; omega) (by omega) (by omega) ?_; intro v5 w5 hown5 hgrow5 _; have B5 := hid (B2.out.trans ((Below.refl _ _).grown hgrow5 (by omega) (fun k hk => by have := own_ge O2.out k hk; omega))); have X5 := hid (Has.grown X2.out hgrow5 (fun e => by have := own_ge O2.out _ e.symm; omega)); have O5 := hid hown5; clear hown5 hgrow5)
        go_roundw
        case rel => exact ⟨i + 1, v5, by omega, rfl, by go_num, by rw [TK.out, List.length_append, List.map_append]; exact O5, X5, B5⟩
        case measure => simp [intOf]; omega
      · obtain rfl : i = s.length := by omega
        have TL : Hid (s.take s.length = s) := by show _ = _; simp
        rw [TL.out] at hO
        go_wp2_with fail
        go_ret
        refine ⟨_, rfl, ?_, hB.out⟩
        rw [Va.lvs]
        exact (ints_of_own hO.out FS.out).more fun b h => ⟨by have := h.1; omega, h.2⟩
theorem leaves_any : ∀ x, LvOk x := Va.ind leaves_step
end Go.Proofs.YtcifglaklligfaaDoor
