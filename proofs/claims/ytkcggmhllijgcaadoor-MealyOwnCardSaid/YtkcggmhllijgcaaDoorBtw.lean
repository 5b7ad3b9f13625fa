/- What mealy.Between returns: the first word that tells two states of two right machines apart, or none. No conditions beyond that. -/
import Derived.Test.YtkcggmhllijgcaaDoorLsi
import Derived.Test.YtkcggmhllijgcaaDoorBth
import Derived.Test.YtkcggmhllijgcaaDoorLsi
import Derived.Deep.RegionHeld3
import Derived.BigRegion
import Derived.Deep.LoopGhost
namespace Go.Proofs.YtkcggmhllijgcaaDoor
open Go.RowKit Go.Deep Go.Maps Go.WideMaps
theorem made_at (w : World) (b : Nat) (hb : b = w.heap.size) : (w.alloc (.map #[] 0)).ownsMap (H := Unit) Tryd.prog 77 unitElem b 0 (.map []) := by subst hb; exact World.ownsMap_made _ _ _ _
def BtwPost (a b : MachD) (i k : Nat) (w : World) (e : Ending) (w' : World) : Prop :=
  Below w.heap.size w w' ∧ ((∃ r f, e = .returned (.tuple #[r, .bool true]) ∧ First a b i k f ∧ IntsIn .i64 (Fresh w w') w' r f ∧ OwnIn (Fresh w w') w' r f) ∨ (e = .returned (.tuple #[.slice none 0 0, .bool false]) ∧ XEqv a i b k))
set_option maxRecDepth 100000 in
set_option maxHeartbeats 4000000 in
theorem between_any (a b : MachD) (i k : Nat) (F : Nat → Prop) (u v : Value) (w : World) (hF : ∀ b, F b → b < w.heap.size) (hu : MachIn F w u a) (hv : MachIn F w v b) (ga : Good a) (gb : Good b) (hab : ins a = ins b) (hi : i < a.out.length) (hk : k < b.out.length) :
    Calls Tryd.prog 36 #[u, v, .int .i64 i, .int .i64 k] w (BtwPost a b i k w) := by
  have HF := hid hF
  have HA := hid hu
  have HB := hid hv
  have GA := hid ga
  have GB := hid gb
  have HI := hid hab
  obtain ⟨ao, an, rfl, ⟨A1, c1, rfl, _, _⟩, ⟨A2, c2, rfl, _, _⟩⟩ := hu
  obtain ⟨bo, bn, rfl, ⟨A3, c3, rfl, _, _⟩, ⟨A4, c4, rfl, _, _⟩⟩ := hv
  have ga1 := ga.pos
  have ga2 := ga.le
  have gb2 := gb.le
  clear hF ga gb hab
  obtain ⟨b1, o1, b2, o2, b3, o3, b4, o4, e1, e2, e3, e4, l1, l2, l3, l4, R1, R2, R3, R4⟩ : ∃ b1 o1 b2 o2 b3 o3 b4 o4, A1 = some ⟨b1, o1, none⟩ ∧ A2 = some ⟨b2, o2, none⟩ ∧ A3 = some ⟨b3, o3, none⟩ ∧ A4 = some ⟨b4, o4, none⟩ ∧ b1 < w.heap.size ∧ b2 < w.heap.size ∧ b3 < w.heap.size ∧ b4 < w.heap.size ∧
      Hid (∀ s, s < a.out.length → ∃ r, w.cell? ⟨b1, o1 + s, none⟩ = some r ∧ IntsIn .i64 F w r (rowAt a.out s)) ∧ Hid (∀ s, s < a.out.length → ∃ r, w.cell? ⟨b2, o2 + s, none⟩ = some r ∧ IntsIn .i64 F w r (rowAt a.next s)) ∧
      Hid (∀ s, s < b.out.length → ∃ r, w.cell? ⟨b3, o3 + s, none⟩ = some r ∧ IntsIn .i64 F w r (rowAt b.out s)) ∧ Hid (∀ s, s < b.out.length → ∃ r, w.cell? ⟨b4, o4 + s, none⟩ = some r ∧ IntsIn .i64 F w r (rowAt b.next s)) := by
    obtain ⟨_, _, e, ⟨_, _, h1, _, k1⟩, ⟨_, _, h2, _, k2⟩⟩ := HA.out
    obtain ⟨_, _, e', ⟨_, _, h3, _, k3⟩, ⟨_, _, h4, _, k4⟩⟩ := HB.out
    simp at e e'
    obtain ⟨rfl, rfl⟩ := e
    obtain ⟨rfl, rfl⟩ := e'
    injection h1 with h1 _ h1'
    injection h2 with h2 _ h2'
    injection h3 with h3 _ h3'
    injection h4 with h4 _ h4'
    subst h1 h1' h2 h2' h3 h3' h4 h4'
    obtain ⟨b1, o1, rfl, hb1, hc1⟩ := k1 (by omega)
    obtain ⟨b2, o2, rfl, hb2, hc2⟩ := k2 (by rw [GA.out.next]; omega)
    obtain ⟨b3, o3, rfl, hb3, hc3⟩ := k3 (by omega)
    obtain ⟨b4, o4, rfl, hb4, hc4⟩ := k4 (by rw [GB.out.next]; omega)
    exact ⟨b1, o1, b2, o2, b3, o3, b4, o4, rfl, rfl, rfl, rfl, HF.out _ hb1, HF.out _ hb2, HF.out _ hb3, HF.out _ hb4, hc1, fun s hs => hc2 s (by rw [GA.out.next]; exact hs), hc3, fun s hs => hc4 s (by rw [GB.out.next]; exact hs)⟩
  subst e1 e2 e3 e4
  have hmm := @run_makeMap Tryd.prog
  have WI : Hid ((Lit.int .i64 (i : Int)).wf = true) := wf_small (by omega)
  have WK : Hid ((Lit.int .i64 (k : Int)).wf = true) := wf_small (by omega)
  have BI := hid (BInv.zero a b i k)
  go_enter Tryd.func36, Tryd.ntmps36
  go_wp2_with (refine wpList_insert_own _ rfl (.tmp 18) (.tmp 21) (.tmp 22) 79 rfl 77 78 lawK Tryd.underlying79 unitElem (w.heap.size + 1 + 1) 0 (.map []) rfl (made_at _ _ (by simp)) (by unfold maxLen; omega) _ _ (keyP (i, k)) rfl rfl (keyOf_pair arrK Tryd.underlying3 sizeK WI.out WK.out) (.agg []) [] unitElem_mk ?_; intro w1 hmap1 hgrow1; have s1 := hgrow1.size; simp only [World.size_alloc] at s1)
  have X0 : Hid (w1.heap[w.heap.size]? = _) := Has.grown (Has.alloc (Has.alloc (Has.new w _) _) _) hgrow1 (by simp; omega)
  have X1 : Hid (w1.heap[w.heap.size + 1]? = _) := Has.grown (Has.alloc (Has.newAt (w.alloc _) _ (g := w.heap.size + 1) (by simp)) _) hgrow1 (by simp)
  have B1 : Hid (Below w.heap.size w w1) := ((((Below.refl _ _).alloc (Nat.le_refl _) _).alloc (by simp) _).alloc (by simp; omega) _).grown hgrow1 (by simp; omega) (fun k hk => by injection hk with hk; omega)
  have H0 : Hid (BHeap w.heap.size (.slice (some ⟨b1, o1, none⟩) a.out.length c1) (.slice (some ⟨b2, o2, none⟩) a.next.length c2) (.slice (some ⟨b3, o3, none⟩) b.out.length c3) (.slice (some ⟨b4, o4, none⟩) b.next.length c4) (w.heap.size + 1 + 1) (prs [(⟨i, k, []⟩, .slice none 0 0)]) [(⟨i, k, []⟩, .slice none 0 0)] 0 (.slice (some ⟨w1.heap.size, 0, none⟩) 1 1) (w1.alloc (.cells #[.int .i64 i, .int .i64 k, .slice none 0 0] 81))) :=
    ⟨Has.alloc X0.out _, Has.alloc X1.out _, SetP.kept ⟨1, by simp [prs], hmap1⟩ (World.grownBy_alloc w1 _ none) (by simp), ⟨by simp [cellsOf_len], w1.heap.size, 0, 1, _, rfl, by omega, Has.new w1 _, by simp, by unfold maxLen; omega, by simp, fun j hj => by
        match j, hj with
        | 0, _ => rfl
        | 1, _ => rfl
        | 2, _ => rfl⟩, fun x hx => by simp at hx; subst hx; exact IntsIn.nil_, by simp [Value.ownBlock]; omega, by omega⟩
  have B2 : Hid (Below w.heap.size w (w1.alloc (.cells #[.int .i64 i, .int .i64 k, .slice none 0 0] 81))) := B1.out.alloc (by omega) _
  clear hmap1 hgrow1 X0 X1
  go_loopg [11] 36 (fun gk qv wr => ∃ L h, h ≤ L.length ∧ Hid (36 - h ≤ gk) ∧ Hid (BInv a b i k (L.map Prod.fst) h 0) ∧ Hid (BHeap w.heap.size (.slice (some ⟨b1, o1, none⟩) a.out.length c1) (.slice (some ⟨b2, o2, none⟩) a.next.length c2) (.slice (some ⟨b3, o3, none⟩) b.out.length c3) (.slice (some ⟨b4, o4, none⟩) b.next.length c4) (w.heap.size + 1 + 1) (prs L) L h qv wr) ∧ Hid (Below w.heap.size w wr))
  case atStart => exact ⟨[(⟨i, k, []⟩, .slice none 0 0)], 0, Nat.zero_le _, Nat.le_refl _, BI, H0, B2⟩
  case round =>
    obtain ⟨L, h, hh, hgk, hBI, hH, hB⟩ := hrel
    obtain ⟨wo, rfl⟩ : ∃ wo : World, wo = wr := ⟨_, rfl⟩
    clear BI H0 B1 B2
    have lB := hB.out.size
    by_cases hl : h < L.length
    · obtain ⟨g, off, cap, rfl, hc1, hc2, hg, q0, q1, q2⟩ := hH.out.head hl
      have hc3 : 0 < L.length - h := by omega
      have hc4 : decide ((L.length - h : Nat) < 1) = false := by simp; omega
      unfold maxLen at hc2
      generalize hn : L.length - h = n at *
      have HN := hid hn
      clear hn
      obtain ⟨y, hy⟩ : ∃ y, y = L[h] := ⟨_, rfl⟩
      have hym : y ∈ L := by rw [hy]; exact List.getElem_mem hl
      have hyh : L[h]? = some y := by rw [List.getElem?_eq_getElem hl, hy]
      have W0 := hid (hH.out.wrd y hym)
      obtain ⟨k1, k2, k3, k4⟩ := hBI.out.wrd y.1 (List.mem_map_of_mem hym)
      have lp : y.1.p < a.out.length := by rw [← k2]; exact goes_lt GA.out _ _ hi k1
      have lq : y.1.q < b.out.length := by rw [← k3]; exact goes_lt GB.out _ _ hk (fun x hx => by have := k1 x hx; exact ⟨this.1, by rw [← HI.out]; exact this.2⟩)
      have WW : y.1.w.length ≤ 36 := by
        have h1 := hBI.out.idx h y.1 (by rw [List.getElem?_map, hyh]; rfl)
        have h2 := hBI.out.len GA.out GB.out HI.out hi hk
        simp at h2; omega
      have WR : Hid (word a y.1.w) := k1
      rw [← hy] at q0 q1 q2
      have HY := hid hyh
      clear hy hym hyh k1 k2 k3 k4
      obtain ⟨⟨p, q, ww⟩, r⟩ := y
      dsimp only at *
      obtain ⟨Ar, cr, rfl, lr, _, _⟩ := W0.out
      obtain ⟨r0, z0, ⟨A0, c0, rfl, _, _, _⟩⟩ := R1.out 0 (by omega)
      have hR0 : (rowAt a.out 0).length = ins a := rfl
      rw [hR0, Nat.add_zero] at z0
      have z0' : wo.cell? ⟨b1, o1, none⟩ = _ := (hB.out.cell (p := ⟨b1, o1, none⟩) l1).trans z0
      have ma := Has.cell hH.out.boxA 0
      simp at ma
      have gi3 := GA.out.ins3
      have ga0 : 0 < a.out.length := ga1
      have lmb := hH.out.lo
      have lbo := hH.out.map.lt
      have lw0 : w.heap.size < wo.heap.size := by omega
      have lw1 : w.heap.size + 1 < wo.heap.size := by omega
      have lb1 : b1 < wo.heap.size := by omega
      clear z0 hR0
      go_wp2_with fail
      have gb0 : b.out.length ≤ 6 := gb2
      have LC := hH.out.que.lt g rfl
      go_loopw [11, 41] (fun qv tv wi => ∃ (L' : List (Nd × Value)) (x : Nat), x ≤ ins a ∧ tv = .int .i64 x ∧ Hid (h ≤ L'.length) ∧ Hid (BInv a b i k (L'.map Prod.fst) h x) ∧ Hid (BHeap w.heap.size (.slice (some ⟨b1, o1, none⟩) a.out.length c1) (.slice (some ⟨b2, o2, none⟩) a.next.length c2) (.slice (some ⟨b3, o3, none⟩) b.out.length c3) (.slice (some ⟨b4, o4, none⟩) b.next.length c4) (w.heap.size + 1 + 1) (prs L') L' h qv wi) ∧ Hid (Below w.heap.size w wi) ∧ Hid (L'[h]? = some (⟨p, q, ww⟩, .slice Ar ww.length cr)) ∧ Hid (wi.heap[wo.heap.size]? = some (.cells #[.int .i64 p, .int .i64 q, .slice Ar ww.length cr] 81 (0, 0))) ∧ Hid (QFree w.heap.size (w.heap.size + 1 + 1) qv wi wo.heap.size)) (fun _ tv _ => ins a - (intOf tv).toNat)
      case atStart => exact ⟨L, 0, Nat.zero_le _, rfl, hh, hBI, hH.out.below ((Below.refl _ _).alloc (Nat.le_refl _) _), hB.out.alloc (by omega) _, HY, Has.new _ _, ⟨by omega, by simp, by simp [Value.ownBlock]; omega, by omega⟩⟩
      case round =>
        obtain ⟨L', x, hx, rfl, hh', hBi, hHi, hBw, hyi, hsb, hqf⟩ := hrel
        obtain ⟨wi, rfl⟩ : ∃ wi : World, wi = wr := ⟨_, rfl⟩
        have lBi := hBw.out.size
        have lsb := hqf.out.2.1
        by_cases hxl : x < ins a
        · have sb0 := Has.cell hsb.out 2
          simp at sb0
          have W1 := hid (hHi.out.wrd _ (List.mem_of_getElem? hyi.out))
          have WX : Hid ((Lit.int .i64 (x : Int)).wf = true) := wf_small (by omega)
          clear q0 q1 q2 ma z0'
          go_wp2_with fail
          have FL : [ww, [(x : Int)]].flatten = ww ++ [(x : Int)] := by simp
          refine (concat_any [ww, [(x : Int)]] (fun b => b < wi.heap.size + 2) _ _ (fun b hb => by simp; exact hb) (rows2 (r0 := .slice Ar ww.length cr) (r1 := .slice (some ⟨wi.heap.size, 0, none⟩) 1 1) (by omega) (by simp) (by simp) (((W1.out.keep fun b hb => Below.heap_alloc _ _ _ hb.2.1).keep fun b hb => Below.heap_alloc _ _ _ (by have := hb.2.1; simp; omega)).more fun b hb => by have := hb.2.1; omega) (ints1 (by omega) (by simp) WX.out)) (by rw [FL]; simp; omega)).mono ?_
          rintro e w2 ⟨rw_, rfl, own2, hb2⟩
          rw [FL] at own2
          have s2 := hb2.size
          simp only [World.size_alloc] at s2
          have wfw : ∀ z ∈ ww ++ [(x : Int)], (Lit.int .i64 z).wf = true := by
            intro z hz
            obtain ⟨n, rfl, hn6⟩ : ∃ n : Nat, z = (n : Int) ∧ n ≤ 6 := by
              rcases List.mem_append.1 hz with h1 | h1
              · have h9 := WR.out z h1; exact ⟨z.toNat, by have := h9.1; omega, by have := h9.1; have := h9.2; omega⟩
              · simp at h1; exact ⟨x, h1, by omega⟩
            exact wf_small hn6
          have I2 := hid (ints_of_own own2 wfw)
          obtain ⟨A9, c9, e9, _⟩ := ints_of_own own2 wfw
          have N2 : Hid (OwnIn (fun b => wi.heap.size + 2 ≤ b ∧ b < w2.heap.size) w2 rw_ (ww ++ [(x : Int)])) := ⟨own_in own2, fun b hb => ⟨by have := own_ge own2 b hb; simp at this; omega, own_lt own2 b hb⟩⟩
          have BB : Below wi.heap.size wi w2 := (((Below.refl _ _).alloc (Nat.le_refl _) _).alloc (by simp) _).trans (hb2.mono (by simp; omega))
          have H2 := hid (hHi.out.below BB)
          have B2 : Hid (Below w.heap.size w w2) := hBw.out.trans (BB.mono (by omega))
          have S2 : Hid (w2.heap[wo.heap.size]? = _) := Has.below hsb.out BB lsb
          have Q2 : Hid (QFree w.heap.size (w.heap.size + 1 + 1) u11 w2 wo.heap.size) := ⟨hqf.out.1, by omega, hqf.out.2.2⟩
          subst e9
          have N3 : Hid (OwnIn (fun b => wi.heap.size + 2 ≤ b ∧ b < w2.heap.size) w2 (.slice A9 (ww.length + 1) c9) (ww ++ [(x : Int)])) := by
            have h9 := N2.out
            rw [show (ww ++ [(x : Int)]).length = ww.length + 1 by simp] at h9
            exact h9
          clear N2
          have I3 : Hid (IntsIn .i64 (fun b => wi.heap.size + 2 ≤ b ∧ b < w2.heap.size) w2 (.slice A9 (ww.length + 1) c9) (ww ++ [(x : Int)])) := by
            have h9 := I2.out.more (F' := fun b => wi.heap.size + 2 ≤ b ∧ b < w2.heap.size) (fun b hb => ⟨by have := hb.1; simp at this; omega, hb.2⟩)
            rw [List.length_append] at h9; exact h9
          clear own2 hb2 wfw FL BB sb0
          have GO := GA.out.rowO p lp
          have GN := GA.out.rowN p lp
          have GO' := GB.out.rowO q lq
          have GN' := GB.out.rowN q lq
          rw [← HI.out] at GO' GN'
          obtain ⟨v1, t1, ⟨X1, d1, rfl, _, _, y1⟩⟩ := R1.out p lp
          obtain ⟨v2, t2, ⟨X2, d2, rfl, _, _, y2⟩⟩ := R2.out p lp
          obtain ⟨v3, t3, ⟨X3, d3, rfl, _, _, y3⟩⟩ := R3.out q lq
          obtain ⟨v4, t4, ⟨X4, d4, rfl, _, _, y4⟩⟩ := R4.out q lq
          rw [GO] at t1 y1
          rw [GN] at t2 y2
          rw [GO'] at t3 y3
          rw [GN'] at t4 y4
          obtain ⟨m1, f1, rfl, n1, y1⟩ := y1 (by omega)
          obtain ⟨m2, f2, rfl, n2, y2⟩ := y2 (by omega)
          obtain ⟨m3, f3, rfl, n3, y3⟩ := y3 (by omega)
          obtain ⟨m4, f4, rfl, n4, y4⟩ := y4 (by omega)
          have n1' := HF.out _ n1
          have n2' := HF.out _ n2
          have n3' := HF.out _ n3
          have n4' := HF.out _ n4
          have T1 : Hid (w2.cell? ⟨b1, o1 + p, none⟩ = _) := (B2.out.cell (p := ⟨b1, o1 + p, none⟩) l1).trans t1
          have T2 : Hid (w2.cell? ⟨b2, o2 + p, none⟩ = _) := (B2.out.cell (p := ⟨b2, o2 + p, none⟩) l2).trans t2
          have T3 : Hid (w2.cell? ⟨b3, o3 + q, none⟩ = _) := (B2.out.cell (p := ⟨b3, o3 + q, none⟩) l3).trans t3
          have T4 : Hid (w2.cell? ⟨b4, o4 + q, none⟩ = _) := (B2.out.cell (p := ⟨b4, o4 + q, none⟩) l4).trans t4
          have Y1 : Hid (w2.cell? ⟨m1, f1 + x, none⟩ = some (.int .i64 (outAt a p x))) := (B2.out.cell (p := ⟨m1, f1 + x, none⟩) n1').trans (y1 x hxl)
          have Y3 : Hid (w2.cell? ⟨m3, f3 + x, none⟩ = some (.int .i64 (outAt b q x))) := (B2.out.cell (p := ⟨m3, f3 + x, none⟩) n3').trans (y3 x hxl)
          have LX : letter a x := ⟨by omega, by omega⟩
          have LX' : letter b x := ⟨by omega, by rw [← HI.out]; omega⟩
          have Y2 : Hid (w2.cell? ⟨m2, f2 + x, none⟩ = some (.int .i64 (nextAt a p x : Nat))) := (B2.out.cell (p := ⟨m2, f2 + x, none⟩) n2').trans (by rw [y2 x hxl]; congr 2; exact nextAt_eq GA.out lp LX)
          have Y4 : Hid (w2.cell? ⟨m4, f4 + x, none⟩ = some (.int .i64 (nextAt b q x : Nat))) := (B2.out.cell (p := ⟨m4, f4 + x, none⟩) n4').trans (by rw [y4 x hxl]; congr 2; exact nextAt_eq GB.out lq LX')
          have NP : nextAt a p x < a.out.length := nextAt_lt GA.out lp LX
          have NQ : nextAt b q x < b.out.length := nextAt_lt GB.out lq LX'
          have HLX := hid LX
          have PN := GA.out.next
          have QN := GB.out.next
          have ip : (p : Int) < (a.out.length : Int) := by omega
          have iq : (q : Int) < (b.out.length : Int) := by omega
          have ip2 : (p : Int) < (a.next.length : Int) := by omega
          have iq2 : (q : Int) < (b.next.length : Int) := by omega
          have ix : (x : Int) < (ins a : Int) := by omega
          have jp : p < a.next.length := by omega
          have jq : q < b.next.length := by omega
          have ma0 := Has.cell H2.out.boxA 0
          have mb0 := Has.cell H2.out.boxB 0
          have sp0 := Has.cell S2.out 0
          have sp1 := Has.cell S2.out 1
          simp at ma0 mb0 sp0 sp1
          have hT1 := T1.out
          have hT3 := T3.out
          have hY1 := Y1.out
          have hY3 := Y3.out
          have HPN := hid PN
          have HQN := hid QN
          have HIX := hid (And.intro GO (And.intro GN (And.intro GO' GN')))
          clear t1 t2 t3 t4 y1 y2 y3 y4 GO GN GO' GN' PN QN LX LX'
          have HDh : Hid ((L'.map Prod.fst)[h]? = some ⟨p, q, ww⟩) := by show _ = _; rw [List.getElem?_map, hyi.out]; rfl
          go_wp2_with fail
          go_upto_region 10 with fail
          by_cases ho : outAt a p x = outAt b q x
          · have z1 : (outAt a p x != outAt b q x) = false := by simp [ho]
            have HO := hid ho
            clear ho
            go_quiet (fail)
            generalize hw3 : w2.drewN nq = w3
            have E3 : Below w2.heap.size w2 w3 := by rw [← hw3]; exact below_drewN (Below.refl _ _) nq
            have H3 := hid (H2.out.below E3)
            have B3 : Hid (Below w.heap.size w w3) := B2.out.trans (E3.mono (by omega))
            have S3 : Hid (w3.heap[wo.heap.size]? = _) := Has.below S2.out E3 (by omega)
            have s3 := E3.size
            have Q3 : Hid (QFree w.heap.size (w.heap.size + 1 + 1) u11 w3 wo.heap.size) := ⟨Q2.out.1, by omega, Q2.out.2.2⟩
            have I4 : Hid (IntsIn .i64 (fun b => wi.heap.size + 2 ≤ b ∧ b < w3.heap.size) w3 (.slice A9 (ww.length + 1) c9) (ww ++ [(x : Int)])) := (I3.out.keep (Same.of_below E3 fun b hb => hb.2)).more fun b hb => ⟨hb.1, by have := hb.2; omega⟩
            clear hT1 hT3 hY1 hY3 ma0 mb0 sp0 sp1
            have ma1 := Has.cell H3.out.boxA 1
            have mb1 := Has.cell H3.out.boxB 1
            have sp0 := Has.cell S3.out 0
            have sp1 := Has.cell S3.out 1
            simp at ma1 mb1 sp0 sp1
            have hT2 := (E3.cell (p := ⟨b2, o2 + p, none⟩) (by simp; omega)).trans T2.out
            have hT4 := (E3.cell (p := ⟨b4, o4 + q, none⟩) (by simp; omega)).trans T4.out
            have hY2 := (E3.cell (p := ⟨m2, f2 + x, none⟩) (by simp; omega)).trans Y2.out
            have hY4 := (E3.cell (p := ⟨m4, f4 + x, none⟩) (by simp; omega)).trans Y4.out
            have ll1 : w.heap.size < w3.heap.size := by omega
            have ll2 : w.heap.size + 1 < w3.heap.size := by omega
            have ll3 : wo.heap.size < w3.heap.size := by omega
            have ll4 : b2 < w3.heap.size := by omega
            have ll5 : b4 < w3.heap.size := by omega
            have ll6 : m2 < w3.heap.size := by omega
            have ll7 : m4 < w3.heap.size := by omega
            clear hw3 E3 H2 B2 S2 Q2 I3 I2
            go_wp2_with fail
            go_cut [15] from 70 to 88 (fun c wx => c = .pointer (some ⟨w3.heap.size, 0, none⟩) ∧ ∃ q', wx = (w3.alloc (.cells #[.int .i64 (nextAt a p x : Nat), .int .i64 (nextAt b q x : Nat)] 77)).drewN q')
            case first =>
              generalize hnp : nextAt a p x = np at *
              generalize hnq : nextAt b q x = nq' at *
              clear hnp hnq
              go_region
              all_goals
                go_wp2_with fail
                go_meet
                exact ⟨rfl, 1, rfl⟩
            case rest =>
              obtain ⟨hc, qd, hwc⟩ := hcut
              subst hc
              have EC : Below w3.heap.size w3 wc := by rw [hwc]; exact below_drewN ((Below.refl _ _).alloc (Nat.le_refl _) _) _
              have PC : Hid (wc.heap[w3.heap.size]? = some (.cells #[.int .i64 (nextAt a p x : Nat), .int .i64 (nextAt b q x : Nat)] 77 (0, 0))) := by show _ = _; rw [hwc]; exact Has.new w3 _
              have sC : w3.heap.size < wc.heap.size := Has.lt PC.out
              have HC := hid (H3.out.below EC)
              have BC : Hid (Below w.heap.size w wc) := B3.out.trans (EC.mono (by omega))
              have SC : Hid (wc.heap[wo.heap.size]? = _) := Has.below S3.out EC (by omega)
              have QC : Hid (QFree w.heap.size (w.heap.size + 1 + 1) u11 wc wo.heap.size) := ⟨Q3.out.1, by omega, Q3.out.2.2⟩
              have IC : Hid (IntsIn .i64 (fun b => wi.heap.size + 2 ≤ b ∧ b < w3.heap.size) wc (.slice A9 (ww.length + 1) c9) (ww ++ [(x : Int)])) := I4.out.keep (Same.of_below EC fun b hb => hb.2)
              have LQ : Hid (∀ g, u11.ownBlock = some g → g < wi.heap.size) := fun g hg => (hHi.out.que.lt g hg).2
              have LM : Hid (L'.length ≤ 36) := by have h9 := hBi.out.len GA.out GB.out HI.out hi hk; simp at h9; exact h9
              have np6 : nextAt a p x ≤ 6 := by omega
              have nq6 : nextAt b q x ≤ 6 := by omega
              have SML : Hid (∀ r ∈ prs L', (Lit.int .i64 r.1).wf = true ∧ (Lit.int .i64 r.2).wf = true) := by
                intro r hr
                unfold prs at hr
                simp only [List.mem_map] at hr
                obtain ⟨y, hy, rfl⟩ := hr
                exact wf_pair (hBi.out.small GA.out GB.out HI.out hi hk y.1 (List.mem_map_of_mem hy))
              have WN : Hid ((Lit.int .i64 ((nextAt a p x : Nat) : Int)).wf = true) := wf_small np6
              have WN' : Hid ((Lit.int .i64 ((nextAt b q x : Nat) : Int)).wf = true) := wf_small nq6
              have HAS := hid (SetP.has arrK Tryd.underlying3 sizeK SML.out (q := (nextAt a p x, nextAt b q x)) ⟨WN.out, WN'.out⟩)
              obtain ⟨nm, hnm, hmap⟩ := HC.out.map
              have p0 := Has.cell PC.out 0
              have p1 := Has.cell PC.out 1
              simp at p0 p1
              have lmc : w.heap.size + 1 + 1 < wc.heap.size := HC.out.map.lt
              clear hwc EC H3 B3 S3 Q3 I4 ma1 mb1 sp0 sp1 hT2 hT4 hY2 hY4 ll1 ll2 ll3 ll4 ll5 ll6 ll7 z1
              by_cases hin : (nextAt a p x, nextAt b q x) ∈ prs L'
              · rw [decide_eq_true hin] at HAS
                obtain ⟨e, hem, he1, he2⟩ : ∃ e ∈ L'.map Prod.fst, e.p = nextAt a p x ∧ e.q = nextAt b q x := by
                  unfold prs at hin
                  simp only [List.mem_map] at hin
                  obtain ⟨y, hy, e⟩ := hin
                  injection e with e1 e2
                  exact ⟨y.1, List.mem_map_of_mem hy, e1, e2⟩
                have BN := hid (hBi.out.met HDh.out HO.out hem he1 he2)
                clear hin hem he1 he2
                go_wp2_with (at_lookup; refine wpList_lookup_own_unit (H := Unit) _ rfl (.tmp 90) (.tmp 91) 79 rfl 77 78 lawK Tryd.underlying79 (zeroUnit _) (w.heap.size + 1 + 1) nm _ rfl hmap _ (keyP (nextAt a p x, nextAt b q x)) rfl (keyOf_pair arrK Tryd.underlying3 sizeK WN.out WN'.out) ?_; rw [HAS.out])
                go_roundw
                case rel => exact ⟨L', x + 1, by omega, by go_num, hh', BN, HC.out.below ((Below.refl _ _).alloc (Nat.le_refl _) _), BC.out.alloc (by omega) _, hyi, Has.alloc SC.out _, QC.out.1, by have := QC.out.2.1; simp; omega, QC.out.2.2⟩
                case measure => simp [intOf]; omega
              · rw [decide_eq_false hin] at HAS
                have hne : ∀ e ∈ L'.map Prod.fst, ¬ (e.p = nextAt a p x ∧ e.q = nextAt b q x) := fun e he hpq => by
                  apply hin
                  simp only [List.mem_map] at he
                  obtain ⟨y, hy, rfl⟩ := he
                  unfold prs
                  simp only [List.mem_map]
                  exact ⟨y, hy, by rw [hpq.1, hpq.2]⟩
                have BN := hid (hBi.out.push HDh.out HLX.out HO.out hne)
                obtain ⟨iB, hiB, hzB0, hzB1, hzB2⟩ := info_parts infoBoth
                have LM36 := LM.out
                have HNL : Hid (nm ≤ (prs L').length ∧ nm < maxLen) := ⟨hnm, by unfold maxLen; unfold prs at hnm; simp at hnm; omega⟩
                clear hnm
                have LMh := hh'.out
                clear hin hne
                go_wp2_with (first
                  | (at_lookup; refine wpList_lookup_own_unit (H := Unit) _ rfl (.tmp 90) (.tmp 91) 79 rfl 77 78 lawK Tryd.underlying79 (zeroUnit _) (w.heap.size + 1 + 1) nm _ rfl hmap _ (keyP (nextAt a p x, nextAt b q x)) rfl (keyOf_pair arrK Tryd.underlying3 sizeK WN.out WN'.out) ?_; rw [HAS.out])
                  | (at_mapUpdate; refine wpList_mapUpdate_own (H := Unit) _ rfl (.tmp 97) (.tmp 98) (.tmp 99) 79 rfl 77 78 lawK Tryd.underlying79 unitElem (w.heap.size + 1 + 1) nm _ rfl (hmap.alloc _) HNL.out.2 _ _ (keyP (nextAt a p x, nextAt b q x)) rfl rfl (keyOf_pair arrK Tryd.underlying3 sizeK WN.out WN'.out) (.agg []) [] unitElem_mk ?_; intro w5 hmap5 hgrow5; have H5 := hid ((HC.out.below ((Below.refl _ _).alloc (Nat.le_refl _) (.cells #[] 78))).mapped hgrow5 (M' := prs L' ++ [(nextAt a p x, nextAt b q x)]) (SetP.put HNL.out.1 hmap5)); have s5 := hgrow5.size; simp only [World.size_alloc] at s5; have PC5 := Has.grown (Has.alloc PC.out (.cells #[] 78)) hgrow5 (by simp; omega); have p50 := Has.cell PC5 0; have p51 := Has.cell PC5 1; simp at p50 p51; clear PC5)
                  | (at_builtin; refine wpList_app_q _ rfl (.tmp 100) (.tmp 107) 82 rfl (w.heap.size + 2) 81 iB (.agg #[.int .i64 0, .int .i64 0, .slice none 0 0]) 3 40 Tryd.underlying82 hiB hzB0 hzB1 hzB2 rfl (by decide) u11 (L'.length - h) (cellsOf (L'.drop h)) rfl (H5.out.que.alloc _) ⟨w5.heap.size, 0, none⟩ 1 1 [.int .i64 (nextAt a p x : Nat), .int .i64 (nextAt b q x : Nat), .slice A9 (ww.length + 1) c9] rfl (by decide) rfl (cells_at _ _ _ _ rfl) (by intro u hu; simp at hu; rcases hu with rfl | rfl | rfl <;> rfl) (by unfold maxLen; omega) (by omega) (by simp; omega) ?_; intro v6 w6 hown6 hgrow6 hat6))
                have s6 := hgrow6.size
                simp only [World.size_alloc] at s6
                have qm : w.heap.size + 1 + 1 < wi.heap.size := hHi.out.map.lt
                have sb9 := QC.out.2.1
                have WF6 : IntsIn .i64 (QFree w.heap.size (w.heap.size + 1 + 1) u11 (w5.alloc (.cells #[.int .i64 (nextAt a p x : Nat), .int .i64 (nextAt b q x : Nat), .slice A9 (ww.length + 1) c9] 81))) (w5.alloc (.cells #[.int .i64 (nextAt a p x : Nat), .int .i64 (nextAt b q x : Nat), .slice A9 (ww.length + 1) c9] 81)) (.slice A9 (ww.length + 1) c9) (ww ++ [(x : Int)]) := by
                  refine (((IC.out.keep (w' := wc.alloc (.cells #[] 78)) fun b hb => Below.heap_alloc _ _ _ (by have := hb.2; omega)).keep (w' := w5) fun b hb => hgrow5.block b (by have := hb.2; simp; omega) (by have := hb.1; simp; omega)).keep fun b hb => Below.heap_alloc _ _ _ (by have := hb.2; omega)).more fun b hb => ⟨by have := hb.1; omega, by have := hb.2; simp; omega, fun e => by have h8 := LQ.out b e; have := hb.1; omega, by have := hb.1; omega⟩
                have EP : prs (L' ++ [(⟨nextAt a p x, nextAt b q x, ww ++ [(x : Int)]⟩, .slice A9 (ww.length + 1) c9)]) = prs L' ++ [(nextAt a p x, nextAt b q x)] := by simp [prs]
                have H6 := hid ((H5.out.below ((Below.refl _ _).alloc (Nat.le_refl _) (.cells #[.int .i64 (nextAt a p x : Nat), .int .i64 (nextAt b q x : Nat), .slice A9 (ww.length + 1) c9] 81))).push hh'.out (d := ⟨nextAt a p x, nextAt b q x, ww ++ [(x : Int)]⟩) hown6 hgrow6 hat6 WF6)
                rw [← EP] at H6
                have B6 : Hid (Below w.heap.size w w6) := ((((BC.out.alloc (by omega) _).grown hgrow5 (by simp; omega) (fun k hk => by injection hk with hk; omega)).alloc (by omega) _).grown hgrow6 (by simp; omega) (fun k hk => by have := (H5.out.que.lt k hk).1; omega))
                have S6 : Hid (w6.heap[wo.heap.size]? = _) := Has.grown (Has.alloc (Has.grown (Has.alloc SC.out _) hgrow5 (by have := QC.out.2.2.2; simp; omega)) _) hgrow6 (fun e => QC.out.2.2.1 e.symm)
                have Q6 : Hid (QFree w.heap.size (w.heap.size + 1 + 1) v6 w6 wo.heap.size) := by
                  have h8 : QFree w.heap.size (w.heap.size + 1 + 1) u11 (w5.alloc (.cells #[.int .i64 (nextAt a p x : Nat), .int .i64 (nextAt b q x : Nat), .slice A9 (ww.length + 1) c9] 81)) wo.heap.size := ⟨QC.out.1, by simp; omega, QC.out.2.2⟩
                  exact h8.push hgrow6.size hat6
                have HY6 : Hid ((L' ++ [((⟨nextAt a p x, nextAt b q x, ww ++ [(x : Int)]⟩ : Nd), Value.slice A9 (ww.length + 1) c9)])[h]? = some (⟨p, q, ww⟩, .slice Ar ww.length cr)) := by
                  show _ = _
                  rw [List.getElem?_append_left ((List.getElem?_eq_some_iff.1 hyi.out).1)]; exact hyi.out
                have HL6 : Hid (h ≤ (L' ++ [((⟨nextAt a p x, nextAt b q x, ww ++ [(x : Int)]⟩ : Nd), Value.slice A9 (ww.length + 1) c9)]).length) := by show _ ≤ _; rw [List.length_append]; omega
                have BN6 : Hid (BInv a b i k ((L' ++ [((⟨nextAt a p x, nextAt b q x, ww ++ [(x : Int)]⟩ : Nd), Value.slice A9 (ww.length + 1) c9)]).map Prod.fst) h (x + 1)) := by rw [List.map_append]; exact BN
                go_roundw
                case rel => exact ⟨_, x + 1, by omega, by go_num, HL6, BN6, H6, B6, HY6, S6, Q6⟩
                case measure => simp [intOf]; omega
          · have z1 : (outAt a p x != outAt b q x) = true := by simp [ho]
            have FND := hid (hBi.out.found HDh.out HLX.out ho)
            clear ho
            go_quiet (fail)
            go_wp2_with fail
            go_ret2
            exact ⟨below_drewN B2.out _, .inl ⟨.slice A9 (ww.length + 1) c9, _, rfl, FND.out, (I3.out.keep (w' := w2.drewN _) (fun _ _ => rfl)).more fun b hb => ⟨by have := hb.1; omega, hb.2⟩, (N3.out.keep (w' := w2.drewN _) (fun _ _ => rfl)).more fun b hb => ⟨by have := hb.1; omega, hb.2⟩⟩⟩
        · obtain rfl : x = ins a := by omega
          have hl2 := (List.getElem?_eq_some_iff.1 hyi.out).1
          have BD := hid (hBi.out.done (by omega) (by rw [List.length_map]; exact hl2))
          have LM : L'.length ≤ 36 := by have h9 := hBi.out.len GA.out GB.out HI.out hi hk; simp at h9; exact h9
          obtain ⟨g3, off3, cap3, rfl, HP⟩ := hHi.out.pop hl2
          have HP' := hid HP
          have k3 : 1 ≤ L'.length - h := by omega
          have LB : Hid (36 - (h + 1) < gk ∧ h + 1 ≤ L'.length) := by have h9 := hgk.out; exact ⟨by omega, by omega⟩
          clear HP q0 q1 q2 ma z0'
          by_cases hcap : cap3 = 0
          · subst hcap
            simp only [Nat.zero_add, if_true] at HP'
            go_wp2_with fail
            go_roundg (36 - (h + 1))
            case measure => exact LB.out.1
            case rel => exact ⟨L', h + 1, LB.out.2, Nat.le_refl _, BD, HP', hBw⟩
          · rw [if_neg (by omega)] at HP'
            go_wp2_with fail
            go_roundg (36 - (h + 1))
            case measure => exact LB.out.1
            case rel => exact ⟨L', h + 1, LB.out.2, Nat.le_refl _, BD, HP', hBw⟩
    · have e0 : L.length - h = 0 := by omega
      have NO := hid (hBI.out.none_ (by rw [List.length_map]; omega))
      have hq := hH.out.que
      rw [e0] at hq
      obtain ⟨g3, off3, cap3, rfl, _⟩ := hq.cell
      clear e0 hq
      go_wp2_with fail
      go_ret2
      exact ⟨hB.out, .inr ⟨rfl, NO.out⟩⟩
end Go.Proofs.YtkcggmhllijgcaaDoor
