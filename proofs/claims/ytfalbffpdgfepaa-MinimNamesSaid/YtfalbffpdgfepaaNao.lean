/- The law MinimNames, of a right machine and two of its states. No conditions beyond that. -/
import Derived.Test.YtfalbffpdgfepaaNam
import Derived.Deep.CutRange
import Derived.Deep.RegionLaw
namespace Go.Proofs.Ytfalbffpdgfepaa
open Go.RowKit Go.Deep
theorem swTo_succ (m : MachD) (i k j : Nat) : (swTo m i k (j + 1)).out = (swTo m i k j).out ++ [rowAt m.out (sw i k j)] ∧ (swTo m i k (j + 1)).next = (swTo m i k j).next ++ [(rowAt m.next (sw i k j)).map (swZ i k)] := by
  simp [swTo, List.range_succ]
theorem swTo_len (m : MachD) (i k j : Nat) : (swTo m i k j).out.length = j ∧ (swTo m i k j).next.length = j := by simp [swTo]
def NInv (B : Nat) (w : World) (l1 l2 : List (List Int)) : Prop := ∃ (h1 h2 : Value) (c1 c2 : List Value), LInv 0 B w.heap.size B (.slice none 0 0) h1 h2 c1 c2 w [] l1 l2
def rowTo (m : MachD) (i k f t : Nat) : List Int := ((rowAt m.next f).take t).map (swZ i k)
theorem rowTo_succ (m : MachD) (i k f t : Nat) (h : t < (rowAt m.next f).length) : rowTo m i k f (t + 1) = rowTo m i k f t ++ [swZ i k (at0 (rowAt m.next f) t)] := by
  unfold rowTo; rw [take_snoc _ _ h, List.map_append]; rfl
set_option maxRecDepth 100000 in
set_option maxHeartbeats 4000000 in
theorem names_ok (m : MachD) (v : Value) (I K : Nat) (W : World) (hm : MachIn (fun b => b < W.heap.size) W v m) (g : Good m) (hI1 : 1 ≤ I) (hI2 : I < m.out.length) (hK1 : 1 ≤ K) (hK2 : K < m.out.length) :
    Calls Try.prog 5 #[v, .int .i64 I, .int .i64 K] W (NamPost W) := by
  have HM := hid hm
  have G := hid g
  obtain ⟨o, nx, rfl, ⟨Ao, co, rfl, ho1, _⟩, ⟨An, cn, rfl, hn1, _⟩⟩ := hm
  have g1 := g.pos
  have g2 := g.le
  clear g
  go_enter Try.func5, Try.ntmps5
  go_wp2_with fail
  refine (least_ok m (fun b => b < W.heap.size) _ _ (fun b hb => by simp; omega) (HM.out.keep fun b hb => Below.heap_alloc _ _ _ hb) G.out).mono ?_
  rintro e w1 ⟨r, c, l, rfl, CO, LD, LM, hb⟩
  have LM1 := hid LM
  obtain ⟨oA, oB, rfl, ⟨A3, a3, rfl, _, _⟩, ⟨A4, a4, rfl, _, _⟩⟩ := LM
  obtain ⟨B1, X1, s1⟩ := box_below hb
  have K1 := hid B1
  have L1 := hid X1
  have HCO := hid CO
  have HLD := hid LD
  clear hb B1 X1 CO LD
  go_wp2_with fail
  refine (one_run (w1.alloc (Obj.cells #[Value.slice A3 l.out.length a3, Value.slice A4 l.next.length a4] 24)) (w1.heap.size + 1) (by simp)).mono ?_
  rintro e w2 ⟨A1, c1, rfl, hb2⟩
  have s2 := hb2.size
  simp only [World.size_alloc] at s2
  have K2 : Hid (Below W.heap.size W w2) := (K1.out.alloc (by omega) _).trans (hb2.mono (by omega))
  have MB := hid (Has.below (Has.alloc L1.out _) hb2 (by omega))
  have LB := hid (Has.below (Has.new w1 _) hb2 (by omega))
  have LM2 : Hid (MachIn (fun b => b < w2.heap.size) w2 (.agg #[.slice A3 l.out.length a3, .slice A4 l.next.length a4]) l) := by
    refine ((LM1.out.keep (w' := w1.alloc _) fun b hb => Below.heap_alloc _ _ _ hb.2).keep (Same.of_below hb2 fun b hb => by have := hb.2; omega)).more fun b hb => by have := hb.2; omega
  have M2 : Hid (MachIn (fun b => b < W.heap.size) w2 (.agg #[.slice Ao m.out.length co, .slice An m.next.length cn]) m) := HM.out.keep (Same.of_below K2.out fun b hb => hb)
  have x0 := Has.cell MB.out 0
  have y0 := Has.cell LB.out 0
  simp at x0 y0
  have d1 : decide ((I : Int) < 1) = false := by simp; omega
  have d2 : decide ((m.out.length : Int) ≤ I) = false := by simp; omega
  have d3 : decide ((K : Int) < 1) = false := by simp; omega
  have d4 : decide ((m.out.length : Int) ≤ K) = false := by simp; omega
  have d5 : decide (m.out.length ≤ I) = false := by simp; omega
  have d6 : decide (m.out.length ≤ K) = false := by simp; omega
  clear hb2 L1 LM1
  have BL0 : Hid (Below w2.heap.size w2 (w2.alloc (Obj.cells #[Value.slice none 0 0, Value.slice none 0 0] 24))) := (Below.refl _ _).alloc (Nat.le_refl _) _
  have I0 : Hid (LInv 0 w2.heap.size (w2.heap.size + 1) w2.heap.size (.slice none 0 0) (.slice none 0 0) (.slice none 0 0) [] [] (w2.alloc (Obj.cells #[Value.slice none 0 0, Value.slice none 0 0] 24)) [] (swTo m I K 0).out (swTo m I K 0).next) :=
    ⟨World.ownsRow_nil _ _ _ _, Has.newAt _ _ rfl, World.ownsRow_nil _ _ _ _, World.ownsRow_nil _ _ _ _, fun i hi => by simp [swTo] at hi, fun i hi => by simp [swTo] at hi, Nat.le_refl _, Nat.zero_le _, by simp, by simp [Value.ownBlock], by simp [Value.ownBlock], by simp [Value.ownBlock], by simp [Value.ownBlock], by simp [Value.ownBlock], by simp [Value.ownBlock]⟩
  obtain ⟨i0, hi0, hz0, hz1, hz2⟩ := info_parts infoInt
  obtain ⟨i1, hi1, hy0, hy1, hy2⟩ := info_parts infoRowL
  have lw : W.heap.size < w2.heap.size := by omega
  have lw1 : w1.heap.size < w2.heap.size := by omega
  have lK := K2.out.size
  obtain ⟨bO, oO, bN, oN, eO, eN, lO, lN, HO, HN⟩ : ∃ bO oO bN oN, Ao = some ⟨bO, oO, none⟩ ∧ An = some ⟨bN, oN, none⟩ ∧ bO < w2.heap.size ∧ bN < w2.heap.size ∧
      Hid (∀ s, s < m.out.length → ∃ r, w2.cell? ⟨bO, oO + s, none⟩ = some r ∧ IntsIn .i64 (fun b => b < W.heap.size) w2 r (rowAt m.out s)) ∧
      Hid (∀ s, s < m.out.length → ∃ r, w2.cell? ⟨bN, oN + s, none⟩ = some r ∧ IntsIn .i64 (fun b => b < W.heap.size) w2 r (rowAt m.next s)) := by
    obtain ⟨o', n', e, ⟨A1', a1', e1, _, HO⟩, ⟨A2', a2', e2, _, HN⟩⟩ := M2.out
    injection e with e
    simp at e
    obtain ⟨e3, e4⟩ := e
    subst e3 e4
    injection e1 with e1 _ e1'
    injection e2 with e2 _ e2'
    subst e1 e1' e2 e2'
    obtain ⟨bO, oO, rfl, hbO, hcO⟩ := HO (by omega)
    obtain ⟨bN, oN, rfl, hbN, hcN⟩ := HN (by rw [G.out.next]; omega)
    exact ⟨bO, oO, bN, oN, rfl, rfl, by omega, by omega, hcO, fun s hs => hcN s (by rw [G.out.next]; exact hs)⟩
  subst eO eN
  have gi1 := G.out.ins1
  have gi3 := G.out.ins3
  go_wp2_with fail
  go_loopw [14] (fun sv wr => ∃ j : Nat, j ≤ m.out.length ∧ sv = .int .i64 j ∧ Hid (NInv w2.heap.size wr (swTo m I K j).out (swTo m I K j).next) ∧ Hid (Below w2.heap.size w2 wr)) (fun sv _ => m.out.length - (intOf sv).toNat)
  case atStart => exact ⟨0, by omega, rfl, ⟨_, _, [], [], I0.out.raise (by simp) (Nat.le_refl _)⟩, BL0⟩
  case round =>
    obtain ⟨j, hj, rfl, hII, hB⟩ := hrel
    obtain ⟨wo, rfl⟩ : ∃ wo : World, wo = wr := ⟨_, rfl⟩
    obtain ⟨h1, h2, c1, c2, hI'⟩ := hII.out
    have hI := hid hI'
    have lB := hB.out.size
    clear I0 BL0 hII hI'
    by_cases hjl : j < m.out.length
    · have hfl : sw I K j < m.out.length := sw_lt hI2 hK2 hjl
      have SL := hid (swTo_len m I K j)
      have SS := hid (swTo_succ m I K j)
      generalize hf : sw I K j = f at *
      have HSF := hid hf
      clear hf
      go_upto_if 87 with fail
      go_cut [15] from 88 to 92 (fun c wx => c = .int .i64 (f : Nat) ∧ wx = wo)
      case first =>
        by_cases z1 : j = I
        · have e1 : f = K := by rw [← HSF.out]; unfold sw; rw [if_pos z1]
          subst z1 e1
          go_wp2_with fail
          go_meet
          exact ⟨rfl, rfl⟩
        · have z1' : (j : Int) ≠ (I : Int) := by omega
          by_cases z2 : j = K
          · have e1 : f = I := by rw [← HSF.out]; unfold sw; rw [if_neg z1, if_pos z2]
            subst z2 e1
            go_wp2_with fail
            go_meet
            exact ⟨rfl, rfl⟩
          · have e1 : f = j := by rw [← HSF.out]; unfold sw; rw [if_neg z1, if_neg z2]
            have z2' : (j : Int) ≠ (K : Int) := by omega
            subst e1
            go_wp2_with fail
            go_meet
            exact ⟨rfl, rfl⟩
      case rest =>
        obtain ⟨rfl, hwc⟩ := hcut
        subst wc
        obtain ⟨r0, q0, ⟨A0, c0, rfl, _, _, _⟩⟩ := HO.out 0 g1
        obtain ⟨rN, q1, ⟨AR, aR, rfl, _, wfR, iR⟩⟩ := HN.out f hfl
        have hR0 : (rowAt m.out 0).length = ins m := rfl
        have hRN : (rowAt m.next f).length = ins m := G.out.rowN f hfl
        rw [hRN] at q1 iR
        rw [hR0, Nat.add_zero] at q0
        obtain ⟨bR, oR, rfl, hbR, hcR⟩ := iR (by omega)
        have HR := hid hcR
        have Q0 := hid q0
        have Q1 := hid q1
        have lR : bR < w2.heap.size := by omega
        have WFN := hid wfR
        clear iR hcR q0 q1 wfR hR0
        go_wp2_with fail
        go_loopw [16, 17] (fun rv tv wi => ∃ t : Nat, t ≤ ins m ∧ tv = .int .i64 t ∧ Hid (LInv 0 w2.heap.size wo.heap.size w2.heap.size (.slice none 0 0) h1 h2 c1 c2 wi [] (swTo m I K j).out (swTo m I K j).next) ∧ wi.ownsRow wo.heap.size 3 1 rv t ((rowTo m I K f t).map (Value.int .i64)) ∧ Hid (RowSep 0 wo.heap.size w2.heap.size (.slice none 0 0) h1 h2 rv wi) ∧ Hid (Below w2.heap.size w2 wi)) (fun _ tv _ => ins m - (intOf tv).toNat)
        case atStart => exact ⟨0, Nat.zero_le _, rfl, hI, World.ownsRow_nil _ _ _ _, ⟨fun b hb => by simp [Value.ownBlock] at hb⟩, hB⟩
        case round =>
          obtain ⟨t, ht, rfl, hIi, hown, hsep, hBi⟩ := hrel
          obtain ⟨wi, rfl⟩ : ∃ wi : World, wi = wr := ⟨_, rfl⟩
          have lBi := hBi.out.size
          have lCi := hIi.out.hi
          have MBi := Has.below MB.out hBi.out lw
          have ma0 := Has.cell MBi 0
          have ma1 := Has.cell MBi 1
          simp at ma0 ma1
          have q0 : wi.cell? ⟨bO, oO, none⟩ = _ := (hBi.out.cell (p := ⟨bO, oO, none⟩) lO).trans Q0.out
          have q1 : wi.cell? ⟨bN, oN + f, none⟩ = _ := (hBi.out.cell (p := ⟨bN, oN + f, none⟩) lN).trans Q1.out
          clear MBi
          by_cases htl : t < ins m
          · have gg := G.out.goes f hfl t htl
            have hr1 : wi.cell? ⟨bR, oR + t, none⟩ = some (.int .i64 (at0 (rowAt m.next f) t)) := (hBi.out.cell (p := ⟨bR, oR + t, none⟩) lR).trans (HR.out t (by omega))
            obtain ⟨y, hy⟩ : ∃ y : Nat, at0 (rowAt m.next f) t = (y : Int) := ⟨(at0 (rowAt m.next f) t).toNat, by omega⟩
            rw [hy] at hr1 gg
            have RT : Hid ((rowTo m I K f (t + 1)).map (Value.int .i64) = (rowTo m I K f t).map (Value.int .i64) ++ [Value.int .i64 (sw I K y : Nat)]) := by
              show _ = _
              rw [rowTo_succ m I K f t (by omega), hy, swZ_nat, List.map_append]; rfl
            have hyl : (y : Int) < m.out.length := by omega
            clear hy gg
            have fnl : f < m.next.length := by have := G.out.next; omega
            generalize hsy : sw I K y = sy at *
            have HSY := hid hsy
            clear hsy
            go_upto_if 112 with fail
            go_cut [18] from 113 to 117 (fun c wx => c = .int .i64 (sy : Nat) ∧ wx = wi)
            case first =>
              by_cases z1 : y = I
              · have e1 : sy = K := by rw [← HSY.out]; unfold sw; rw [if_pos z1]
                subst z1 e1
                go_wp2_with fail
                go_meet
                exact ⟨rfl, rfl⟩
              · have z1' : (y : Int) ≠ (I : Int) := by omega
                by_cases z2 : y = K
                · have e1 : sy = I := by rw [← HSY.out]; unfold sw; rw [if_neg z1, if_pos z2]
                  subst z2 e1
                  go_wp2_with fail
                  go_meet
                  exact ⟨rfl, rfl⟩
                · have e1 : sy = y := by rw [← HSY.out]; unfold sw; rw [if_neg z1, if_neg z2]
                  have z2' : (y : Int) ≠ (K : Int) := by omega
                  subst e1
                  go_wp2_with fail
                  go_meet
                  exact ⟨rfl, rfl⟩
            case rest =>
              obtain ⟨rfl, hwc⟩ := hcut
              subst wc
              go_wp2_with (at_builtin; refine wpList_app _ rfl _ _ 25 rfl wo.heap.size 3 i0 (.int .i64 0) 1 8 Try.underlying25 hi0 hz0 hz1 hz2 rfl (by decide) u16 t ((rowTo m I K f t).map (Value.int .i64)) rfl (hown.alloc _) _ _ 1 [.int .i64 (sy : Nat)] rfl (cells_one _ _ _) (one_int _ _) (by unfold maxLen; omega) (by omega) (by simp; omega) ?_; intro v' w5 hown5 hgrow5 hat5)
              have IS := (hIi.out.below ((Below.refl _ _).alloc (Nat.le_refl _) (.cells #[.int .i64 (sy : Nat)] 3))).rowApp (hsep.out.size (by simp)) hgrow5 hat5 (own_lt hown5)
              have I5 := hid IS.1
              have S5 := hid IS.2
              have O5 := hid hown5
              have B5 : Hid (Below w2.heap.size w2 w5) := (hBi.out.alloc (by omega) _).grown hgrow5 (by simp; omega) (fun k hk => by have := own_ge hown k hk; omega)
              clear IS hown5 hgrow5 hat5
              go_roundw
              case rel => exact ⟨t + 1, by omega, by go_num, I5, by rw [RT.out]; exact O5.out, S5, B5⟩
              case measure => simp [intOf]; omega
          · have hje : t = ins m := by omega
            have RW : Hid (rowTo m I K f t = (rowAt m.next f).map (swZ I K)) := by show _ = _; unfold rowTo; rw [List.take_of_length_le (by omega)]
            have WFw : Hid (∀ z ∈ rowTo m I K f t, (Lit.int .i64 z).wf = true) := by
              rw [RW.out]
              intro z hz
              simp only [List.mem_map] at hz
              obtain ⟨y, hy, rfl⟩ := hz
              obtain ⟨x, hx, rfl⟩ := List.getElem_of_mem hy
              have h1 := G.out.goes f hfl x (by omega)
              have e : (rowAt m.next f)[x] = at0 (rowAt m.next f) x := by unfold at0; rw [List.getD_eq_getElem?_getD, List.getElem?_eq_getElem hx]; rfl
              obtain ⟨n, hn⟩ : ∃ n : Nat, at0 (rowAt m.next f) x = (n : Int) := ⟨(at0 (rowAt m.next f) x).toNat, by omega⟩
              rw [e, hn, swZ_nat]
              exact wf_small (by have := sw_lt hI2 hK2 (show n < m.out.length by omega); omega)
            obtain ⟨rF, q2, iF⟩ := HO.out f hfl
            have IF := hid iF
            obtain ⟨AF, cF, rfl, _, _, _⟩ := iF
            have hRF : (rowAt m.out f).length = ins m := G.out.rowO f hfl
            rw [hRF] at q2 IF
            have q2' : wi.cell? ⟨bO, oO + f, none⟩ = _ := (hBi.out.cell (p := ⟨bO, oO + f, none⟩) lO).trans q2
            have IF2 : Hid (IntsIn .i64 (fun b => b < W.heap.size) wi (.slice AF (ins m) cF) (rowAt m.out f)) := IF.out.keep (Same.of_below hBi.out fun b hb => by omega)
            generalize hrw : rowTo m I K f t = rw_ at *
            obtain ⟨A10, cp10, rfl, _⟩ := ints_block hown WFw.out
            have p0 := Has.cell hIi.out.box 0
            simp at p0
            have f0 := Has.froz hIi.out.box 0
            have II := hid (hIi.out.below ((Below.refl _ _).drew))
            have RR := hid hown
            have lc1 : (swTo m I K j).out.length ≤ 6 := by have := SL.out.1; omega
            have lc2 : (swTo m I K j).next.length ≤ 6 := by have := SL.out.2; omega
            have lbo := Has.lt hIi.out.box
            clear hown q2 hje hrw hRF hRN
            go_wp2_with fail
            go_upto_region 27 with fail
            go_cut [] from 122 to 131 (fun wx => ∃ (g5 cap5 : Nat) (cs : List Value), Hid (LInv 0 w2.heap.size wx.heap.size w2.heap.size (.slice none 0 0) (.slice (some ⟨g5, 0, none⟩) ((swTo m I K j).out.length + 1) cap5) h2 cs c2 wx [] ((swTo m I K j).out ++ [rowAt m.out f]) (swTo m I K j).next) ∧ Hid (RowSep 0 wo.heap.size w2.heap.size (.slice none 0 0) (.slice (some ⟨g5, 0, none⟩) ((swTo m I K j).out.length + 1) cap5) h2 (.slice A10 rw_.length cp10) wx) ∧ Hid (wx.ownsRow wo.heap.size 3 1 (.slice A10 rw_.length cp10) t (rw_.map (Value.int .i64))) ∧ Hid (Below w2.heap.size w2 wx))
            case first =>
              go_region_law (first
                | (refine step_app _ (by rfl) (.tmp 123) (.tmp 129) 22 (by rfl) w2.heap.size 25 i1 (.slice none 0 0) 1 24 Try.underlying22 hi1 hy0 hy1 hy2 rfl (by decide) h1 (swTo m I K j).out.length c1 (by rfl) (II.out.o1.alloc _) _ _ 1 [.slice AF (ins m) cF] (by rfl) (cells_oneAt _ _ _ rfl) (by intro u hu; simp at hu; subst hu; rfl) (by unfold maxLen; omega) (by omega) (by simp; omega) ?_; intro v5 w5 hown5 hgrow5 hat5; obtain ⟨g5, cap5, rfl, _⟩ := own_open hown5 (by omega); have J4 := hid (II.out.below ((Below.refl _ _).alloc (Nat.le_refl _) (.cells #[.slice AF (ins m) cF] 25))); have q5 : w5.cell? ⟨w2.heap.size, 0, none⟩ = some h1 := (by have := Has.cell (Has.grown J4.out.box hgrow5 (fun e => J4.out.b1 e.symm)) 0; simpa using this); have fq5 := Has.froz (Has.grown J4.out.box hgrow5 (fun e => J4.out.b1 e.symm)) 0; have I5 := hid ((J4.out.raise (C' := wi.heap.size) lCi (by simp)).outApp hown5 hgrow5 hat5 ((IF2.out.keep (w' := wi.drew.alloc _) fun b hb => Below.heap_alloc _ _ _ (by have : b < W.heap.size := hb; show b < wi.heap.size; omega)).more fun b hb => (J4.out.low (Nat.zero_le _) (by have : b < W.heap.size := hb; omega) (by have : b < W.heap.size := hb; omega)))); have S5 := hid ((hsep.out.size (w' := wi.drew.alloc (.cells #[.slice AF (ins m) cF] 25)) (by simp)).out (w' := w5.setCell ⟨w2.heap.size, 0, none⟩ (.slice (some ⟨g5, 0, none⟩) ((swTo m I K j).out.length + 1) cap5)) (by have := hgrow5.size; simp at this ⊢; omega) hat5); have R5 := hid (own_keep ((own_keep (w' := (wi.alloc (.cells #[.slice AF (ins m) cF] 25)).drew) RR.out (fun k hk => Below.heap_alloc _ _ _ (own_lt RR.out k hk))).kept hgrow5 hsep.out.ne1) (w' := w5.setCell ⟨w2.heap.size, 0, none⟩ (.slice (some ⟨g5, 0, none⟩) ((swTo m I K j).out.length + 1) cap5)) (fun k hk => Below.heap_setCell w5 _ _ k fun e => (hsep.out.at_ k hk).2.nb e)); have B5 : Hid (Below w2.heap.size w2 (w5.setCell ⟨w2.heap.size, 0, none⟩ (.slice (some ⟨g5, 0, none⟩) ((swTo m I K j).out.length + 1) cap5))) := (((hBi.out.drew.alloc (by simp; omega) _).grown hgrow5 (by simp; omega) (fun k hk => by have := own_ge II.out.o1 k hk; omega)).setCell (by simp) _)))
              all_goals
                go_wp2_with fail
                go_meet
                exact ⟨g5, cap5, _, I5.out.raise I5.out.hi (Nat.le_refl _), S5, R5, B5⟩
            case rest =>
              obtain ⟨g5, cap5, cs, E5, S5, R5, B5⟩ := hcut
              clear II RR hIi hsep hBi p0 f0 q2' q0 q1 ma0 ma1
              have lw5 := B5.out.size
              have q6 := Has.cell E5.out.box 1
              simp at q6
              have fq6 := Has.froz E5.out.box 1
              go_wp2_with (at_builtin; refine wpList_app _ rfl _ _ 22 rfl w2.heap.size 25 i1 (.slice none 0 0) 1 24 Try.underlying22 hi1 hy0 hy1 hy2 rfl (by decide) h2 (swTo m I K j).next.length c2 rfl (E5.out.o2.alloc _) _ _ 1 [(.slice A10 rw_.length cp10)] rfl (cells_oneAt _ _ _ (by simp)) (by intro u hu; simp at hu; subst hu; rfl) (by unfold maxLen; omega) (by omega) (by simp; omega) ?_; intro v6 w6 hown6 hgrow6 hat6; obtain ⟨g6, cap6, rfl, _⟩ := own_open hown6 (by omega); have J5 := hid (E5.out.below ((Below.refl _ _).alloc (Nat.le_refl _) (.cells #[(.slice A10 rw_.length cp10)] 25))); have q7 : w6.cell? ⟨w2.heap.size, 1, none⟩ = some h2 := (by have := Has.cell (Has.grown J5.out.box hgrow6 (fun e => J5.out.b2 e.symm)) 1; simpa using this); have fq7 := Has.froz (Has.grown J5.out.box hgrow6 (fun e => J5.out.b2 e.symm)) 1)
              have I7 := hid (J5.out.nextApp hown6 hgrow6 hat6 ((S5.out.ints R5.out WFw.out).keep fun b hb => Below.heap_alloc _ _ _ hb.lt))
              have B7 : Hid (Below w2.heap.size w2 (w6.setCell ⟨w2.heap.size, 1, none⟩ (.slice (some ⟨g6, 0, none⟩) ((swTo m I K j).next.length + 1) cap6))) := (((B5.out.alloc (by omega) _).grown hgrow6 (by simp; omega) (fun k hk => by have := own_ge E5.out.o2 k hk; omega)).setCell (by simp) _)
              clear J5 hown6 hgrow6 hat6
              go_roundw
              case rel => exact ⟨j + 1, by omega, by go_num, ⟨_, _, _, _, by rw [SS.out.1, SS.out.2, ← RW.out]; exact I7.out.raise (by have := I7.out.hi; simpa using this) (by simp)⟩, B7⟩
              case measure => simp [intOf]; omega
    · obtain rfl : j = m.out.length := by omega
      have MM := hid hI.out.mach
      obtain ⟨o', n', e, ⟨A5, a5, e3, _, _⟩, ⟨A6, a6, e4, _, _⟩⟩ := MM.out
      injection e with e
      simp at e
      obtain ⟨e5, e6⟩ := e
      dsimp only at e3 e4
      subst e5 e6
      subst e3 e4
      have SG := hid (sw_good G.out hI1 hI2 hK1 hK2)
      have p0 := Has.cell hI.out.box 0
      have p1 := Has.cell hI.out.box 1
      simp at p0 p1
      clear x0 y0
      go_wp2_with fail
      refine (least_ok (swTo m I K m.out.length) (fun b => 0 ≤ b ∧ b < wo.heap.size) _ wo (fun b hb => hb.2) MM.out SG.out).mono ?_
      rintro e w7 ⟨r7, c7, l7, rfl, CO7, LD7, LM7, hb7⟩
      have EL : l7 = l := least_one (sw_ins hI1 hK1 hK2) SG.out G.out CO7 HCO.out (sw_xeqv G.out hI1 hI2 hK1 hK2) LD7 HLD.out
      subst EL
      have LM8 := hid LM7
      obtain ⟨o8, n8, rfl, ⟨A7, a7, rfl, _, _⟩, ⟨A8, a8, rfl, _, _⟩⟩ := LM7
      have s7 := hb7.size
      have lw7 : w1.heap.size < w7.heap.size := by omega
      have lw8 : w1.heap.size ≠ w7.heap.size := by omega
      clear CO7 LD7
      have LB7 := Has.below (Has.below LB.out hB.out lw1) hb7 (by omega)
      have y0 := Has.cell LB7 0
      have y1 := Has.cell LB7 1
      simp at y0 y1
      go_wp2_with fail
      have BK7 : Hid (Below w2.heap.size w2 w7) := hB.out.trans (hb7.mono (by omega))
      have L2' := hid ((LM2.out.keep (Same.of_below BK7.out fun b hb => hb)).more (F' := fun b => b < w7.heap.size) fun b hb => by omega)
      refine (samach_any l7 l7 (fun b => b < w7.heap.size) _ _ _ (fun b hb => by simp; omega) ((LM8.out.more fun b hb => hb.2).keep fun b hb => Below.heap_alloc _ _ _ hb) (L2'.out.keep fun b hb => Below.heap_alloc _ _ _ hb)).mono ?_
      rintro e w8 ⟨rfl, hb8⟩
      have DT : decide (l7.out = l7.out ∧ l7.next = l7.next) = true := by simp
      rw [DT]
      have s8 := hb8.size
      simp only [World.size_alloc] at s8
      have K8 : Hid (Below W.heap.size W w8) := ((K2.out.trans (BK7.out.mono (by omega))).alloc (by omega) _).trans (hb8.mono (by simp; omega))
      have K28 : Hid (Below w2.heap.size w2 w8) := (BK7.out.alloc (by omega) _).trans (hb8.mono (by simp; omega))
      have I8 := hid (((hI.out.below hb7).below ((Below.refl _ _).alloc (Nat.le_refl _) (.cells #[.slice A7 l7.out.length a7, .slice A8 l7.next.length a8] 24))).below hb8)
      by_cases h6 : m.out.length = 6
      · have h6' : (m.out.length : Int) = 6 := by omega
        clear h6
        go_wp2_with fail
        go_ret
        exact ⟨rfl, K8.out⟩
      · have h6' : ((m.out.length : Int) == 6) = false := by simp; omega
        have g0 : 0 < m.out.length := g1
        have h6n : m.out.length < 6 := by omega
        have SL := hid (swTo_len m I K m.out.length)
        obtain ⟨g2', cap2, e2, _⟩ := own_open hI.out.o2 (by have := SL.out.2; omega)
        injection e2 with e2 _ e2'
        subst e2 e2'
        have MB8 := Has.below MB.out K28.out lw
        have ma0 := Has.cell MB8 0
        simp at ma0
        obtain ⟨r0, q0', i00⟩ := HO.out 0 g1
        have I00 := hid i00
        obtain ⟨A0, c0, rfl, _, _, _⟩ := i00
        have hR0 : (rowAt m.out 0).length = ins m := rfl
        rw [hR0, Nat.add_zero] at q0'
        have q0 : w8.cell? ⟨bO, oO, none⟩ = _ := (K28.out.cell (p := ⟨bO, oO, none⟩) lO).trans q0'
        rw [hR0] at I00
        have IF2 : Hid (IntsIn .i64 (fun b => b < W.heap.size) w8 (.slice A0 (ins m) c0) (rowAt m.out 0)) := I00.out.keep (Same.of_below K28.out fun b hb => by omega)
        have b0 := Has.cell I8.out.box 0
        have b1 := Has.cell I8.out.box 1
        simp at b0 b1
        have f0 := Has.froz I8.out.box 0
        have II := hid (I8.out.below ((Below.refl _ _).drew))
        have lbo := Has.lt I8.out.box
        have lc1 : (swTo m I K m.out.length).out.length ≤ 6 := by have := SL.out.1; omega
        have lc2 : (swTo m I K m.out.length).next.length ≤ 6 := by have := SL.out.2; omega
        have l28 := K28.out.size
        clear q0' hR0 MB8 h6 p0 p1 y0 y1 g1
        go_wp2_with fail
        go_upto_region 33 with fail
        go_cut [] from 153 to 161 (fun wx => ∃ (g5 cap5 : Nat) (cs : List Value), Hid (LInv 0 w2.heap.size wx.heap.size w2.heap.size (.slice none 0 0) (.slice (some ⟨g5, 0, none⟩) ((swTo m I K m.out.length).out.length + 1) cap5) (.slice (some ⟨g2', 0, none⟩) (swTo m I K m.out.length).next.length a6) cs c2 wx [] ((swTo m I K m.out.length).out ++ [rowAt m.out 0]) (swTo m I K m.out.length).next) ∧ Hid (Below w2.heap.size w2 wx) ∧ Hid (Below W.heap.size W wx))
        case first =>
          go_region_law (first
            | (refine step_app _ (by rfl) (.tmp 154) (.tmp 159) 22 (by rfl) w2.heap.size 25 i1 (.slice none 0 0) 1 24 Try.underlying22 hi1 hy0 hy1 hy2 rfl (by decide) (.slice A5 (swTo m I K m.out.length).out.length a5) (swTo m I K m.out.length).out.length c1 (by rfl) (II.out.o1.alloc _) _ _ 1 [.slice A0 (ins m) c0] (by rfl) (cells_oneAt _ _ _ rfl) (by intro u hu; simp at hu; subst hu; rfl) (by unfold maxLen; omega) (by omega) (by simp; omega) ?_; intro v9 w9 hown9 hgrow9 hat9; obtain ⟨g5, cap5, rfl, _⟩ := own_open hown9 (by omega); have J4 := hid (II.out.below ((Below.refl _ _).alloc (Nat.le_refl _) (.cells #[.slice A0 (ins m) c0] 25))); have q5 : w9.cell? ⟨w2.heap.size, 0, none⟩ = some (.slice A5 (swTo m I K m.out.length).out.length a5) := (by have := Has.cell (Has.grown J4.out.box hgrow9 (fun e => J4.out.b1 e.symm)) 0; simpa using this); have fq5 := Has.froz (Has.grown J4.out.box hgrow9 (fun e => J4.out.b1 e.symm)) 0; have I5 := hid ((J4.out.raise (C' := w8.heap.size) (I8.out.hi) (by simp)).outApp hown9 hgrow9 hat9 ((IF2.out.keep (w' := w8.drew.alloc _) fun b hb => Below.heap_alloc _ _ _ (by have : b < W.heap.size := hb; show b < w8.heap.size; omega)).more fun b hb => (J4.out.low (Nat.zero_le _) (by have : b < W.heap.size := hb; omega) (by have : b < W.heap.size := hb; omega)))); have B5 : Hid (Below w2.heap.size w2 (w9.setCell ⟨w2.heap.size, 0, none⟩ (.slice (some ⟨g5, 0, none⟩) ((swTo m I K m.out.length).out.length + 1) cap5))) := (((K28.out.drew.alloc (by simp; omega) _).grown hgrow9 (by simp; omega) (fun k hk => by have := own_ge II.out.o1 k hk; omega)).setCell (by simp) _)))
          all_goals
            go_wp2_with fail
            go_meet
            exact ⟨g5, cap5, _, I5.out.raise I5.out.hi (Nat.le_refl _), B5, K2.out.trans (B5.out.mono (by omega))⟩
        case rest =>
          obtain ⟨g5, cap5, cs, E5, B5, KW5⟩ := hcut
          clear II b0 b1 f0 q0 ma0
          have lw5 := B5.out.size
          have lW5 := KW5.out.size
          have q6 := Has.cell E5.out.box 1
          simp at q6
          have fq6 := Has.froz E5.out.box 1
          have lbo5 := Has.lt E5.out.box
          have nl : 0 < (swTo m I K m.out.length).next.length := by have := SL.out.2; omega
          obtain ⟨r2, e2, i2⟩ := E5.out.r2 0 nl
          have J2 := hid i2
          have lr2 : Hid ((rowAt (swTo m I K m.out.length).next 0).length ≤ 3) := by
            have h1 := SG.out.rowN 0 (by have := SL.out.1; omega)
            have h2 := SG.out.ins3
            show _ ≤ _; omega
          obtain ⟨g9, cap9, e9, _, lg9, _, _, hc9⟩ := own_open E5.out.o2 nl
          simp at e9
          obtain ⟨e9, e9'⟩ := e9
          subst e9 e9'
          obtain ⟨Ar, cr, rfl, _, _, _⟩ := i2
          have q7 : wc.cell? ⟨g2', 0, none⟩ = some _ := (hc9 0 (by omega)).trans e2
          have II := hid (E5.out.below ((Below.refl _ _).drew))
          generalize hlr : (rowAt (swTo m I K m.out.length).next 0).length = lr at *
          clear hc9 e2
          go_upto_region 34 with fail
          go_cut [] from 162 to 170 (fun wx => ∃ (g7 cap7 : Nat) (cs7 : List Value), Hid (LInv 0 w2.heap.size wx.heap.size w2.heap.size (.slice none 0 0) (.slice (some ⟨g5, 0, none⟩) ((swTo m I K m.out.length).out.length + 1) cap5) (.slice (some ⟨g7, 0, none⟩) ((swTo m I K m.out.length).next.length + 1) cap7) cs cs7 wx [] (more (swTo m I K m.out.length) (rowAt m.out 0)).out (more (swTo m I K m.out.length) (rowAt m.out 0)).next) ∧ Hid (Below w2.heap.size w2 wx) ∧ Hid (Below W.heap.size W wx))
          case first =>
            go_region_law (first
              | (refine step_app _ (by rfl) (.tmp 163) (.tmp 168) 22 (by rfl) w2.heap.size 25 i1 (.slice none 0 0) 1 24 Try.underlying22 hi1 hy0 hy1 hy2 rfl (by decide) (.slice (some ⟨g2', 0, none⟩) (swTo m I K m.out.length).next.length a6) (swTo m I K m.out.length).next.length c2 (by rfl) (II.out.o2.alloc _) _ _ 1 [.slice Ar lr cr] (by rfl) (cells_oneAt _ _ _ rfl) (by intro u hu; simp at hu; subst hu; rfl) (by unfold maxLen; omega) (by omega) (by simp; omega) ?_; intro v9 w9 hown9 hgrow9 hat9; obtain ⟨g7, cap7, rfl, _⟩ := own_open hown9 (by omega); have J4 := hid (II.out.below ((Below.refl _ _).alloc (Nat.le_refl _) (.cells #[.slice Ar lr cr] 25))); have q8 : w9.cell? ⟨w2.heap.size, 1, none⟩ = some (.slice (some ⟨g2', 0, none⟩) (swTo m I K m.out.length).next.length a6) := (by have := Has.cell (Has.grown J4.out.box hgrow9 (fun e => J4.out.b2 e.symm)) 1; simpa using this); have fq8 := Has.froz (Has.grown J4.out.box hgrow9 (fun e => J4.out.b2 e.symm)) 1; have I7 := hid (J4.out.nextApp hown9 hgrow9 hat9 (J2.out.keep (w' := wc.drew.alloc _) fun b hb => Below.heap_alloc _ _ _ hb.lt)); have B7 : Hid (Below w2.heap.size w2 (w9.setCell ⟨w2.heap.size, 1, none⟩ (.slice (some ⟨g7, 0, none⟩) ((swTo m I K m.out.length).next.length + 1) cap7))) := (((B5.out.drew.alloc (by simp; omega) _).grown hgrow9 (by simp; omega) (fun k hk => by have := own_ge II.out.o2 k hk; omega)).setCell (by simp) _)))
            all_goals
              go_wp2_with fail
              go_meet
              exact ⟨g7, cap7, _, I7.out.raise (by have := I7.out.hi; simpa using this) (Nat.le_refl _), B7, K2.out.trans (B7.out.mono (by omega))⟩
          case rest =>
            obtain ⟨g7, cap7, cs7, E7, B7, KW7⟩ := hcut
            clear II q6 fq6 q7
            obtain ⟨wz, rfl⟩ : ∃ wz : World, wz = wc := ⟨_, rfl⟩
            have lw7' := B7.out.size
            have p0 := Has.cell E7.out.box 0
            have p1 := Has.cell E7.out.box 1
            simp at p0 p1
            have MG := hid (more_good SG.out (r := rowAt m.out 0) (by rw [sw_out (by omega), sw_zero hI1 hK1]) (by have := SL.out.1; omega))
            have MM7 := hid E7.out.mach
            go_wp2_with fail
            refine (least_ok (more (swTo m I K m.out.length) (rowAt m.out 0)) (fun b => 0 ≤ b ∧ b < wz.heap.size) _ wz (fun b hb => hb.2) MM7.out MG.out).mono ?_
            rintro e w10 ⟨r10, c10, l10, rfl, CO10, LD10, LM10, hb10⟩
            have EI : ins (more (swTo m I K m.out.length) (rowAt m.out 0)) = ins m := by rw [more_ins SG.out, sw_ins hI1 hK1 hK2]
            have XE : XEqv (more (swTo m I K m.out.length) (rowAt m.out 0)) 0 m 0 := by
              intro w hw
              have hw2 : word (swTo m I K m.out.length) w := fun x hx => by have := hw x hx; unfold letter at this; rw [more_ins SG.out] at this; exact this
              exact (more_xeqv SG.out w hw).trans (sw_xeqv G.out hI1 hI2 hK1 hK2 w hw2)
            have EL : l10 = l7 := least_one EI MG.out G.out CO10 HCO.out XE LD10 HLD.out
            subst EL
            have LM11 := hid LM10
            obtain ⟨o10, n10, rfl, ⟨A9, a9, rfl, _, _⟩, ⟨A10, a10, rfl, _, _⟩⟩ := LM10
            have s10 := hb10.size
            have BK10 : Hid (Below w2.heap.size w2 w10) := B7.out.trans (hb10.mono (by omega))
            have KW10 : Hid (Below W.heap.size W w10) := K2.out.trans (BK10.out.mono (by omega))
            have LB10 := Has.below LB.out BK10.out lw1
            have y0 := Has.cell LB10 0
            have y1 := Has.cell LB10 1
            simp at y0 y1
            clear CO10 LD10 LB10 EI XE
            have lw10 : w1.heap.size < w10.heap.size := by omega
            have lw11 : w1.heap.size ≠ w10.heap.size := by omega
            go_wp2_with fail
            have L3' := hid ((LM2.out.keep (Same.of_below BK10.out fun b hb => hb)).more (F' := fun b => b < w10.heap.size) fun b hb => by omega)
            refine (samach_any l10 l10 (fun b => b < w10.heap.size) _ _ _ (fun b hb => by simp; omega) ((LM11.out.more fun b hb => hb.2).keep fun b hb => Below.heap_alloc _ _ _ hb) (L3'.out.keep fun b hb => Below.heap_alloc _ _ _ hb)).mono ?_
            rintro e w11 ⟨rfl, hb11⟩
            have DT : decide (l10.out = l10.out ∧ l10.next = l10.next) = true := by simp
            rw [DT]
            have K11 : Hid (Below W.heap.size W w11) := (KW10.out.alloc (by omega) _).trans (hb11.mono (by simp; omega))
            clear hb11 DT
            go_wp2_with fail
            go_ret
            exact ⟨rfl, K11.out⟩
theorem names_walk (m : MachD) (v : Value) (i k : Int) (W : World) (hm : MachIn (fun b => b < W.heap.size) W v m) :
    Calls Try.prog 5 #[v, .int .i64 i, .int .i64 k] W (NamPost W) := by
  by_cases hg : chk m = 0
  · have g := chk_good hg
    by_cases hr : i < 1 ∨ (m.out.length : Int) ≤ i ∨ k < 1 ∨ (m.out.length : Int) ≤ k
    · exact names_out m v i k W hm g hr
    · obtain ⟨I, rfl⟩ : ∃ I : Nat, i = (I : Int) := ⟨i.toNat, by omega⟩
      obtain ⟨K, rfl⟩ : ∃ K : Nat, k = (K : Int) := ⟨k.toNat, by omega⟩
      exact names_ok m v I K W hm g (by omega) (by omega) (by omega) (by omega)
  · exact names_bad m v i k W hm hg
end Go.Proofs.Ytfalbffpdgfepaa
