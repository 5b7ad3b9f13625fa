/- What the reference's LeastOf returns of a right machine: its least machine. No conditions beyond that. -/
import Derived.Test.YtfalbffpdgfepaaDoorRcl
import Derived.Test.YtfalbffpdgfepaaDoorAoh
import Derived.Test.YtfalbffpdgfepaaDoorLsi
import Derived.Test.YtfalbffpdgfepaaDoorRlm
import Derived.Test.YtfalbffpdgfepaaDoorHld
import Derived.Deep.OwnRows
import Derived.Deep.LoopGhost
import Derived.Deep.RegionLaw
import Derived.Deep.CutRange
import Derived.BigQuiet
namespace Go.Proofs.YtfalbffpdgfepaaDoor
open Go.RowKit Go.Deep
set_option maxHeartbeats 400000 in
theorem rin_any (zs : List Int) (x : Int) (F : Nat → Prop) (v : Value) (w : World) (hv : IntsIn .i64 F w v zs) :
    Calls Tryd.prog 41 #[v, .int .i64 x] w fun e w' => e = .returned (.bool (decide (x ∈ zs))) ∧ w = w' := by
  obtain ⟨A, c, rfl, h1, _, h3⟩ := hv
  have H := hid h3
  unfold maxLen at h1
  clear h3
  go_enter Tryd.func41, Tryd.ntmps41
  go_wp2_with fail
  go_loop [5] (fun i => ∃ j : Nat, j ≤ zs.length ∧ i = .int .i64 j ∧ Hid (∀ k, k < j → at0 zs k ≠ x)) (fun i => zs.length - (intOf i).toNat)
  case atStart => exact ⟨0, Nat.zero_le _, rfl, fun k hk => by omega⟩
  case round =>
    obtain ⟨j, hj, rfl, hold⟩ := hrel
    by_cases hlt : j < zs.length
    · obtain ⟨b, o, rfl, _, hc⟩ := H.out (by omega)
      have c1 : w.cell? ⟨b, o + j, none⟩ = some (.int .i64 (at0 zs j)) := hc j hlt
      have i1 : (j : Int) < (zs.length : Int) := by omega
      clear hc
      obtain ⟨y, hy⟩ : ∃ y, y = at0 zs j := ⟨_, rfl⟩
      rw [← hy] at c1
      have HY := hid hy
      clear hy
      by_cases hxy : y = x
      · have R : Hid (decide (x ∈ zs) = true) := by show _ = _; simp only [decide_eq_true_eq]; rw [← hxy, HY.out]; exact mem_at hlt
        have e1 : (y == x) = true := by simp [hxy]
        clear hxy
        go_wp2_with fail
        go_ret
        exact ⟨by rw [R.out]; rfl, rfl⟩
      · have e1 : (y == x) = false := by simp [hxy]
        have N : Hid (∀ k, k < j + 1 → at0 zs k ≠ x) := fun k hk => by
          by_cases hkj : k = j
          · subst hkj; rw [← HY.out]; exact hxy
          · exact hold.out k (by omega)
        clear hxy
        go_wp2_with fail
        go_round
        case rel => exact ⟨j + 1, by omega, by go_num, N⟩
        case measure => simp [intOf]; omega
    · have R : Hid (decide (x ∈ zs) = false) := by
        show _ = _
        have hi := ix_none (zs := zs) (x := x) fun k hk => hold.out k (by omega)
        simp only [decide_eq_false_iff_not]
        intro hm
        have := ix_ge.2 hm
        omega
      go_wp2_with fail
      go_ret
      exact ⟨by rw [R.out]; rfl, rfl⟩
theorem own_cellK {w : World} {base n : Nat} {e : TypeId} {v : Value} {zs : List Int} {k : Nat} {g c : Nat} (hv : v = .slice (some ⟨g, 0, none⟩) n c) (h : w.ownsRow base e 1 v n (zs.map (Value.int .i64))) (hk : k < zs.length) : w.cell? ⟨g, k, none⟩ = some (.int .i64 (at0 zs k)) := by
  have hl : zs.length = n := by have := h.1; simpa using this
  obtain ⟨g', cap, e1, _, _, _, _, hc⟩ := own_open h (by omega)
  rw [hv] at e1
  injection e1 with e1 _ _
  injection e1 with e1
  injection e1 with e1
  subst e1
  rw [hc k (by omega)]
  simp [List.getElem?_map, List.getElem?_eq_getElem hk, at0, List.getD_eq_getElem?_getD]
def RlePost (m : MachD) (w : World) (e : Ending) (w' : World) : Prop := ∃ r c l, e = .returned r ∧ ClassOf m c ∧ LeastD m c l ∧ MachIn (Fresh w w') w' r l ∧ Below w.heap.size w w'
set_option maxRecDepth 100000 in
set_option maxHeartbeats 8000000 in
theorem rleast_ok (m : MachD) (F : Nat → Prop) (v : Value) (w : World) (hF : ∀ b, F b → b < w.heap.size) (h : MachIn F w v m) (g : Good m) :
    Calls Tryd.prog 27 #[v] w (RlePost m w) := by
  have HF := hid hF
  have HM := hid h
  have G := hid g
  obtain ⟨o, nxv, rfl, ⟨Ao, co, rfl, ho1, hoo⟩, ⟨An, cn, rfl, hn1, hnn⟩⟩ := h
  have g1 := g.pos
  have g2 := g.le
  obtain ⟨bo, oo, rfl, fo, Ro⟩ := hoo g1
  obtain ⟨bn, on, rfl, fn, Rn⟩ := hnn (by rw [g.next]; exact g1)
  have lo := hF bo fo
  have ln := hF bn fn
  replace Ro := hid Ro
  replace Rn := hid Rn
  obtain ⟨i0, hi0, hz0, hz1, hz2⟩ := info_parts infoInt
  unfold maxLen at ho1 hn1
  clear hF g hoo hnn
  go_enter Tryd.func27, Tryd.ntmps27
  go_wp2_with fail
  refine (rclasses_ok m F _ _ (fun b hb => by have := HF.out b hb; simp; omega) ((HM.out.keep (w' := w.alloc _) fun b hb => Below.heap_alloc _ _ _ (HF.out b hb)).keep fun b hb => Below.heap_alloc _ _ _ (by have := HF.out b hb; simp; omega)) G.out).mono ?_
  rintro e w1 ⟨r, c, rfl, CO, IC, hb⟩
  have hcl := CO.len
  have HCO := hid CO
  have s1 := hb.size
  simp only [World.size_alloc] at s1
  have HB1 := hid hb
  obtain ⟨Ac, cc, rfl, hc1, hc2, hc3⟩ := IC
  obtain ⟨bC, oC, rfl, hfc, hcell⟩ := hc3 (by omega)
  have C0 : w1.cell? ⟨bC, oC, none⟩ = some (.int .i64 (at0 c 0)) := by have := hcell 0 (by omega); rw [Nat.add_zero] at this; exact this
  have HC := hid hcell
  have fc2 : bC < w1.heap.size := hfc.2
  have hcl1 : 0 < c.length := by omega
  have BW : Hid (Below w.heap.size w w1) := (((Below.refl _ _).alloc (Nat.le_refl _) _).alloc (by simp) _).trans (hb.mono (by simp; omega))
  have MB : Hid (w1.heap[w.heap.size]? = some (.cells #[.slice (some ⟨bo, oo, none⟩) m.out.length co, .slice (some ⟨bn, on, none⟩) m.next.length cn] 24 (0, 0))) := Has.below (Has.alloc (Has.new w _) _) hb (by simp; omega)
  have RB : Hid (w1.heap[w.heap.size + 1]? = some (.cells #[.slice none 0 0, .slice none 0 0] 24 (0, 0))) := Has.below (Has.newAt (w.alloc _) _ (by simp)) hb (by simp)
  have lw : w.heap.size + 1 < w1.heap.size := by omega
  have WFc : Hid (∀ z ∈ c, (Lit.int .i64 z).wf = true) := hc2
  have O0 : Hid ((w1.alloc (Obj.cells #[Value.int IntKind.i64 (at0 c 0)] 3)).ownsRow w1.heap.size 3 1 (.slice (some ⟨w1.heap.size, 0, none⟩) 1 1) (st m c 0).ord.length ((st m c 0).ord.map (Value.int .i64))) := World.ownsRow_lit (e := 3) (size := 1) (base := w1.heap.size) w1 #[Value.int IntKind.i64 (at0 c 0)] 1 (Nat.le_refl _) (by unfold maxLen; omega) rfl
  unfold maxLen at hc1
  clear hc3 hcell hfc CO hb hc2
  go_wp2_with fail
  clear C0
  go_loopw [4, 5] (fun ov kv wr => ∃ k : Nat, k ≤ m.out.length ∧ kv = .int .i64 k ∧ Hid (∀ j, j < k → j < (st m c j).ord.length) ∧ Hid (wr.ownsRow w1.heap.size 3 1 ov (st m c k).ord.length ((st m c k).ord.map (Value.int .i64))) ∧ Hid (Below w1.heap.size w1 wr)) (fun _ kv _ => m.out.length - (intOf kv).toNat)
  case atStart => exact ⟨0, by omega, rfl, fun j hj => by omega, O0, (Below.refl _ _).alloc (Nat.le_refl _) _⟩
  case round =>
    obtain ⟨k, hkn, rfl, hold, hI, hB⟩ := hrel
    obtain ⟨wo, rfl⟩ : ∃ wo : World, wo = wr := ⟨_, rfl⟩
    clear O0
    have hinv := st_inv G.out HCO.out k hold.out
    have hle := st_le G.out HCO.out hold.out
    obtain ⟨q1, q2, q3, q4, q5, q6⟩ := hinv
    have SI := hid (⟨q1, q2⟩ : Reps m c (st m c k).ord ∧ (st m c k).ord.Nodup)
    have ES : Hid ((st m c (k + 1)).ord = (scan (st m c k).ord (trg m c (at0 (st m c k).ord k).toNat)).1) := rfl
    have lB := hB.out.size
    obtain ⟨s, hs⟩ : ∃ s, s = (st m c k).ord := ⟨_, rfl⟩
    rw [← hs] at hle q1 q2 q3 q4 SI ES hI
    have HS := hid hs
    clear hs q5 q6
    obtain ⟨g, cap, rfl, hg1, hg2, hg3, hg4, hg5⟩ := own_open hI.out (by omega)
    by_cases hlt : k < s.length
    · have hx := q1 _ (mem_at hlt)
      have hk1 : wo.cell? ⟨g, k, none⟩ = some (.int .i64 (at0 s k)) := own_cellK rfl hI.out hlt
      obtain ⟨i, hi⟩ : ∃ i : Nat, at0 s k = (i : Int) := ⟨(at0 s k).toNat, by omega⟩
      rw [hi] at hk1 hx
      have hin : i < m.out.length := by omega
      have KI := hid hi
      have ES2 : Hid ((st m c (k + 1)).ord = (scan s (trg m c i)).1) := by show _ = _; rw [ES.out, KI.out]; rfl
      have hold' : Hid (∀ j', j' < k + 1 → j' < (st m c j').ord.length) := fun j' hj' => by
        by_cases h : j' < k
        · exact hold.out j' h
        · obtain rfl : j' = k := by omega
          rw [← HS.out]; exact hlt
      clear hi hx q1 q2 hg5 ES hk1 q3 q4
      have gi1 := G.out.ins1
      have gi3 := G.out.ins3
      go_wp2_with fail
      go_loopw [4, 6] (fun ov tv wi => ∃ j : Nat, j ≤ ins m ∧ tv = .int .i64 j ∧ Hid (wi.ownsRow w1.heap.size 3 1 ov (scan s ((trg m c i).take j)).1.length ((scan s ((trg m c i).take j)).1.map (Value.int .i64))) ∧ Hid (Below w1.heap.size w1 wi)) (fun _ tv _ => ins m - (intOf tv).toNat)
      case atStart => exact ⟨0, Nat.zero_le _, rfl, by simpa [scan] using hI, hB⟩
      case round =>
        obtain ⟨j, hj, rfl, hIi, hBi⟩ := hrel
        obtain ⟨wi, rfl⟩ : ∃ wi : World, wi = wr := ⟨_, rfl⟩
        have lBi := hBi.out.size
        have BWi := hid (BW.out.trans (hBi.out.mono (by omega)))
        have X := Has.below MB.out hBi.out (by omega)
        have x0 := Has.cell X 0
        have x1 := Has.cell X 1
        simp at x0 x1
        clear X hI hB
        obtain ⟨e0, p0, d0, _, Z0⟩ := row_all (s := 0) (x := 0) HF.out lo Ro.out g1 (L := ins m) rfl (by omega)
        have z0 := (Z0 wi BWi.out).1
        rw [Nat.add_zero] at z0
        clear Z0
        by_cases hjl : j < ins m
        · have gg := G.out.goes i hin j hjl
          obtain ⟨e1, p1, d1, _, U1⟩ := row_all (s := i) (x := j) HF.out ln Rn.out (by rw [G.out.next]; exact hin) (G.out.rowN i hin) hjl
          obtain ⟨y1, y2⟩ := U1 wi BWi.out
          obtain ⟨y, hy⟩ : ∃ y : Nat, at0 (rowAt m.next i) j = (y : Int) := ⟨(at0 (rowAt m.next i) j).toNat, by omega⟩
          rw [hy] at y2 gg
          have hr2 : wi.cell? ⟨bC, oC + y, none⟩ = some (.int .i64 (at0 c y)) := (hBi.out.cell (p := ⟨bC, oC + y, none⟩) fc2).trans (HC.out y (by omega))
          have hyl : y < c.length := by omega
          have hin2 : i < m.next.length := by rw [G.out.next]; exact hin
          have TA : Hid (at0 (trg m c i) j = at0 c y) := by show _ = _; rw [trg_at (by rw [G.out.rowN i hin]; exact hjl), hy]; rfl
          have TL : Hid (j < (trg m c i).length) := by show _ < _; rw [trg_len, G.out.rowN i hin]; exact hjl
          have MS := hid (mid_succ (o := s) TL.out)
          have MO := hid (mid_ok G.out HCO.out SI.out.1 SI.out.2 hin j)
          have MO2 := hid (mid_ok G.out HCO.out SI.out.1 SI.out.2 hin (j + 1))
          obtain ⟨pr, hpr⟩ := scan_prefix ((trg m c i).take j) s
          have AP : at0 (scan s ((trg m c i).take j)).1 k = (i : Int) := by rw [hpr, at0_prefix hlt, KI.out]
          have PL : k < (scan s ((trg m c i).take j)).1.length := by rw [hpr, List.length_append]; omega
          generalize ho : scan s ((trg m c i).take j) = sc at *
          obtain ⟨od, ix⟩ := sc
          rw [TA.out] at MS
          have WFo := hid (reps_wf g2 MO.out.1)
          have IL := MO.out.2.2
          obtain ⟨g', cap', rfl, hg1', hg2', hg3', hg4', hg5'⟩ := own_open hIi.out (by dsimp only at PL ⊢; omega)
          dsimp only at *
          have hk1 : wi.cell? ⟨g', k, none⟩ = some (.int .i64 (at0 od k)) := own_cellK rfl hIi.out PL
          rw [AP] at hk1
          have kO : (k : Int) < (od.length : Int) := by omega
          have IO := hid (ints_of_own hIi.out WFo.out)
          clear hy gg ho hpr U1 hg5' AP
          go_wp2_with fail
          go_quiet (fail)
          go_wp2_with fail
          refine (rin_any od (at0 c y) _ _ _ (IO.out.keep (w' := wi.drewN _) fun _ _ => rfl)).mono ?_
          rintro e w2 ⟨rfl, rfl⟩
          have MSe := MS.out
          have HOq : Hid ((wi.drewN nq).ownsRow w1.heap.size 3 1 (.slice (some ⟨g', 0, none⟩) od.length cap') od.length (od.map (Value.int .i64))) := hIi.out
          have HBq : Hid (Below w1.heap.size w1 (wi.drewN nq)) := below_drewN hBi.out nq
          have lq : wi.heap.size ≤ (wi.drewN nq).heap.size := by simp
          generalize wi.drewN nq = wq at *
          by_cases hm : at0 c y ∈ od
          · have D : decide (at0 c y ∈ od) = true := by simp [hm]
            have S1 : step1 od (at0 c y) = od := by unfold step1; rw [if_pos hm]
            rw [S1] at MSe
            have MSh := hid MSe
            rw [D]
            clear hm D S1 MSe MS x0 x1 z0 y1 y2 hr2 hk1
            go_wp2_with fail
            go_roundw
            case rel => exact ⟨j + 1, by omega, by go_num, by rw [MSh.out]; exact HOq, HBq⟩
            case measure => simp [intOf]; omega
          · have D : decide (at0 c y ∈ od) = false := by simp [hm]
            have S1 : step1 od (at0 c y) = od ++ [at0 c y] := by unfold step1; rw [if_neg hm]
            rw [S1] at MSe
            have MSh := hid MSe
            rw [D]
            clear hm D S1 MSe MS x0 x1 z0 y1 y2 hr2 hk1
            go_wp2_with (at_builtin; refine wpList_append_own _ rfl _ _ 25 rfl w1.heap.size 3 i0 (.int .i64 0) 1 8 Tryd.underlying25 hi0 hz0 hz1 hz2 rfl (by decide) _ _ _ rfl (HOq.out.alloc _) ⟨wq.heap.size, 0, none⟩ 1 1 [.int .i64 (at0 c y)] rfl rfl (one_at _ _ _) (one_int _ _) (by unfold maxLen; omega) (by omega) (by simp; omega) ?_; intro v6 w6 hown6 hgrow6 _; have B6 := hid ((HBq.out.alloc (by omega) (.cells #[.int .i64 (at0 c y)] 3)).grown hgrow6 (by simp; omega) (own_ge HOq.out)); have O6 := hid hown6; clear hown6 hgrow6)
            go_roundw
            case rel => exact ⟨j + 1, by omega, by go_num, by rw [MSh.out]; show World.ownsRow _ _ _ _ _ _ _; rw [List.map_append, List.length_append]; exact O6.out, B6⟩
            case measure => simp [intOf]; omega
        · have hje : j = ins m := by omega
          have HJ : Hid (scan s ((trg m c i).take j) = scan s (trg m c i)) := by show _ = _; rw [List.take_of_length_le (by rw [trg_len, G.out.rowN i hin]; omega)]
          have R5 : Hid (wi.ownsRow w1.heap.size 3 1 u4 (st m c (k + 1)).ord.length ((st m c (k + 1)).ord.map (Value.int .i64))) := by show World.ownsRow _ _ _ _ _ _ _; rw [ES2.out, ← HJ.out]; exact hIi.out
          clear hje
          go_wp2_with fail
          go_roundw
          case rel => exact ⟨k + 1, by omega, by go_num, hold', R5, hBi⟩
          case measure => simp [intOf]; omega
    · obtain rfl : k = s.length := by omega
      have hlen : (st m c s.length).ord.length = s.length := by rw [← HS.out]
      have LD : Hid (LeastD m c ⟨oTo m s s.length, nTo m c s s.length⟩) := by
        have := leastD_two hold.out hlen
        rw [← HS.out] at this
        exact this
      have TI : Hid (∀ q, q < s.length → ∀ t ∈ trg m c (at0 s q).toNat, t ∈ s) := by
        intro q hq
        have := trg_in hq hold.out
        rw [← HS.out] at this
        exact this
      have RS := hid q1
      have I0 : Hid (LInv w1.heap.size w1.heap.size (wo.heap.size + 1) wo.heap.size (.slice (some ⟨g, 0, none⟩) s.length cap) (.slice none 0 0) (.slice none 0 0) [] [] (wo.alloc (Obj.cells #[Value.slice none 0 0, Value.slice none 0 0] 24)) s (oTo m s 0) (nTo m c s 0)) := by
        exact ⟨own_below hI.out ((Below.refl _ _).alloc (Nat.le_refl _) _), Has.new _ _, World.ownsRow_nil _ _ _ _, World.ownsRow_nil _ _ _ _, fun i hi => by simp [oTo] at hi, fun i hi => by simp [nTo] at hi, by omega, Nat.le_refl _, by simp, by simp [Value.ownBlock]; omega, by simp [Value.ownBlock], by simp [Value.ownBlock], by simp [Value.ownBlock], by simp [Value.ownBlock], by simp [Value.ownBlock]⟩
      have sl : s.length ≤ 6 := by omega
      clear hg5 q1 q2 q3 q4 hlen
      go_wp2_with fail
      go_loopw [9] (fun kv wr => ∃ (q : Nat) (h1 h2 : Value) (c1 c2 : List Value), q ≤ s.length ∧ kv = .int .i64 q ∧ Hid (LInv w1.heap.size w1.heap.size wr.heap.size wo.heap.size (.slice (some ⟨g, 0, none⟩) s.length cap) h1 h2 c1 c2 wr s (oTo m s q) (nTo m c s q)) ∧ Hid (Below w1.heap.size w1 wr)) (fun kv _ => s.length - (intOf kv).toNat)
      case atStart => exact ⟨0, _, _, [], [], Nat.zero_le _, rfl, I0.out.raise (by simp) (Nat.le_refl _), hB.out.alloc (by omega) _⟩
      case round =>
        obtain ⟨q, h1, h2, c1, c2, hq, rfl, hL, hBk⟩ := hrel
        obtain ⟨wk, rfl⟩ : ∃ wk : World, wk = wr := ⟨_, rfl⟩
        clear I0
        have lBk := hBk.out.size
        by_cases hqs : q < s.length
        · have hx := RS.out _ (mem_at hqs)
          obtain ⟨i, hi⟩ : ∃ i : Nat, at0 s q = (i : Int) := ⟨(at0 s q).toNat, by omega⟩
          rw [hi] at hx
          have hin : i < m.out.length := by omega
          have KI := hid hi
          have gi1 := G.out.ins1
          have gi3 := G.out.ins3
          have TIq : Hid (∀ t ∈ trg m c i, t ∈ s) := by have := TI.out q hqs; rw [KI.out] at this; exact this
          clear hi hx
          go_wp2_with fail
          go_loopw [10, 11] (fun rv xv wi => ∃ j : Nat, j ≤ ins m ∧ xv = .int .i64 j ∧ Hid (LInv w1.heap.size w1.heap.size wk.heap.size wo.heap.size (.slice (some ⟨g, 0, none⟩) s.length cap) h1 h2 c1 c2 wi s (oTo m s q) (nTo m c s q)) ∧ Hid (wi.ownsRow wk.heap.size 3 1 rv j ((((trg m c i).take j).map (ixOf s)).map (Value.int .i64))) ∧ Hid (RowSep w1.heap.size wk.heap.size wo.heap.size (.slice (some ⟨g, 0, none⟩) s.length cap) h1 h2 rv wi) ∧ Hid (Below w1.heap.size w1 wi)) (fun _ xv _ => ins m - (intOf xv).toNat)
          case atStart => exact ⟨0, Nat.zero_le _, rfl, hL, by show World.ownsRow _ _ _ _ _ _ _; simpa using World.ownsRow_nil _ _ _ _, ⟨fun b hb => by simp [Value.ownBlock] at hb⟩, hBk⟩
          case round =>
            obtain ⟨j, hj, rfl, hLi, hown, hsep, hBi⟩ := hrel
            obtain ⟨wi, rfl⟩ : ∃ wi : World, wi = wr := ⟨_, rfl⟩
            have lBi := hBi.out.size
            have lLi := hLi.out.hi
            have BWi := hid (BW.out.trans (hBi.out.mono (by omega)))
            have B1i := hBi
            have X := Has.below MB.out B1i.out (by omega)
            have x0 := Has.cell X 0
            have x1 := Has.cell X 1
            simp at x0 x1
            clear X
            obtain ⟨e0, p0, d0, _, Z0⟩ := row_all (s := 0) (x := 0) HF.out lo Ro.out g1 (L := ins m) rfl (by omega)
            have z0 := (Z0 wi BWi.out).1
            rw [Nat.add_zero] at z0
            clear Z0
            by_cases hjl : j < ins m
            · have gg := G.out.goes i hin j hjl
              obtain ⟨e1, p1, d1, _, U1⟩ := row_all (s := i) (x := j) HF.out ln Rn.out (by rw [G.out.next]; exact hin) (G.out.rowN i hin) hjl
              obtain ⟨y1, y2⟩ := U1 wi BWi.out
              obtain ⟨y, hy⟩ : ∃ y : Nat, at0 (rowAt m.next i) j = (y : Int) := ⟨(at0 (rowAt m.next i) j).toNat, by omega⟩
              rw [hy] at y2 gg
              have hr2 : wi.cell? ⟨bC, oC + y, none⟩ = some (.int .i64 (at0 c y)) := (B1i.out.cell (p := ⟨bC, oC + y, none⟩) fc2).trans (HC.out y (by omega))
              have hyl : y < c.length := by omega
              have hin2 : i < m.next.length := by rw [G.out.next]; exact hin
              have TL : j < (trg m c i).length := by rw [trg_len, G.out.rowN i hin]; exact hjl
              have TA : at0 (trg m c i) j = at0 c y := by rw [trg_at (by rw [G.out.rowN i hin]; exact hjl), hy]; rfl
              have TM : Hid (at0 c y ∈ s) := TIq.out _ (by rw [← TA]; exact mem_at TL)
              have TS : Hid ((((trg m c i).take (j + 1)).map (ixOf s)).map (Value.int .i64) = (((trg m c i).take j).map (ixOf s)).map (Value.int .i64) ++ [Value.int .i64 (ixOf s (at0 c y))]) := by show _ = _; rw [map_take_succ TL, List.map_append, TA]; rfl
              have hk1 : wi.cell? ⟨g, q, none⟩ = some (.int .i64 (at0 s q)) := own_cellK rfl hLi.out.ord hqs
              rw [KI.out] at hk1
              have qO : (q : Int) < (s.length : Int) := by omega
              have CELLS : Hid (∀ t, t < s.length → wi.cell? ⟨g, t, none⟩ = some (.int .i64 (at0 s t))) := fun t ht => own_cellK rfl hLi.out.ord ht
              obtain ⟨T, hT⟩ : ∃ T, T = at0 c y := ⟨_, rfl⟩
              rw [← hT] at hr2 TM TS
              clear hy gg U1 TA TL hT
              go_wp2_with fail
              go_loopw [12] (fun tv wr => ∃ (t q' : Nat), t ≤ s.length ∧ tv = .int .i64 t ∧ Hid (∀ z, z < t → at0 s z ≠ T) ∧ wr = wi.drewN q') (fun tv _ => s.length - (intOf tv).toNat)
              case atStart => exact ⟨0, 0, Nat.zero_le _, rfl, fun z hz => by omega, rfl⟩
              case round =>
                obtain ⟨t, q', ht, rfl, holdt, rfl⟩ := hrel
                have tl : t < s.length := by
                  by_cases h : t < s.length
                  · exact h
                  · exfalso
                    have := ix_none (zs := s) (x := T) fun z hz => holdt.out z (by omega)
                    have := ix_ge.2 TM.out
                    omega
                have ct := CELLS.out t tl
                have tO : (t : Int) < (s.length : Int) := by omega
                obtain ⟨z, hz⟩ : ∃ z, z = at0 s t := ⟨_, rfl⟩
                rw [← hz] at ct
                have HZt := hid hz
                clear hz
                by_cases hzT : z = T
                · have e1 : (z != T) = false := by simp [hzT]
                  have IX : Hid (ixOf s T = (t : Int)) := ix_at tl (by rw [← HZt.out]; exact hzT) holdt.out
                  clear hzT
                  go_wp2_with fail
                  go_quiet (fail)
                  have OWN2 : Hid (((wi.drewN q').drewN nq).ownsRow wk.heap.size 3 1 u10 j ((((trg m c i).take j).map (ixOf s)).map (Value.int .i64))) := hown.out
                  have L2 : Hid (LInv w1.heap.size w1.heap.size wk.heap.size wo.heap.size (.slice (some ⟨g, 0, none⟩) s.length cap) h1 h2 c1 c2 ((wi.drewN q').drewN nq) s (oTo m s q) (nTo m c s q)) := hLi.out.below (below_drewN (below_drewN (Below.refl _ _) _) _)
                  have S2 : Hid (RowSep w1.heap.size wk.heap.size wo.heap.size (.slice (some ⟨g, 0, none⟩) s.length cap) h1 h2 u10 ((wi.drewN q').drewN nq)) := hsep.out.size (by simp)
                  have BB2 : Hid (Below w1.heap.size w1 ((wi.drewN q').drewN nq)) := below_drewN (below_drewN hBi.out _) _
                  have lq : wi.heap.size ≤ ((wi.drewN q').drewN nq).heap.size := by simp
                  have e9 : (wi.drewN q').drewN nq = wi.drewN (q' + nq) := World.drewN_drewN _ _ _
                  rw [e9] at OWN2 L2 S2 BB2 lq
                  clear e9 x0 x1 z0 y1 y2 hr2 hk1 ct
                  simp only [World.drewN_drewN]
                  generalize wi.drewN (q' + nq) = wq at *
                  go_wp2_with (at_builtin; refine wpList_app _ rfl _ _ 25 rfl wk.heap.size 3 i0 (.int .i64 0) 1 8 Tryd.underlying25 hi0 hz0 hz1 hz2 rfl (by decide) u10 j _ rfl (OWN2.out.alloc _) _ _ 1 [.int .i64 (t : Nat)] rfl (cells_one _ _ _) (one_int _ _) (by unfold maxLen; omega) (by omega) (by simp; omega) ?_; intro v' w5 hown5 hgrow5 hat5)
                  have IS := (L2.out.below ((Below.refl _ _).alloc (Nat.le_refl _) (.cells #[.int .i64 (t : Nat)] 3))).rowApp (S2.out.size (by simp)) hgrow5 hat5 (own_lt hown5)
                  have I5 := hid IS.1
                  have S5 := hid IS.2
                  have O5 := hid hown5
                  have B5 : Hid (Below w1.heap.size w1 w5) := (BB2.out.alloc (by omega) _).grown hgrow5 (by simp; omega) (fun k hk => by have := own_ge (OWN2.out) k hk; omega)
                  clear IS hown5 hgrow5 hat5
                  go_roundw
                  case rel => exact ⟨j + 1, by omega, by go_num, I5, by show World.ownsRow _ _ _ _ _ _ _; rw [TS.out, IX.out]; exact O5.out, S5, B5⟩
                  case measure => simp [intOf]; omega
                · have e1 : (z != T) = true := by simp [hzT]
                  have N2 : Hid (∀ z, z < t + 1 → at0 s z ≠ T) := fun z' hz' => by
                    by_cases h : z' = t
                    · subst h; rw [← HZt.out]; exact hzT
                    · exact holdt.out z' (by omega)
                  clear hzT
                  go_wp2_with fail
                  go_quiet (fail)
                  go_wp2_with fail
                  go_roundw
                  case rel => exact ⟨t + 1, _, by omega, by go_num, N2, rfl⟩
                  case measure => simp [intOf]; omega
            · obtain rfl : j = ins m := by omega
              have TJ : Hid ((trg m c i).take (ins m) = trg m c i) := by show _ = _; rw [List.take_of_length_le (by rw [trg_len, G.out.rowN i hin]; omega)]
              rw [TJ.out] at hown
              have WFj : Hid (∀ z ∈ (trg m c i).map (ixOf s), (Lit.int .i64 z).wf = true) := by
                intro z hz
                obtain ⟨t, _, rfl⟩ := List.mem_map.1 hz
                have a1 : ixOf s t < s.length := ix_lt
                have a2 : -1 ≤ ixOf s t := by unfold ixOf; split <;> omega
                exact WalkArith.wf_i64 (by omega)
              obtain ⟨rO, y1, iO⟩ := Ro.out i hin
              have hRO : (rowAt m.out i).length = ins m := G.out.rowO i hin
              have WFr : Hid (∀ z ∈ rowAt m.out i, (Lit.int .i64 z).wf = true) := by obtain ⟨_, _, _, _, h, _⟩ := iO; exact h
              have RO := hid iO
              obtain ⟨AR, aR, rfl, _, _, _⟩ := iO
              have z2 : wi.cell? ⟨bo, oo + i, none⟩ = _ := (BWi.out.cell (p := ⟨bo, oo + i, none⟩) lo).trans y1
              rw [hRO] at z2
              have p0 := Has.cell hLi.out.box 0
              simp at p0
              have f0 := Has.froz hLi.out.box 0
              have hk1 : wi.cell? ⟨g, q, none⟩ = some (.int .i64 (at0 s q)) := own_cellK rfl hLi.out.ord hqs
              rw [KI.out] at hk1
              have qO : (q : Int) < (s.length : Int) := by omega
              have lc1 : (oTo m s q).length ≤ 6 := by rw [oTo_len]; omega
              have lc2 : (nTo m c s q).length ≤ 6 := by rw [nTo_len]; omega
              have lbo := Has.lt hLi.out.box
              have EO := hid (oTo_succ m s q)
              have EN : Hid (nTo m c s (q + 1) = nTo m c s q ++ [(trg m c i).map (ixOf s)]) := by show _ = _; rw [nTo_succ, KI.out]; rfl
              have EO2 : Hid (oTo m s (q + 1) = oTo m s q ++ [rowAt m.out i]) := by show _ = _; rw [EO.out, KI.out]; rfl
              obtain ⟨i1, hi1, hy0, hy1, hy2⟩ := info_parts infoRowL
              have RR := hid hown.out
              have LJ : Hid (((trg m c i).map (ixOf s)).length = ins m) := by show _ = _; rw [List.length_map, trg_len, G.out.rowN i hin]
              obtain ⟨A10, cp10, e10, _⟩ := ints_block RR.out WFj.out
              rw [LJ.out] at e10
              subst e10
              have lwi : w.heap.size < wi.heap.size := by omega
              have lgi : g < wi.heap.size := cell_lt hk1
              have lboi : bo < wi.heap.size := cell_lt z2
              have O0 : Hid ((wi.alloc (Obj.cells #[] 3)).drew.ownsRow wi.heap.size 3 1 (.slice (some ⟨wi.heap.size, 0, none⟩) 0 0) 0 []) := (World.ownsRow_lit (e := 3) (size := 1) (base := wi.heap.size) wi #[] 0 (Nat.le_refl _) (by unfold maxLen; omega) rfl).drew
              have C1 : Hid (CellsIn F (wi.alloc (Obj.cells #[] 3)).drew 1 (.slice AR (ins m) aR) (ins m) ((rowAt m.out i).map (Value.int .i64))) := by
                have := (RO.out.cells.keep (w' := (wi.alloc (Obj.cells #[] 3)).drew) fun b hb => (Below.heap_alloc _ _ _ (by have := HF.out b hb; have := BWi.out.size; omega)).trans (BWi.out.block b (HF.out b hb)))
                rw [hRO] at this
                exact this
              clear x0 x1 EO hown
              have X := Has.below MB.out B1i.out (by omega)
              have x0 := Has.cell X 0
              simp at x0
              clear X
              go_upto_region 24 with fail
              go_cut [] from 96 to 110 (fun wx => ∃ (g5 cap5 : Nat) (cs : List Value), Hid (LInv w1.heap.size w1.heap.size wx.heap.size wo.heap.size (.slice (some ⟨g, 0, none⟩) s.length cap) (.slice (some ⟨g5, 0, none⟩) ((oTo m s q).length + 1) cap5) h2 cs c2 wx s (oTo m s q ++ [rowAt m.out i]) (nTo m c s q)) ∧ Hid (RowSep w1.heap.size wk.heap.size wo.heap.size (.slice (some ⟨g, 0, none⟩) s.length cap) (.slice (some ⟨g5, 0, none⟩) ((oTo m s q).length + 1) cap5) h2 (.slice A10 (ins m) cp10) wx) ∧ Hid (wx.ownsRow wk.heap.size 3 1 (.slice A10 (ins m) cp10) (ins m) (((trg m c i).map (ixOf s)).map (Value.int .i64))) ∧ Hid (Below w1.heap.size w1 wx))
              case first =>
                go_region_law (first
                  | (refine step_app _ (by rfl) (.tmp 97) (.tmp 108) 22 (by rfl) w1.heap.size 25 i1 (.slice none 0 0) 1 24 Tryd.underlying22 hi1 hy0 hy1 hy2 rfl (by decide) h1 (oTo m s q).length c1 (by rfl) (I4.out.o1.alloc _) _ _ 1 [.slice A4 (ins m) cp4] (by rfl) (cells_one _ _ _) (by intro u hu; simp at hu; subst hu; exact one4.out) (by unfold maxLen; omega) (by omega) (by simp; omega) ?_; intro v5 w5 hown5 hgrow5 hat5; obtain ⟨g5, cap5, rfl, _⟩ := own_open hown5 (by omega); have J4 := hid (I4.out.below ((Below.refl _ _).alloc (Nat.le_refl _) (.cells #[.slice A4 (ins m) cp4] 25))); have q5 : w5.cell? ⟨wo.heap.size, 0, none⟩ = some h1 := (by have := Has.cell (Has.grown J4.out.box hgrow5 (fun e => J4.out.b1 e.symm)) 0; simpa using this); have fq5 := Has.froz (Has.grown J4.out.box hgrow5 (fun e => J4.out.b1 e.symm)) 0; have I5 := hid (J4.out.outApp hown5 hgrow5 hat5 (U4.out.keep fun b hb => Below.heap_alloc _ _ _ hb.lt)); have S5 := hid ((S4.out.size (w' := w4.alloc (.cells #[.slice A4 (ins m) cp4] 25)) (by simp)).out (w' := w5.setCell ⟨wo.heap.size, 0, none⟩ (.slice (some ⟨g5, 0, none⟩) ((oTo m s q).length + 1) cap5)) (by have := hgrow5.size; simp at this ⊢; omega) hat5); have R5 := hid (own_keep ((R4.out.alloc (.cells #[.slice A4 (ins m) cp4] 25)).kept hgrow5 S4.out.ne1) (w' := w5.setCell ⟨wo.heap.size, 0, none⟩ (.slice (some ⟨g5, 0, none⟩) ((oTo m s q).length + 1) cap5)) (fun k hk => Below.heap_setCell w5 _ _ k fun e => (S4.out.at_ k hk).2.nb e)); have B5 : Hid (Below w1.heap.size w1 (w5.setCell ⟨wo.heap.size, 0, none⟩ (.slice (some ⟨g5, 0, none⟩) ((oTo m s q).length + 1) cap5))) := (((B4.out.alloc (by omega) _).grown hgrow5 (by simp; omega) (fun k hk => by have := own_ge I4.out.o1 k hk; omega)).setCell (by simp; omega) _))
                  | (refine step_app _ (by rfl) (.tmp 98) (.tmp 106) 25 (by rfl) wi.heap.size 3 i0 (.int .i64 0) 1 8 Tryd.underlying25 hi0 hz0 hz1 hz2 rfl (by decide) _ 0 [] (by rfl) O0.out _ _ (ins m) ((rowAt m.out i).map (Value.int .i64)) (by rfl) C1.out (ints_one _ _) (by unfold maxLen; omega) (by omega) (by simp) ?_; intro v4 w4 hown4 hgrow4 _; have hb4 : Below wi.heap.size wi w4 := (((Below.refl _ _).alloc (Nat.le_refl _) _).drew).grown hgrow4 (by simp) (by intro k hk; simp [Value.ownBlock] at hk; omega); rw [Nat.zero_add, List.nil_append] at hown4; have s4 := hb4.size; obtain ⟨A4, cp4, e4, _⟩ := ints_block hown4 WFr.out; rw [hRO] at e4; subst e4; have one4 : Hid ((Value.slice A4 (ins m) cp4).oneCell' = true) := (by exact rfl); have I4 := hid ((hLi.out.below hb4).raise (Nat.le_trans hLi.out.hi s4) (Nat.le_refl _)); have U4 : Hid (IntsIn .i64 (LFree w1.heap.size w4.heap.size wo.heap.size (.slice (some ⟨g, 0, none⟩) s.length cap) h1 h2) w4 (.slice A4 (ins m) cp4) (rowAt m.out i)) := ((ints_block hown4 WFr.out).more fun b hb => hLi.out.fresh (own_ge hown4 b hb) (own_lt hown4 b hb)); have S4 := hid (hsep.out.size s4); have R4 := hid (own_below RR.out hb4); have B4 : Hid (Below w1.heap.size w1 w4) := (hBi.out.trans (hb4.mono lBi)); have p4 := Has.cell I4.out.box 0; simp at p4; have lb4 := Has.lt I4.out.box))
                all_goals
                  go_wp2_with fail
                  go_meet
                  exact ⟨g5, cap5, _, I5.out.raise I5.out.hi (Nat.le_refl _), S5, R5, B5⟩
              case rest =>
                obtain ⟨g5, cap5, cs, E5, S5, R5, B5⟩ := hcut
                clear hLi RR hsep hBi p0 f0 z2 x0 z0 hk1 O0 C1 RO
                have lw5 := B5.out.size
                have q6 := Has.cell E5.out.box 1
                simp at q6
                have fq6 := Has.froz E5.out.box 1
                go_wp2_with (at_builtin; refine wpList_app _ rfl _ _ 22 rfl w1.heap.size 25 i1 (.slice none 0 0) 1 24 Tryd.underlying22 hi1 hy0 hy1 hy2 rfl (by decide) h2 (nTo m c s q).length c2 rfl (E5.out.o2.alloc _) _ _ 1 [(.slice A10 (ins m) cp10)] rfl (cells_oneAt _ _ _ (by simp)) (by intro u hu; simp at hu; subst hu; rfl) (by unfold maxLen; omega) (by omega) (by simp; omega) ?_; intro v6 w6 hown6 hgrow6 hat6; obtain ⟨g6, cap6, rfl, _⟩ := own_open hown6 (by omega); have J5 := hid (E5.out.below ((Below.refl _ _).alloc (Nat.le_refl _) (.cells #[(.slice A10 (ins m) cp10)] 25))); have q7 : w6.cell? ⟨wo.heap.size, 1, none⟩ = some h2 := (by have := Has.cell (Has.grown J5.out.box hgrow6 (fun e => J5.out.b2 e.symm)) 1; simpa using this); have fq7 := Has.froz (Has.grown J5.out.box hgrow6 (fun e => J5.out.b2 e.symm)) 1)
                have I7 := hid (J5.out.nextApp hown6 hgrow6 hat6 ((S5.out.ints R5.out WFj.out).keep fun b hb => Below.heap_alloc _ _ _ hb.lt))
                have B7 : Hid (Below w1.heap.size w1 (w6.setCell ⟨wo.heap.size, 1, none⟩ (.slice (some ⟨g6, 0, none⟩) ((nTo m c s q).length + 1) cap6))) := (((B5.out.alloc (by omega) _).grown hgrow6 (by simp; omega) (fun k hk => by have := own_ge E5.out.o2 k hk; omega)).setCell (by simp; omega) _)
                clear J5 hown6 hgrow6 hat6
                go_roundw
                case rel => exact ⟨q + 1, _, _, _, _, by omega, by go_num, by rw [EO2.out, EN.out]; exact I7.out.raise (by have := I7.out.hi; simpa using this) (by simp), B7⟩
                case measure => simp [intOf]; omega
        · obtain rfl : q = s.length := by omega
          have MM := hid hL.out.mach
          obtain ⟨o', n', e, ⟨A3, a3, e3, _, _⟩, ⟨A4, a4, e4, _, _⟩⟩ := MM.out
          injection e with e
          simp at e
          obtain ⟨e5, e6⟩ := e
          dsimp only at e3 e4
          subst e5 e6
          subst e3 e4
          have p0 := Has.cell hL.out.box 0
          have p1 := Has.cell hL.out.box 1
          have X3 := Has.below RB.out hBk.out lw
          have x0 := Has.cell X3 0
          have x1 := Has.cell X3 1
          have fx0 := Has.froz X3 0
          have fx1 := Has.froz X3 1
          simp at p0 p1 x0 x1
          clear X3 hL
          go_wp2_with fail
          have BO : Hid (Below w.heap.size w wk) := BW.out.trans (hBk.out.mono (by omega))
          refine bodyPost_ret (v := .agg #[.slice A3 (oTo m s s.length).length a3, .slice A4 (nTo m c s s.length).length a4]) (by simp [results, Tryd.results27, go_sem, x0, x1]) rfl ⟨_, c, ⟨oTo m s s.length, nTo m c s s.length⟩, rfl, HCO.out, LD.out, ?_, ?_⟩
          · refine (MM.out.keep fun b hb => ?_).more fun b hb => ⟨by have := hb.1; omega, by simp; exact hb.2⟩
            rw [Below.heap_setCell _ _ _ _ (by have := hb.1; simp; omega), Below.heap_setCell _ _ _ _ (by have := hb.1; simp; omega)]
          · exact (BO.out.setCell (by simp) _).setCell (by simp) _
end Go.Proofs.YtfalbffpdgfepaaDoor
