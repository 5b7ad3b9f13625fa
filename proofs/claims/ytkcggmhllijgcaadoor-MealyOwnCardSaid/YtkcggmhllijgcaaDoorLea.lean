/- What minim.Least returns of a right machine. No conditions beyond that. -/
import Derived.Test.YtkcggmhllijgcaaDoorLsi
import Derived.Deep.OwnRows
import Derived.Deep.LoopGhost
import Derived.Deep.RegionLaw
import Derived.Deep.CutRange
namespace Go.Proofs.YtkcggmhllijgcaaDoor
open Go.RowKit Go.Deep
def LeastOwn (m : MachD) (w : World) (e : Ending) (w' : World) : Prop := ∃ o n c l, e = .returned (.tuple #[.agg #[o, n], .nilIface]) ∧ ClassOf m c ∧ LeastD m c l ∧ MachIn (Fresh w w') w' (.agg #[o, n]) l ∧ Below w.heap.size w w' ∧ OwnM w.heap.size (Fresh w w') w' o n l
def LeastPost (m : MachD) (w : World) (e : Ending) (w' : World) : Prop := ∃ r c l, e = .returned (.tuple #[r, .nilIface]) ∧ ClassOf m c ∧ LeastD m c l ∧ MachIn (Fresh w w') w' r l ∧ Below w.heap.size w w'
set_option maxRecDepth 100000 in
set_option maxHeartbeats 4000000 in
theorem least_own (m : MachD) (F : Nat → Prop) (v : Value) (w : World) (hF : ∀ b, F b → b < w.heap.size) (h : MachIn F w v m) (g : Good m) :
    Calls Tryd.prog 18 #[v] w (LeastOwn m w) := by
  have HF := hid hF
  have HM := hid h
  have G := hid g
  obtain ⟨o, nxv, rfl, ⟨Ao, co, rfl, ho1, _⟩, ⟨An, cn, rfl, hn1, _⟩⟩ := h
  have g1 := g.pos
  have g2 := g.le
  clear hF g
  go_enter Tryd.func18, Tryd.ntmps18
  go_wp2_with fail
  refine (classes_ok m F _ _ (fun b hb => by have := HF.out b hb; simp; omega) ((HM.out.keep (w' := w.alloc _) fun b hb => Below.heap_alloc _ _ _ (HF.out b hb)).keep fun b hb => Below.heap_alloc _ _ _ (by have := HF.out b hb; simp; omega)) G.out).mono ?_
  rintro e w1 ⟨r, c, rfl, CO, IC, hb⟩
  obtain ⟨B1, X1, s1⟩ := box_below hb
  have hcl := CO.len
  have HCO := hid CO
  have HIC := hid IC
  obtain ⟨Ac, cc, rfl, hc1, hc2, hc3⟩ := IC
  obtain ⟨bC, oC, rfl, hfc, hcell⟩ := hc3 (by omega)
  have C0 : w1.cell? ⟨bC, oC, none⟩ = some (.int .i64 (at0 c 0)) := by have := hcell 0 (by omega); rw [Nat.add_zero] at this; exact this
  have HC := hid hcell
  have fc1 : w.heap.size < bC := by have := hfc.1; simp at this; omega
  have fc2 : bC < w1.heap.size := hfc.2
  have HX1 := hid X1
  have HB1 := hid B1
  have hcl1 : 0 < c.length := by omega
  clear hc3 hcell hfc CO hb X1 B1
  have BW : Hid (Below w.heap.size w w1) := ((Below.refl _ _).alloc (Nat.le_refl _) _).trans (HB1.out.mono (by simp))
  have M1 := hid (HM.out.keep (w' := w1) (Same.of_below BW.out HF.out))
  have x1' : w1.heap[w.heap.size]? = some (.cells #[.slice Ao m.out.length co, .slice An m.next.length cn] 24 (0, 0)) := Has.below (Has.new w _) HB1.out (by simp)
  have MB := hid x1'
  have lw : w.heap.size < w1.heap.size := by simp at s1; omega
  have WFc : Hid (∀ z ∈ c, (Lit.int .i64 z).wf = true) := hc2
  have R0 : Hid (Reps m c (st m c 0).ord ∧ (st m c 0).ord.Nodup) := ⟨(st_inv G.out HCO.out 0 (fun j hj => by omega)).1, by simp [st]⟩
  clear x1' hc2
  have I0 : Hid (LInv w1.heap.size w1.heap.size (w1.heap.size + 2) (w1.heap.size + 1) (.slice (some { block := w1.heap.size, off := 0 }) 1 1) (.slice none 0 0) (.slice none 0 0) [] [] ((w1.alloc (Obj.cells #[Value.int IntKind.i64 (at0 c 0)] 3)).alloc (Obj.cells #[Value.slice none 0 0, Value.slice none 0 0] 24)) (st m c 0).ord (st m c 0).outs (st m c 0).nexts) := by
    have O1 := World.ownsRow_lit (e := 3) (size := 1) (base := w1.heap.size) w1 #[Value.int IntKind.i64 (at0 c 0)] 1 (Nat.le_refl _) (by unfold maxLen; omega) rfl
    exact ⟨own_below O1 ((Below.refl _ _).alloc (Nat.le_refl _) _), Has.newAt _ _ (by simp), World.ownsRow_nil _ _ _ _, World.ownsRow_nil _ _ _ _, fun i hi => by simp [st] at hi, fun i hi => by simp [st] at hi, by omega, Nat.le_refl _, by simp, by simp [Value.ownBlock], by simp [Value.ownBlock], by simp [Value.ownBlock], by simp [Value.ownBlock], by simp [Value.ownBlock], by simp [Value.ownBlock], fun i hi => by simp [st] at hi, fun i hi => by simp [st] at hi⟩
  have BI0 : Hid (Below w1.heap.size w1 ((w1.alloc (Obj.cells #[Value.int IntKind.i64 (at0 c 0)] 3)).alloc (Obj.cells #[Value.slice none 0 0, Value.slice none 0 0] 24))) := ((Below.refl _ _).alloc (Nat.le_refl _) _).alloc (by simp) _
  obtain ⟨i0, hi0, hz0, hz1, hz2⟩ := info_parts infoInt
  go_wp2_with fail
  go_loopw [6, 8] (fun ov kv wr => ∃ (k : Nat) (h1 h2 : Value) (c1 c2 : List Value), k ≤ m.out.length ∧ kv = .int .i64 k ∧ Hid (∀ j, j < k → j < (st m c j).ord.length) ∧ Hid (LInv w1.heap.size w1.heap.size wr.heap.size (w1.heap.size + 1) ov h1 h2 c1 c2 wr (st m c k).ord (st m c k).outs (st m c k).nexts) ∧ Hid (Below w1.heap.size w1 wr)) (fun _ kv _ => m.out.length - (intOf kv).toNat)
  case atStart => exact ⟨0, _, _, [], [], by omega, rfl, fun j hj => by omega, I0.out.raise (by simp) (Nat.le_refl _), BI0⟩
  case round =>
    obtain ⟨k, h1, h2, c1, c2, hkn, rfl, hold, hI, hB⟩ := hrel
    obtain ⟨wo, rfl⟩ : ∃ wo : World, wo = wr := ⟨_, rfl⟩
    clear I0 BI0
    have hinv := st_inv G.out HCO.out k hold.out
    have hle := st_le G.out HCO.out hold.out
    obtain ⟨q1, q2, q3, q4, q5, q6⟩ := hinv
    have SI := hid (⟨q1, q2⟩ : Reps m c (st m c k).ord ∧ (st m c k).ord.Nodup)
    have ES : Hid (st m c (k + 1) = stNext m c (st m c k) k) := rfl
    have lB := hB.out.size
    generalize hs : st m c k = s at *
    have HS := hid hs
    clear hs
    obtain ⟨g, cap, rfl, hg1, hg2, hg3, hg4, hg5⟩ := own_open hI.out.ord (by omega)
    by_cases hlt : k < s.ord.length
    · have hx := q1 _ (mem_at hlt)
      have hk1 : wo.cell? ⟨g, k, none⟩ = some (.int .i64 (at0 s.ord k)) := by rw [hg5 k (by omega)]; simp [List.getElem?_map, List.getElem?_eq_getElem hlt, at0, List.getD_eq_getElem?_getD]
      obtain ⟨i, hi⟩ : ∃ i : Nat, at0 s.ord k = (i : Int) := ⟨(at0 s.ord k).toNat, by omega⟩
      rw [hi] at hk1 hx
      have hin : i < m.out.length := by omega
      have KI := hid hi
      clear hi hx q1 q2 hg5
      obtain ⟨o', n', e, ⟨A1, a1, e1, _, HO⟩, ⟨A2, a2, e2, _, HN⟩⟩ := M1.out
      injection e with e
      simp at e
      obtain ⟨e3, e4⟩ := e
      subst e3 e4
      injection e1 with e1 _ e1'
      injection e2 with e2 _ e2'
      subst e1 e1' e2 e2'
      obtain ⟨bO, oO, rfl, hbO, hcO⟩ := HO (by omega)
      have gn := G.out.next
      obtain ⟨bN, oN, rfl, hbN, hcN⟩ := HN (by omega)
      obtain ⟨rO, y1, iO⟩ := hcO i hin
      obtain ⟨rN, y2, iN⟩ := hcN i (by omega)
      have RO := hid iO
      have hRO : (rowAt m.out i).length = ins m := G.out.rowO i hin
      have hRN : (rowAt m.next i).length = ins m := G.out.rowN i hin
      have gi1 := G.out.ins1
      have gi3 := G.out.ins3
      obtain ⟨AR, aR, rfl, _, _, iR⟩ := iN
      obtain ⟨bR, oR, rfl, hbR, hcR⟩ := iR (by omega)
      have HR := hid hcR
      have lN := cell_lt y2
      have lO := cell_lt y1
      have lR : bR < w1.heap.size := cell_lt (by simpa using hcR 0 (by omega))
      have z1 : wo.cell? ⟨bN, oN + i, none⟩ = _ := (hB.out.cell (p := ⟨bN, oN + i, none⟩) lN).trans y2
      have mb1 := Has.cell (Has.below MB.out hB.out lw) 1
      simp at mb1
      rw [hRN] at z1
      have Y1 := hid y1
      clear HO HN hcO hcN iO iR hcR y1 y2 q3 q4
      go_wp2_with fail
      go_loopw [6, 10, 43] (fun ov rv tv wi => ∃ j : Nat, j ≤ ins m ∧ tv = .int .i64 j ∧ Hid (LInv w1.heap.size w1.heap.size wo.heap.size (w1.heap.size + 1) ov h1 h2 c1 c2 wi (scan s.ord ((trg m c i).take j)).1 s.outs s.nexts) ∧ wi.ownsRow wo.heap.size 3 1 rv j ((scan s.ord ((trg m c i).take j)).2.map (Value.int .i64)) ∧ Hid (RowSep w1.heap.size wo.heap.size (w1.heap.size + 1) ov h1 h2 rv wi) ∧ Hid (Below w1.heap.size w1 wi)) (fun _ _ tv _ => ins m - (intOf tv).toNat)
      case atStart => exact ⟨0, Nat.zero_le _, rfl, by simpa [scan] using hI, by simpa [scan] using World.ownsRow_nil _ _ _ _, ⟨fun b hb => by simp [Value.ownBlock] at hb⟩, hB⟩
      case round =>
        obtain ⟨j, hj, rfl, hIi, hown, hsep, hBi⟩ := hrel
        obtain ⟨wi, rfl⟩ : ∃ wi : World, wi = wr := ⟨_, rfl⟩
        have lBi := hBi.out.size
        have lCi := hIi.out.hi
        by_cases hjl : j < ins m
        · have gg := G.out.goes i hin j hjl
          have hr1 : wi.cell? ⟨bR, oR + j, none⟩ = some (.int .i64 (at0 (rowAt m.next i) j)) := (hBi.out.cell (p := ⟨bR, oR + j, none⟩) lR).trans (HR.out j (by omega))
          obtain ⟨y, hy⟩ : ∃ y : Nat, at0 (rowAt m.next i) j = (y : Int) := ⟨(at0 (rowAt m.next i) j).toNat, by omega⟩
          rw [hy] at hr1 gg
          have hr2 : wi.cell? ⟨bC, oC + y, none⟩ = some (.int .i64 (at0 c y)) := (hBi.out.cell (p := ⟨bC, oC + y, none⟩) fc2).trans (HC.out y (by omega))
          have hyl : y < c.length := by omega
          have hyl2 : y < m.out.length := by omega
          have TA : Hid (at0 (trg m c i) j = at0 c y) := by show _ = _; rw [trg_at (by omega), hy]; rfl
          have TL : Hid (j < (trg m c i).length) := by show _ < _; rw [trg_len]; omega
          have MS := hid (mid_succ (o := s.ord) TL.out)
          have MO := hid (mid_ok G.out HCO.out SI.out.1 SI.out.2 hin j)
          have MO2 := hid (mid_ok G.out HCO.out SI.out.1 SI.out.2 hin (j + 1))
          generalize ho : scan s.ord ((trg m c i).take j) = sc at *
          obtain ⟨od, ix⟩ := sc
          rw [TA.out] at MS
          have WFo := hid (reps_wf g2 MO.out.1)
          have IO := hid (ints_of_own hIi.out.ord WFo.out)
          have IL := MO.out.2.2
          clear hy gg ho
          dsimp only at *
          go_wp2_with fail
          refine (contains_any od (at0 c y) _ _ _ IO.out).mono ?_
          rintro e w2 ⟨rfl, rfl⟩
          have MSe := MS.out
          by_cases hm : at0 c y ∈ od
          · have D : decide (at0 c y ∈ od) = true := by simp [hm]
            have S1 : step1 od (at0 c y) = od := by unfold step1; rw [if_pos hm]
            rw [S1] at MSe
            have MSh := hid MSe
            rw [D]
            clear hm D S1 MSe MS
            go_wp2_with fail
            refine (index_any od (at0 c y) _ _ _ IO.out).mono ?_
            rintro e w4 ⟨rfl, rfl⟩
            have lb5 := (hBi).out.size
            go_wp2_with (at_builtin; refine wpList_app _ rfl _ _ 29 rfl wo.heap.size 3 i0 (.int .i64 0) 1 8 Tryd.underlying29 hi0 hz0 hz1 hz2 rfl (by decide) u10 j (ix.map (Value.int .i64)) rfl ((hown).alloc _) _ _ 1 [.int .i64 (ixOf od (at0 c y))] rfl (cells_one _ _ _) (one_int _ _) (by unfold maxLen; omega) (by omega) (by have := (hIi).out.hi; simp; omega) ?_; intro v' w5 hown5 hgrow5 hat5)
            have IS := ((hIi).out.below ((Below.refl _ _).alloc (Nat.le_refl _) (.cells #[.int .i64 (ixOf od (at0 c y))] 3))).rowApp ((hsep).out.size (by simp)) hgrow5 hat5 (own_lt hown5)
            have I5 := hid IS.1
            have S5 := hid IS.2
            have O5 := hid hown5
            have B5 : Hid (Below w1.heap.size w1 w5) := ((hBi).out.alloc (by omega) _).grown hgrow5 (by simp; omega) (fun k hk => by have := own_ge (hown) k hk; omega)
            clear IS hown5 hgrow5 hat5
            go_roundw
            case rel => exact ⟨j + 1, by omega, by go_num, by rw [MSh.out]; exact I5, by rw [MSh.out, List.map_append]; exact O5.out, S5, B5⟩
            case measure => simp [intOf]; omega
          · have D : decide (at0 c y ∈ od) = false := by simp [hm]
            have S1 : step1 od (at0 c y) = od ++ [at0 c y] := by unfold step1; rw [if_neg hm]
            rw [S1] at MSe
            have MSh := hid MSe
            have E1 : Hid (List.map (Value.int .i64) od ++ [Value.int .i64 (at0 c y)] = List.map (Value.int .i64) (od ++ [at0 c y])) := by show _ = _; simp
            rw [D]
            have WF2 : Hid (∀ z ∈ od ++ [at0 c y], (Lit.int .i64 z).wf = true) := by
              intro z hz
              rcases List.mem_append.1 hz with h | h
              · exact WFo.out z h
              · simp at h; subst h; exact WFc.out _ (mem_at hyl)
            clear hm D S1 MSe MS
            go_wp2_with (at_builtin; refine wpList_app _ rfl _ _ 29 rfl w1.heap.size 3 i0 (.int .i64 0) 1 8 Tryd.underlying29 hi0 hz0 hz1 hz2 rfl (by decide) u6 od.length (od.map (Value.int .i64)) rfl (hIi.out.ord.alloc _) _ _ 1 [.int .i64 (at0 c y)] rfl (cells_one _ _ _) (one_int _ _) (by unfold maxLen; omega) (by omega) (by simp; omega) ?_; intro v3 w3 hown3 hgrow3 hat3; have B3 : Hid (Below w1.heap.size w1 w3) := ((hBi.out.alloc (by omega) _).grown hgrow3 (by simp; omega) (fun k hk => by have := own_ge hIi.out.ord k hk; omega)); have hr3 : w3.cell? ⟨bC, oC + y, none⟩ = some (.int .i64 (at0 c y)) := (B3.out.cell (p := ⟨bC, oC + y, none⟩) fc2).trans (HC.out y (by omega)))
            have hown3' : w3.ownsRow w1.heap.size 3 1 v3 (od ++ [at0 c y]).length ((od ++ [at0 c y]).map (Value.int .i64)) := by rw [List.length_append, ← E1.out]; exact hown3
            have I3 := hid ((hIi.out.below ((Below.refl _ _).alloc (Nat.le_refl _) (.cells #[.int .i64 (at0 c y)] 3))).ordApp hown3' hgrow3 hat3)
            have S3 := hid ((hsep.out.size (w' := wi.alloc (.cells #[.int .i64 (at0 c y)] 3)) (by simp)).ord hgrow3.size hat3)
            have R3 : w3.ownsRow wo.heap.size 3 1 u10 j (ix.map (Value.int .i64)) := (hown.alloc (.cells #[.int .i64 (at0 c y)] 3)).kept hgrow3 hsep.out.ne
            have IO3 := hid (ints_of_own hown3' WF2.out)
            have IL3 : (od ++ [at0 c y]).length ≤ m.out.length := by have := MO2.out.2.2; rw [MSh.out] at this; exact this
            clear hown3 hown3' hgrow3 hat3 hr1 hr2 hown hIi hsep hBi
            refine (index_any (od ++ [at0 c y]) (at0 c y) _ _ _ IO3.out).mono ?_
            rintro e w4 ⟨rfl, rfl⟩
            have lb5 := (B3).out.size
            go_wp2_with (at_builtin; refine wpList_app _ rfl _ _ 29 rfl wo.heap.size 3 i0 (.int .i64 0) 1 8 Tryd.underlying29 hi0 hz0 hz1 hz2 rfl (by decide) u10 j (ix.map (Value.int .i64)) rfl ((R3).alloc _) _ _ 1 [.int .i64 (ixOf (od ++ [at0 c y]) (at0 c y))] rfl (cells_one _ _ _) (one_int _ _) (by unfold maxLen; omega) (by omega) (by have := (I3).out.hi; simp; omega) ?_; intro v' w5 hown5 hgrow5 hat5)
            have IS := ((I3).out.below ((Below.refl _ _).alloc (Nat.le_refl _) (.cells #[.int .i64 (ixOf (od ++ [at0 c y]) (at0 c y))] 3))).rowApp ((S3).out.size (by simp)) hgrow5 hat5 (own_lt hown5)
            have I5 := hid IS.1
            have S5 := hid IS.2
            have O5 := hid hown5
            have B5 : Hid (Below w1.heap.size w1 w5) := ((B3).out.alloc (by omega) _).grown hgrow5 (by simp; omega) (fun k hk => by have := own_ge (R3) k hk; omega)
            clear IS hown5 hgrow5 hat5
            go_roundw
            case rel => exact ⟨j + 1, by omega, by go_num, by rw [MSh.out]; exact I5, by rw [MSh.out, List.map_append]; exact O5.out, S5, B5⟩
            case measure => simp [intOf]; omega
        · have hje : j = ins m := by omega
          have HJ : Hid (scan s.ord ((trg m c i).take j) = scan s.ord (trg m c i)) := by show _ = _; rw [List.take_of_length_le (by rw [trg_len]; omega)]
          rw [HJ.out] at hIi hown
          have EN : Hid ((st m c (k + 1)).ord = (scan s.ord (trg m c i)).1 ∧ (st m c (k + 1)).outs = s.outs ++ [rowAt m.out i] ∧ (st m c (k + 1)).nexts = s.nexts ++ [(scan s.ord (trg m c i)).2]) := by
            refine ⟨?_, ?_, ?_⟩ <;> rw [ES.out] <;> simp [stNext, KI.out]
          have MO := hid (mid_ok G.out HCO.out SI.out.1 SI.out.2 hin j)
          rw [HJ.out] at MO
          have WFj : Hid (∀ z ∈ (scan s.ord (trg m c i)).2, (Lit.int .i64 z).wf = true) := by
            intro z hz
            have h1 := scan_ix _ _ z hz
            have h2 := MO.out.2.2
            obtain ⟨n, rfl⟩ : ∃ n : Nat, z = (n : Int) := ⟨z.toNat, by omega⟩
            exact wf_small (by omega)
          have WFr : Hid (∀ z ∈ rowAt m.out i, (Lit.int .i64 z).wf = true) := by obtain ⟨_, _, _, _, h, _⟩ := RO.out; exact h
          generalize hsc : scan s.ord (trg m c i) = sc at *
          obtain ⟨od, ix⟩ := sc
          dsimp only at *
          have p0 := Has.cell hIi.out.box 0
          simp at p0
          have f0 := Has.froz hIi.out.box 0
          have ma := Has.cell (Has.below MB.out hBi.out lw) 0
          simp at ma
          have z2 : wi.cell? ⟨bO, oO + i, none⟩ = _ := (hBi.out.cell (p := ⟨bO, oO + i, none⟩) lO).trans Y1.out
          have RO2 := hid (((RO.out.keep (Same.of_below hBi.out fun b hb => by have := HF.out b hb; omega)).more (F' := fun b => b < wi.heap.size) fun b hb => by have := HF.out b hb; omega))
          have RO3 : Hid (IntsIn .i64 (fun b => b < wi.heap.size) wi.drew rO (rowAt m.out i)) := RO2.out.keep (w' := wi.drew) (fun _ _ => rfl)
          have lbo := Has.lt hIi.out.box
          have lc1 : s.outs.length ≤ 6 := by omega
          have lc2 : s.nexts.length ≤ 6 := by omega
          clear hsc q5 q6 hje
          obtain ⟨i1, hi1, hy0, hy1, hy2⟩ := info_parts infoRowL
          have II := hid (hIi.out.below ((Below.refl _ _).drew))
          have RR := hid hown
          clear hown
          obtain ⟨A10, cp10, rfl, _⟩ := ints_block RR.out WFj.out
          have hold' : Hid (∀ j', j' < k + 1 → j' < (st m c j').ord.length) := fun j' hj' => by
            by_cases h : j' < k
            · exact hold.out j' h
            · obtain rfl : j' = k := by omega
              rw [HS.out]; exact hlt
          go_upto_region 18 with fail
          go_cut [] from 71 to 81 (fun wx => ∃ (g5 cap5 : Nat) (cs : List Value), Hid (LInv w1.heap.size w1.heap.size wx.heap.size (w1.heap.size + 1) u6 (.slice (some ⟨g5, 0, none⟩) (s.outs.length + 1) cap5) h2 cs c2 wx od (s.outs ++ [rowAt m.out i]) s.nexts) ∧ Hid (RowSep w1.heap.size wo.heap.size (w1.heap.size + 1) u6 (.slice (some ⟨g5, 0, none⟩) (s.outs.length + 1) cap5) h2 (.slice A10 ix.length cp10) wx) ∧ Hid (wx.ownsRow wo.heap.size 3 1 (.slice A10 ix.length cp10) j (ix.map (Value.int .i64))) ∧ Hid (Below w1.heap.size w1 wx))
          case first =>
            go_region_law (first
              | (refine step_app _ (by rfl) (.tmp 72) (.tmp 79) 22 (by rfl) w1.heap.size 29 i1 (.slice none 0 0) 1 24 Tryd.underlying22 hi1 hy0 hy1 hy2 rfl (by decide) h1 s.outs.length c1 (by rfl) (I4.out.o1.alloc _) _ _ 1 [.slice A4 (ins m) cp4] (by rfl) (cells_one _ _ _) (by intro u hu; simp at hu; subst hu; exact one4.out) (by unfold maxLen; omega) (by omega) (by simp; omega) ?_; intro v5 w5 hown5 hgrow5 hat5; obtain ⟨g5, cap5, rfl, _⟩ := own_open hown5 (by omega); have J4 := hid (I4.out.below ((Below.refl _ _).alloc (Nat.le_refl _) (.cells #[.slice A4 (ins m) cp4] 29))); have q5 : w5.cell? ⟨w1.heap.size + 1, 0, none⟩ = some h1 := (by have := Has.cell (Has.grown J4.out.box hgrow5 (fun e => J4.out.b1 e.symm)) 0; simpa using this); have fq5 := Has.froz (Has.grown J4.out.box hgrow5 (fun e => J4.out.b1 e.symm)) 0; have I5 := hid (J4.out.outApp hown5 hgrow5 hat5 (U4.out.keep fun b hb => Below.heap_alloc _ _ _ hb.lt) (N4.out.keep fun b hb => Below.heap_alloc _ _ _ hb.lt)); have q6 := Has.cell I5.out.box 1; simp at q6; have S5 := hid ((S4.out.size (w' := w4.alloc (.cells #[.slice A4 (ins m) cp4] 29)) (by simp)).out (w' := w5.setCell ⟨w1.heap.size + 1, 0, none⟩ (.slice (some ⟨g5, 0, none⟩) (s.outs.length + 1) cap5)) (by have := hgrow5.size; simp at this ⊢; omega) hat5); have R5 := hid (own_keep ((R4.out.alloc (.cells #[.slice A4 (ins m) cp4] 29)).kept hgrow5 S4.out.ne1) (w' := w5.setCell ⟨w1.heap.size + 1, 0, none⟩ (.slice (some ⟨g5, 0, none⟩) (s.outs.length + 1) cap5)) (fun k hk => Below.heap_setCell w5 _ _ k fun e => (S4.out.at_ k hk).2.nb e)); have B5 : Hid (Below w1.heap.size w1 (w5.setCell ⟨w1.heap.size + 1, 0, none⟩ (.slice (some ⟨g5, 0, none⟩) (s.outs.length + 1) cap5))) := (((B4.out.alloc (by omega) _).grown hgrow5 (by simp; omega) (fun k hk => by have := own_ge I4.out.o1 k hk; omega)).setCell (by simp) _))
              | (go_simp; go_at_call 29; refine (clone_any (rowAt m.out i) (fun b => b < wi.heap.size) _ wi.drew (fun b hb => hb) RO3.out (by omega)).mono ?_; rintro e w4 ⟨r4, rfl, own4, _, hb4⟩; have s4 := hb4.size; obtain ⟨A4, cp4, e4, _⟩ := ints_block own4 WFr.out; rw [hRO] at e4; subst e4; have N4 : Hid (OwnIn (LFree w1.heap.size w4.heap.size (w1.heap.size + 1) u6 h1 h2) w4 (.slice A4 (ins m) cp4) (rowAt m.out i)) := ⟨own_in own4, fun b hb => II.out.fresh (own_ge own4 b hb) (own_lt own4 b hb)⟩; have one4 : Hid ((Value.slice A4 (ins m) cp4).oneCell' = true) := (by exact rfl); have I4 := hid ((II.out.below hb4).raise (Nat.le_trans II.out.hi s4) (Nat.le_refl _)); have U4 : Hid (IntsIn .i64 (LFree w1.heap.size w4.heap.size (w1.heap.size + 1) u6 h1 h2) w4 (.slice A4 (ins m) cp4) (rowAt m.out i)) := ((ints_block own4 WFr.out).more fun b hb => II.out.fresh (own_ge own4 b hb) (own_lt own4 b hb)); have S4 := hid (hsep.out.size s4); have R4 := hid (own_below (w := wi.drew) (RR.out : (wi.drew).ownsRow _ _ _ _ _ _) hb4); have B4 : Hid (Below w1.heap.size w1 w4) := (hBi.out.drew.trans (hb4.mono lBi)); have p4 := Has.cell I4.out.box 0; simp at p4; have lb4 := Has.lt I4.out.box))
            all_goals
              go_wp2_with fail
              go_meet
              exact ⟨g5, cap5, _, I5.out.raise I5.out.hi (Nat.le_refl _), S5, R5, B5⟩
          case rest =>
            obtain ⟨g5, cap5, cs, E5, S5, R5, B5⟩ := hcut
            clear II RR hIi hsep hBi RO2 RO3 p0 f0 ma z2
            have lw5 := B5.out.size
            have q6 := Has.cell E5.out.box 1
            simp at q6
            have fq6 := Has.froz E5.out.box 1
            go_wp2_with (at_builtin; refine wpList_app _ rfl _ _ 22 rfl w1.heap.size 29 i1 (.slice none 0 0) 1 24 Tryd.underlying22 hi1 hy0 hy1 hy2 rfl (by decide) h2 s.nexts.length c2 rfl (E5.out.o2.alloc _) _ _ 1 [(.slice A10 ix.length cp10)] rfl (cells_oneAt _ _ _ (by simp)) (by intro u hu; simp at hu; subst hu; rfl) (by unfold maxLen; omega) (by omega) (by simp; omega) ?_; intro v6 w6 hown6 hgrow6 hat6; obtain ⟨g6, cap6, rfl, _⟩ := own_open hown6 (by omega); have J5 := hid (E5.out.below ((Below.refl _ _).alloc (Nat.le_refl _) (.cells #[(.slice A10 ix.length cp10)] 29))); have q7 : w6.cell? ⟨w1.heap.size + 1, 1, none⟩ = some h2 := (by have := Has.cell (Has.grown J5.out.box hgrow6 (fun e => J5.out.b2 e.symm)) 1; simpa using this); have fq7 := Has.froz (Has.grown J5.out.box hgrow6 (fun e => J5.out.b2 e.symm)) 1)
            have I7 := hid (J5.out.nextApp hown6 hgrow6 hat6 ((S5.out.ints R5.out WFj.out).keep fun b hb => Below.heap_alloc _ _ _ hb.lt) ((S5.out.owned R5.out).keep fun b hb => Below.heap_alloc _ _ _ hb.lt))
            have B7 : Hid (Below w1.heap.size w1 (w6.setCell ⟨w1.heap.size + 1, 1, none⟩ (.slice (some ⟨g6, 0, none⟩) (s.nexts.length + 1) cap6))) := (((B5.out.alloc (by omega) _).grown hgrow6 (by simp; omega) (fun k hk => by have := own_ge E5.out.o2 k hk; omega)).setCell (by simp) _)
            clear J5 hown6 hgrow6 hat6
            go_roundw
            case rel => exact ⟨k + 1, by omega, by go_num, hold', ⟨_, _, _, _, by rw [EN.out.1, EN.out.2.1, EN.out.2.2]; exact I7.out.raise (by have := I7.out.hi; simpa using this) (by simp)⟩, B7⟩
            case measure => simp [intOf]; omega
    · have hk : Hid (s.ord.length = k) := by show _ = _; omega
      have MM := hid hI.out.mach
      have OM := hid hI.out.own
      obtain ⟨o', n', e, ⟨A3, a3, e3, _, _⟩, ⟨A4, a4, e4, _, _⟩⟩ := MM.out
      injection e with e
      simp at e
      obtain ⟨e5, e6⟩ := e
      dsimp only at e3 e4
      subst e5 e6
      subst e3 e4
      have p0 := Has.cell hI.out.box 0
      have p1 := Has.cell hI.out.box 1
      have X2 : Hid (w1.heap[w.heap.size + 1]? = some (Obj.cells #[Value.slice none 0 0, Value.slice none 0 0] 24 (0, 0))) := by have := HX1.out; rw [World.size_alloc] at this; exact this
      have lw2 : w.heap.size + 1 < w1.heap.size := by simpa using s1
      have X3 := Has.below X2.out hB.out lw2
      have x0 := Has.cell X3 0
      have x1 := Has.cell X3 1
      have fx0 := Has.froz X3 0
      have fx1 := Has.froz X3 1
      simp at p0 p1 x0 x1
      clear X3 q1 q2 q3 q4 q5 q6 hg5 hI
      go_wp2_with fail
      have BO : Hid (Below w.heap.size w wo) := BW.out.trans (hB.out.mono (by omega))
      have lB2 := hB.out.size
      refine bodyPost_ret (v := .tuple #[.agg #[.slice A3 s.outs.length a3, .slice A4 s.nexts.length a4], .nilIface]) (by simp [results, Tryd.results18, go_sem, x0, x1]) rfl ⟨_, _, c, ⟨s.outs, s.nexts⟩, rfl, HCO.out, ⟨k, by rw [HS.out]; exact hk.out, hold.out, by rw [HS.out]⟩, ?_, ?_, ?_⟩
      · refine (MM.out.keep fun b hb => ?_).more fun b hb => ⟨by have := hb.1; omega, by simp; exact hb.2⟩
        rw [Below.heap_setCell _ _ _ _ (by have := hb.1; simp; omega), Below.heap_setCell _ _ _ _ (by have := hb.1; simp; omega)]
      · exact (BO.out.setCell (by simp) _).setCell (by simp) _
      · obtain ⟨d1, d2, k1, k2, k3, k4⟩ := OM.out
        have hs : Same (fun b => w1.heap.size ≤ b ∧ b < wo.heap.size) wo ((wo.setCell ⟨w.heap.size + 1, 0, none⟩ (.slice A3 s.outs.length a3)).setCell ⟨w.heap.size + 1, 1, none⟩ (.slice A4 s.nexts.length a4)) := fun b hb => by
          rw [Below.heap_setCell _ _ _ _ (by have := hb.1; simp; omega), Below.heap_setCell _ _ _ _ (by have := hb.1; simp; omega)]
        refine ⟨d1, d2, own_base (own_keep k1 fun k hk => hs k ⟨own_ge k1 k hk, own_lt k1 k hk⟩) (by omega), own_base (own_keep k2 fun k hk => hs k ⟨own_ge k2 k hk, own_lt k2 k hk⟩) (by omega), (k3.keep hs).more fun b hb => ⟨by have := hb.1; omega, by simp; exact hb.2⟩, (k4.keep hs).more fun b hb => ⟨by have := hb.1; omega, by simp; exact hb.2⟩⟩
theorem least_ok (m : MachD) (F : Nat → Prop) (v : Value) (w : World) (hF : ∀ b, F b → b < w.heap.size) (h : MachIn F w v m) (g : Good m) :
    Calls Tryd.prog 18 #[v] w (LeastPost m w) := by
  refine (least_own m F v w hF h g).mono ?_
  rintro e w' ⟨o, n, c, l, h1, h2, h3, h4, h5, _⟩
  exact ⟨_, c, l, h1, h2, h3, h4, h5⟩
end Go.Proofs.YtkcggmhllijgcaaDoor
