/- What minim.Classes returns of a right machine: for each state the least one that is alike. No conditions beyond that. -/
import Derived.Test.YtkcggmhllijgcaaDoorCls
import Derived.Deep.OwnRows
import Derived.Deep.LoopGhost
namespace Go.Proofs.YtkcggmhllijgcaaDoor
open Go.RowKit Go.Deep
/-- what a round knows of the captured variables: the classes, the machine -/
structure Cap (F : Nat → Prop) (B bc bm : Nat) (m : MachD) (c : List Int) (cv o nx : Value) (w : World) : Prop where
  box : w.heap[bc]? = some (.cells #[cv] 29 (0, 0))
  mac : w.heap[bm]? = some (.cells #[o, nx] 24 (0, 0))
  cls : IntsIn .i64 (fun b => b < B) w cv c
  mch : MachIn F w (.agg #[o, nx]) m
theorem Cap.below {F : Nat → Prop} {B bc bm : Nat} {m : MachD} {c : List Int} {cv o nx : Value} {w w' : World} (h : Cap F B bc bm m c cv o nx w) (hb : Below B w w') (h1 : bc < B) (h2 : bm < B) (hF : ∀ b, F b → b < B) : Cap F B bc bm m c cv o nx w' :=
  ⟨(hb.block _ h1).trans h.box, (hb.block _ h2).trans h.mac, h.cls.keep (Same.of_below hb fun _ h => h), h.mch.keep (Same.of_below hb hF)⟩
theorem mark_cap {F : Nat → Prop} {B bc bm : Nat} {m : MachD} {c : List Int} {cv o nx : Value} {w : World} (h : Cap F B bc bm m c cv o nx w) (hB : B ≤ w.heap.size) (hF : ∀ b, F b → b < B) (g : Good m) (hcl : c.length = m.out.length) {i : Nat} (hi : i < m.out.length) :
    Calls Tryd.prog 48 #[.int .i64 i, .pointer (some ⟨bc, 0, none⟩), .pointer (some ⟨bm, 0, none⟩)] w fun e w' => ∃ r, e = .returned r ∧ w'.ownsRow w.heap.size 3 1 r (markL m c i).length ((markL m c i).map (Value.int .i64)) ∧ Below w.heap.size w w' :=
  mark_any m c i (fun b => b < B) _ cv o nx bc bm w (fun b hb => by omega) rfl (h.mch.more hF) h.cls h.box h.mac g hcl hi
theorem mark_wf {m : MachD} {c : List Int} {i : Nat} (g : Good m) (hcl : c.length = m.out.length) (hi : i < m.out.length) (hw : ∀ z ∈ c, (Lit.int .i64 z).wf = true) (hr : ∀ z ∈ rowAt m.out i, (Lit.int .i64 z).wf = true) : ∀ z ∈ markL m c i, (Lit.int .i64 z).wf = true := by
  intro z hz
  unfold markL at hz
  rcases List.mem_cons.1 hz with rfl | hz
  · exact hw _ (mem_at (by omega))
  · rcases List.mem_append.1 hz with hz | hz
    · exact hr z hz
    · simp only [List.mem_map] at hz
      obtain ⟨j, hj, rfl⟩ := hz
      obtain ⟨x, hx, rfl⟩ := List.getElem_of_mem hj
      have h1 := g.goes i hi x (by rw [g.rowN i hi] at hx; exact hx)
      have e : (rowAt m.next i)[x] = at0 (rowAt m.next i) x := by unfold at0; rw [List.getD_eq_getElem?_getD, List.getElem?_eq_getElem hx]; rfl
      rw [e]
      exact hw _ (mem_at (by omega))
def nextTo (m : MachD) (c : List Int) (j : Nat) : List Int := (List.range j).map fun i => (nx m c i : Int)
theorem nextTo_succ (m : MachD) (c : List Int) (j : Nat) : nextTo m c (j + 1) = nextTo m c j ++ [(nx m c j : Int)] := by
  unfold nextTo; rw [List.range_succ, List.map_append]; rfl
theorem wf_small {n : Nat} (h : n ≤ 6) : (Lit.int .i64 (n : Int)).wf = true := by
  match n, h with
  | 0, _ => decide
  | 1, _ => decide
  | 2, _ => decide
  | 3, _ => decide
  | 4, _ => decide
  | 5, _ => decide
  | 6, _ => decide
theorem nextL_wf {m : MachD} {c : List Int} (h : m.out.length ≤ 6) : ∀ z ∈ nextL m c, (Lit.int .i64 z).wf = true := by
  intro z hz
  unfold nextL at hz
  simp only [List.mem_map, List.mem_range] at hz
  obtain ⟨i, hi, rfl⟩ := hz
  exact wf_small (by have := nx_le m c i; omega)
set_option maxRecDepth 100000 in
set_option maxHeartbeats 1000000 in
theorem classes_ok (m : MachD) (F : Nat → Prop) (v : Value) (w : World) (hF : ∀ b, F b → b < w.heap.size) (h : MachIn F w v m) (g : Good m) :
    Calls Tryd.prog 37 #[v] w fun e w' => ∃ r c, e = .returned (.tuple #[r, .nilIface]) ∧ ClassOf m c ∧ IntsIn .i64 (Fresh w w') w' r c ∧ Below w.heap.size w w' := by
  have HF := hid hF
  have HM := hid h
  have G := hid g
  obtain ⟨o, nxv, rfl, ⟨Ao, co, rfl, ho1, _⟩, ⟨An, cn, rfl, hn1, _⟩⟩ := h
  have g1 := g.pos
  have g2 := g.le
  clear hF g
  generalize hn : m.out.length = n at *
  have HN := hid hn
  have hmk := run_make_row' (P := Tryd.prog) 29 3 (.int .i64 0) 8 Tryd.underlying29 infoInt rfl .i64 .i64 n (by omega) (by omega)
  have g3 : (n : Int) ≤ 6 := by omega
  have HMK := hid hmk
  clear hn
  go_enter Tryd.func37, Tryd.ntmps37
  go_wp2_with fail
  refine (chk_ok (F := F) (fun b hb => by have := HF.out b hb; simp; omega) (by have := HM.out.keep (w' := w.alloc (Obj.cells #[Value.slice Ao n co, Value.slice An m.next.length cn] 24)) fun b hb => Below.heap_alloc _ _ _ (HF.out b hb); exact this) G.out).mono ?_
  rintro e w1 ⟨rfl, hb⟩
  obtain ⟨B1, X1, s1⟩ := box_below hb
  have K1 := hid B1
  have x0 := Has.cell X1 0
  simp at x0
  have HX1 := hid X1
  clear hb B1 X1
  go_wp2_with fail
  have hz0 : (madeCells #[Value.int .i64 0] n).toList = (List.replicate n (0 : Int)).map (Value.int .i64) := by rw [toList_madeCells_one]; simp
  have O1 := World.ownsRow_lit (e := 3) (size := 1) (base := w1.heap.size) w1 (madeCells #[Value.int .i64 0] n) n (Nat.le_refl _) (by unfold maxLen; omega) (by rw [size_madeCells, Nat.mul_one])
  rw [hz0] at O1
  have I1 := ints_of_own O1 (by intro z hz; simp at hz; rw [hz.2]; decide)
  have B2 : Hid (Below w.heap.size w ((w1.alloc (Obj.cells (madeCells #[Value.int .i64 0] n) 3)).alloc (Obj.cells #[Value.slice (some { block := w1.heap.size, off := 0 }) n n] 29))) := ((K1.out.alloc (by omega) _).alloc (by simp; omega) _)
  have I2 := I1.keep (w' := (w1.alloc (Obj.cells (madeCells #[Value.int .i64 0] n) 3)).alloc (Obj.cells #[Value.slice (some { block := w1.heap.size, off := 0 }) n n] 29)) (fun b hb => Below.heap_alloc _ _ _ hb.2)
  have CAP : Hid (Cap F (((w1.alloc (Obj.cells (madeCells #[Value.int .i64 0] n) 3)).alloc (Obj.cells #[Value.slice (some { block := w1.heap.size, off := 0 }) n n] 29)).heap.size) (w1.heap.size + 1) w.heap.size m (List.replicate n 0) (.slice (some { block := w1.heap.size, off := 0 }) n n) (.slice Ao n co) (.slice An m.next.length cn) ((w1.alloc (Obj.cells (madeCells #[Value.int .i64 0] n) 3)).alloc (Obj.cells #[Value.slice (some { block := w1.heap.size, off := 0 }) n n] 29))) :=
    ⟨Has.newAt _ _ (by simp), Has.alloc (Has.alloc HX1.out _) _, I2.more fun b hb => by have := hb.2; simp at this ⊢; omega, by
      have := HM.out.keep (Same.of_below B2.out HF.out); exact this⟩
  have FR : Hid (IntsIn .i64 (Fresh w ((w1.alloc (Obj.cells (madeCells #[Value.int .i64 0] n) 3)).alloc (Obj.cells #[Value.slice (some { block := w1.heap.size, off := 0 }) n n] 29))) ((w1.alloc (Obj.cells (madeCells #[Value.int .i64 0] n) 3)).alloc (Obj.cells #[Value.slice (some { block := w1.heap.size, off := 0 }) n n] 29)) (.slice (some { block := w1.heap.size, off := 0 }) n n) (List.replicate n 0)) := I2.more fun b hb => ⟨by have := hb.1; omega, by have := hb.2; simp at this ⊢; omega⟩
  have IV : Hid (Inv m (List.replicate n 0)) := by have := inv_zero m; rw [HN.out] at this; exact this
  clear hz0 O1 I1 I2
  obtain ⟨i0, hi0, hz0, hz1, hz2⟩ := info_parts infoInt
  go_loopg [] (n - fx m (List.replicate n 0)) (fun gk wr => ∃ c cv, Hid (Inv m c) ∧ Hid (n - fx m c ≤ gk) ∧ Hid (Cap F wr.heap.size (w1.heap.size + 1) w.heap.size m c cv (.slice Ao n co) (.slice An m.next.length cn) wr) ∧ Hid (Below w.heap.size w wr) ∧ Hid (IntsIn .i64 (Fresh w wr) wr cv c))
  case atStart => exact ⟨_, _, IV, Nat.le_refl _, CAP, B2, FR⟩
  case round =>
    obtain ⟨c, cv, hiv, hgk, hcap, hB, hfr⟩ := hrel
    obtain ⟨wo, rfl⟩ : ∃ wo : World, wo = wr := ⟨_, rfl⟩
    clear IV CAP B2 FR
    have hcl : c.length = n := by rw [hiv.out.len, HN.out]
    have HCL := hid hcl
    have hcv := hcap.out.cls
    have hbc := Has.lt hcap.out.box
    have hbm := Has.lt hcap.out.mac
    have q0 := Has.cell hcap.out.box 0
    simp at q0
    obtain ⟨Ac, cc, rfl, _, _, _⟩ := hcv
    rw [hcl] at q0
    have lB := hB.out.size
    clear hcl
    go_wp2_with fail
    go_loopw [7, 22] (fun nv t wi => ∃ j : Nat, j ≤ n ∧ t = .int .i64 j ∧ wi.ownsRow wo.heap.size 3 1 nv j ((nextTo m c j).map (Value.int .i64)) ∧ Hid (Below wo.heap.size wo wi)) (fun _ t _ => n - (intOf t).toNat)
    case atStart => exact ⟨0, Nat.zero_le _, rfl, World.ownsRow_nil _ _ _ _, Below.refl _ _⟩
    case round =>
      obtain ⟨j, hj, rfl, hown, hBi⟩ := hrel
      obtain ⟨wi, rfl⟩ : ∃ wi : World, wi = wr := ⟨_, rfl⟩
      clear q0
      have CI : Hid (Cap F wo.heap.size (w1.heap.size + 1) w.heap.size m c (.slice Ac c.length cc) (.slice Ao n co) (.slice An m.next.length cn) _) := hcap.out.below hBi.out hbc hbm (fun b hb => by have := HF.out b hb; omega)
      have lBi := hBi.out.size
      by_cases hlt : j < n
      · have HO := hid hown
        clear hown
        go_wp2_with fail
        go_loopw [9] (fun kv wk => ∃ k : Nat, k ≤ j ∧ kv = .int .i64 k ∧ Hid (∀ k', k' < k → markL m c k' ≠ markL m c j) ∧ Hid (Below wi.heap.size wi wk)) (fun kv _ => j + 1 - (intOf kv).toNat)
        case atStart => exact ⟨0, Nat.zero_le _, rfl, fun k hk => by omega, Below.refl _ _⟩
        case round =>
          obtain ⟨k, hk, rfl, hold, hBk⟩ := hrel
          obtain ⟨wk, rfl⟩ : ∃ wk : World, wk = wr := ⟨_, rfl⟩
          have lBk := hBk.out.size
          have CK : Hid (Cap F wo.heap.size (w1.heap.size + 1) w.heap.size m c (.slice Ac c.length cc) (.slice Ao n co) (.slice An m.next.length cn) _) := CI.out.below (hBk.out.mono lBi) hbc hbm (fun b hb => by have := HF.out b hb; omega)
          have hFB : Hid (∀ b, F b → b < wo.heap.size) := fun b hb => by have := HF.out b hb; omega
          have WFc : Hid (∀ z ∈ c, (Lit.int .i64 z).wf = true) := by obtain ⟨_, _, _, _, h, _⟩ := hcap.out.cls; exact h
          have WFm : Hid (∀ i, i < m.out.length → ∀ z ∈ rowAt m.out i, (Lit.int .i64 z).wf = true) := HM.out.wf
          go_wp2_with fail
          refine (mark_cap CK.out (by omega) hFB.out G.out (by rw [HCL.out, HN.out]) (i := k) (by rw [HN.out]; omega)).mono ?_
          rintro e w2 ⟨r1, rfl, o2, b2⟩
          have C2 : Hid (Cap F wo.heap.size (w1.heap.size + 1) w.heap.size m c (.slice Ac c.length cc) (.slice Ao n co) (.slice An m.next.length cn) w2) := CK.out.below (b2.mono (by omega)) hbc hbm hFB.out
          have l2 := b2.size
          have K2 : Hid (Below wi.heap.size wi w2) := hBk.out.trans (b2.mono (by omega))
          have O2 := hid o2
          clear o2 b2
          go_wp2_with fail
          refine (mark_cap C2.out (by omega) hFB.out G.out (by rw [HCL.out, HN.out]) (i := j) (by rw [HN.out]; exact hlt)).mono ?_
          rintro e w3 ⟨r2, rfl, o3, b3⟩
          have l3 := b3.size
          have K3 : Hid (Below wi.heap.size wi w3) := K2.out.trans (b3.mono (by omega))
          have O2' := hid (ints_of_own (own_below O2.out b3) (mark_wf G.out (by rw [HCL.out, HN.out]) (by rw [HN.out]; omega) WFc.out (WFm.out _ (by rw [HN.out]; omega))))
          have O3 := hid (ints_of_own o3 (mark_wf G.out (by rw [HCL.out, HN.out]) (by rw [HN.out]; exact hlt) WFc.out (WFm.out _ (by rw [HN.out]; exact hlt))))
          clear o3 b3 O2
          go_wp2_with fail
          refine (equal_any _ _ (fun b => b < w3.heap.size) _ _ _ (O2'.out.more fun b hb => hb.2) (O3.out.more fun b hb => hb.2)).mono ?_
          rintro e w4 ⟨rfl, q, rfl⟩
          by_cases hmk : markL m c k = markL m c j
          · have D : decide (markL m c k = markL m c j) = true := by simp [hmk]
            have NX : Hid (nx m c j = k) := nx_at hk hmk hold.out
            rw [D]
            have own3 : w3.ownsRow wo.heap.size 3 1 u7 j ((nextTo m c j).map (Value.int .i64)) := own_below HO.out K3.out
            clear hmk D
            go_wp2_with (at_builtin; refine wpList_append_own _ rfl _ _ 29 rfl wo.heap.size 3 i0 (.int .i64 0) 1 8 Tryd.underlying29 hi0 hz0 hz1 hz2 rfl (by decide) _ _ _ rfl ((own_keep own3 (fun _ _ => rfl) : (w3.drewN q).ownsRow _ _ _ _ _ _).alloc _) ⟨w3.heap.size, 0, none⟩ 1 1 [.int .i64 k] rfl rfl (one_at _ _ _) (one_int _ _) (by unfold maxLen; omega) (by omega) (by simp; omega) ?_; intro v' w5 hown5 hgrow _; have B5 : Below wo.heap.size wo w5 := ((below_drewN (hBi.out.trans (K3.out.mono lBi)) q).alloc (by simp; omega) _).grown hgrow (by simp; omega) (own_ge own3))
            go_roundw
            case rel => exact ⟨j + 1, by omega, by go_num, by rw [nextTo_succ, NX.out, List.map_append]; exact hown5, B5⟩
            case measure => simp [intOf]; omega
          · have D : decide (markL m c k = markL m c j) = false := by simp [hmk]
            rw [D]
            have hkj : k < j := by
              rcases Nat.lt_or_ge k j with h | h
              · exact h
              · have : k = j := by omega
                subst this; exact absurd rfl hmk
            have N2 : Hid (∀ k', k' < k + 1 → markL m c k' ≠ markL m c j) := fun k' hk' => by
              by_cases h : k' = k
              · subst h; exact hmk
              · exact hold.out k' (by omega)
            clear hmk D
            go_wp2_with fail
            go_roundw
            case rel => exact ⟨k + 1, by omega, by go_num, N2, below_drewN K3.out q⟩
            case measure => simp [intOf]; omega
      · obtain rfl : j = n := by omega
        have E1 : nextTo m c j = nextL m c := by unfold nextTo nextL; rw [HN.out]
        have NI := hid (ints_of_own (zs := nextL m c) (by rw [← E1]; exact hown) (nextL_wf (by rw [HN.out]; exact g2)))
        have p0 := Has.cell CI.out.box 0
        simp at p0
        rw [HCL.out] at p0
        have CV := hid CI.out.cls
        have lbc : w1.heap.size + 1 < wi.heap.size := by omega
        have fbc := Has.froz CI.out.box 0
        clear hown E1
        go_wp2_with fail
        have CV2 := CV.out
        rw [HCL.out] at CV2
        refine (equal_any (nextL m c) c (fun b => b < wi.heap.size) _ _ _ (NI.out.more fun b hb => hb.2) (CV2.more fun b hb => by omega)).mono ?_
        clear CV2
        rintro e w2 ⟨rfl, q, rfl⟩
        by_cases hst : nextL m c = c
        · have D : decide (nextL m c = c) = true := by simp [hst]
          rw [D]
          have CO := hid (class_of_stable G.out hiv.out hst)
          have FR := hid ((hfr.out.keep (Same.of_below hBi.out fun b hb => hb.2)).more (F' := Fresh w wi) fun b hb => ⟨hb.1, by have := hb.2; omega⟩)
          have BB : Hid (Below w.heap.size w wi) := hB.out.trans (hBi.out.mono lB)
          clear hst D
          go_wp2_with fail
          go_ret2
          exact ⟨_, c, rfl, CO.out, by have := FR.out.keep (w' := wi.drewN q) (fun _ _ => rfl); rw [HCL.out] at this; exact this, below_drewN BB.out q⟩
        · have D : decide (nextL m c = c) = false := by simp [hst]
          rw [D]
          have LT := hid (fx_lt hiv.out hst)
          have LE := hid (fx_le m (nextL m c))
          have IV2 := hid (inv_next G.out hiv.out)
          obtain ⟨An2, cn2, e9, _, _⟩ := NI.out
          have NL : Hid ((nextL m c).length = j) := by show _ = _; rw [IV2.out.len, HN.out]
          rw [NL.out] at e9
          subst e9
          clear hst D
          go_wp2_with fail
          go_roundg (j - fx m (nextL m c))
          case measure => have a := LT.out; have b := LE.out; have c := HN.out; have d := hgk.out; rw [c] at b; omega
          case rel =>
            have SM : ∀ b, b ≠ w1.heap.size + 1 → ((wi.drewN q).setCell ⟨w1.heap.size + 1, 0, none⟩ (.slice An2 j cn2)).heap[b]? = wi.heap[b]? := fun b hb => (Below.heap_setCell (wi.drewN q) _ _ b hb).trans rfl
            have hsz : ((wi.drewN q).setCell ⟨w1.heap.size + 1, 0, none⟩ (.slice An2 j cn2)).heap.size = wi.heap.size := by simp
            have NN := NI.out
            refine ⟨nextL m c, .slice An2 j cn2, IV2, Nat.le_refl _, ⟨?_, ?_, ?_, ?_⟩, ?_, ?_⟩
            · have := Has.set (w := wi.drewN q) (show (wi.drewN q).heap[w1.heap.size + 1]? = _ from CI.out.box) 0 (.slice An2 j cn2)
              simpa using this
            · exact (SM _ (by omega)).trans CI.out.mac
            · exact (NN.keep fun b hb => SM b (by omega)).more fun b hb => by rw [hsz]; exact hb.2
            · exact CI.out.mch.keep fun b hb => SM b (by have := HF.out b hb; omega)
            · exact (below_drewN (hB.out.trans (hBi.out.mono lB)) q).setCell (by simp; omega) _
            · exact (NN.keep fun b hb => SM b (by omega)).more fun b hb => ⟨by omega, by rw [hsz]; exact hb.2⟩
end Go.Proofs.YtkcggmhllijgcaaDoor
