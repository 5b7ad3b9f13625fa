/- The search of suite.Least, walked. No conditions but those of its call. -/
import Derived.Test.YtfkklhmamhcbhaaDoorStl
namespace Go.Proofs.YtfkklhmamhcbhaaDoor
open Go.RowKit Go.Deep
def LookPost (ts : List Nat) (tv : Value) (bb bt bl B : Nat) (R : Nat → Prop) (w : World) (v : Value) (t : List Nat) (b : Option (List Nat)) (e : Ending) (w' : World) : Prop :=
  e = .returned (.tuple #[]) ∧ LMem ts tv bb bt bl B R w' b ∧ LFr bb v.ownBlock w w' ∧ w'.ownsRow B 3 1 v t.length (intsV t)
set_option maxRecDepth 100000 in
set_option maxHeartbeats 4000000 in
theorem look_any (ts : List Nat) (tv : Value) (bb bt bl B : Nat) (hC : LC bb bt bl B) (h12 : ts.length ≤ 12) (hts : ∀ s ∈ ts, s < 4294967296) : ∀ (f i o : Nat) (t : List Nat) (b : Option (List Nat)) (R : Nat → Prop) (v : Value) (w : World), f + i = ts.length → o < 4294967296 → t.length ≤ i → (∀ k, v.ownBlock = some k → R k) → (∀ k, R k → B ≤ k ∧ k < w.heap.size) → B ≤ w.heap.size → LMem ts tv bb bt bl B R w b → w.ownsRow B 3 1 v t.length (intsV t) →
    Calls Tryd.prog 15 #[.int .i64 (i : Int), .int .u32 (o : Int), v, .pointer (some ⟨bb, 0, none⟩), .pointer (some ⟨bt, 0, none⟩), .pointer (some ⟨bl, 0, none⟩)] w (LookPost ts tv bb bt bl B R w v t (lookF ts f i o t b)) := by
  intro f
  induction f using Nat.strongRecOn with
  | _ f ih =>
  intro i o t b R v w hf ho hti hvR hRB hBw hM hv
  have IH : Hid (∀ m, m < f → ∀ (i o : Nat) (t : List Nat) (b : Option (List Nat)) (R : Nat → Prop) (v : Value) (w : World), m + i = ts.length → o < 4294967296 → t.length ≤ i → (∀ k, v.ownBlock = some k → R k) → (∀ k, R k → B ≤ k ∧ k < w.heap.size) → B ≤ w.heap.size → LMem ts tv bb bt bl B R w b → w.ownsRow B 3 1 v t.length (intsV t) →
    Calls Tryd.prog 15 #[.int .i64 (i : Int), .int .u32 (o : Int), v, .pointer (some ⟨bb, 0, none⟩), .pointer (some ⟨bt, 0, none⟩), .pointer (some ⟨bl, 0, none⟩)] w (LookPost ts tv bb bt bl B R w v t (lookF ts m i o t b))) := ih
  clear ih
  obtain ⟨At, cT, htv, ⟨hT1, hT2⟩, _, _⟩ := hM.ints
  subst htv
  rw [ofN_len] at hT1 hM IH ⊢
  obtain ⟨bv, X1, V1⟩ := hM.best
  obtain ⟨Ab, nb, cb, rfl, hnil, hnb, hnc, cbm⟩ := V1.sl
  obtain ⟨Av, cv, rfl, hvc, hvm⟩ := own_sl hv
  unfold maxLen at cbm hT2
  have c1 := (Has.cell X1 0).trans rfl
  have f1 := Has.froz X1 0
  have cf := (Has.cell hM.look 0).trans rfl
  have ct := (Has.cell hM.tst 0).trans rfl
  have eqn := fun w => Lib.run_eql_slice_nil (P := Tryd.prog) w 23 3 Ab nb cb 0 0 Tryd.underlying23
  obtain ⟨i0, hi, hz0, hz1, hz2⟩ := info_parts infoInt
  have HM := hid hM
  have HV := hid hv
  have HvR := hid hvR
  have HRB := hid hRB
  have HX1 := hid X1
  have HTS := hid hts
  have HC := hid hC
  have HB := hid hBw
  have HF := hid hf
  have bbw : bb < w.heap.size := cell_lt c1
  clear hM hv hvR hRB X1 hts hC hBw V1 hf
  by_cases h0 : o = 0
  · subst h0
    have HL : Hid (lookF ts f i 0 t b = updF t b) := if_pos rfl
    rw [HL.out]
    have hcase : (Ab = none ∧ nb = 0 ∧ updF t b = some t) ∨ ∃ a, Ab = some a ∧ (((t.length : Int) < (nb : Int) ∧ updF t b = some t) ∨ (¬ (t.length : Int) < (nb : Int) ∧ updF t b = b)) := by
      cases b with
      | none =>
        refine .inl ⟨?_, by simpa using hnb, rfl⟩
        cases Ab with
        | none => rfl
        | some a => simp at hnil
      | some l =>
        cases Ab with
        | none => simp at hnil
        | some a =>
          simp at hnb
          refine .inr ⟨a, rfl, ?_⟩
          unfold updF
          simp only []
          by_cases h : t.length < l.length
          · exact .inl ⟨by omega, if_pos h⟩
          · exact .inr ⟨by omega, if_neg h⟩
    clear hnil hnb HL
    have O0 := hid (World.ownsRow_lit (e := 3) (size := 1) (base := w.heap.size) w #[] 0 (Nat.le_refl _) (by unfold maxLen; omega) rfl)
    have C0 : Hid (CellsIn (fun _ => True) (w.alloc (Obj.cells #[] 3)) 1 (.slice Av t.length cv) t.length (intsV t)) := by
      show CellsIn _ _ _ _ _ _
      refine ⟨Av, cv, rfl, by rw [intsV_len]; omega, fun hn => ?_⟩
      obtain ⟨g, c, e, _, hg, _, _, hc⟩ := own_open (HV.out.alloc (Obj.cells #[] 3)) hn
      injection e with e
      exact ⟨g, 0, e, trivial, fun j u hj => by
        rw [Nat.zero_add, hc j ?_]
        · exact hj
        · rcases Nat.lt_or_ge j (intsV t).length with h | h
          · rw [intsV_len] at h; omega
          · rw [List.getElem?_eq_none h] at hj; cases hj⟩
    have i12 : i ≤ 12 := by have := HF.out; omega
    rcases hcase with ⟨rfl, rfl, hU⟩ | ⟨a, rfl, ⟨hlt, hU⟩ | ⟨hlt, hU⟩⟩
    case' inr.inr =>
      rw [hU]
      clear hU
      simp at eqn
      go_enter Tryd.func15, Tryd.ntmps15
      go_wp2_with fail
      go_end0
      exact ⟨rfl, HM.out, LFr.refl _ _ _, HV.out⟩
    all_goals
      rw [hU]
      clear hU
      simp at eqn
      go_enter Tryd.func15, Tryd.ntmps15
      go_wp2_with (at_builtin; refine wpList_app _ rfl (.tmp 22) (.tmp 23) 23 rfl w.heap.size 3 i0 (.int .i64 0) 1 8 Tryd.underlying23 hi hz0 hz1 hz2 rfl (by decide) _ 0 [] rfl O0.out _ _ t.length _ rfl C0.out (ints_one _ _) (by unfold maxLen; omega) (by omega) (by simp) ?_; intro v2 w2 hown hgrow hat; have LG := hid (lit_grown hgrow); have X2 := (LG.out.2.1 bb bbw).trans HX1.out; have OW : Hid (w2.ownsRow w.heap.size 3 1 v2 t.length (intsV t)) := (by show World.ownsRow _ _ _ _ _ _ _; simpa using hown); have NN := hid (own_there OW.out hat); obtain ⟨g, cg, rfl, hgw⟩ := NN.out; have cb2 := (Has.cell X2 0).trans rfl; have fb2 := Has.froz X2 0; have XH := hid X2; clear hown hgrow hat X2 c1 f1)
      go_end0
      have BBg : Hid (bb ≠ g) := by show _ ≠ _; omega
      have OLDB : Hid (∀ k, k < w.heap.size → k ≠ bb → (w2.setCell ⟨bb, 0, none⟩ (.slice (some ⟨g, 0, none⟩) t.length cg)).heap[k]? = w.heap[k]?) := fun k hk hn => (Below.heap_setCell _ ⟨bb, 0, none⟩ _ k hn).trans (LG.out.2.1 k hk)
      refine ⟨rfl, ⟨⟨_, (Has.set XH.out 0 _).trans rfl, g, cg, rfl, fun h => by have := (HRB.out g h).2; omega, ?_⟩, ?_, ?_, ?_⟩, ?_, ?_⟩
      · exact own_lo (own_keep OW.out fun k hk => by
          simp [Value.ownBlock] at hk
          subst hk
          exact Below.heap_setCell _ ⟨bb, 0, none⟩ _ _ (fun e => BBg.out e.symm)) HB.out
      · exact (OLDB.out bt (Nat.lt_of_lt_of_le HC.out.t HB.out) HC.out.tb).trans HM.out.tst
      · exact (OLDB.out bl (Nat.lt_of_lt_of_le HC.out.l HB.out) HC.out.lb).trans HM.out.look
      · exact HM.out.ints.keep fun k hk => OLDB.out k (Nat.lt_of_lt_of_le hk.1 HB.out) hk.2
      · exact ⟨(LG.out.2.2 bb).os, (LG.out.2.2 bb).tape, (LG.out.2.2 bb).output, by have := LG.out.1; simpa using this, fun k hk hn _ => OLDB.out k hk hn⟩
      · exact own_keep HV.out fun k hk => OLDB.out k (own_lt HV.out k hk) (fun e => by have := (HRB.out k (HvR.out k hk)).1; have := HC.out.b; omega)
  · have HL : Hid (lookF ts f i o t b = if roomF t b then loopF ts f i o t b else b) := if_neg h0
    have o1 : ((o : Int) == 0) = false := by rw [beq_eq_false_iff_ne]; omega
    have i12 : i ≤ 12 := by have := HF.out; omega
    by_cases hr : roomF t b = true
    · have HL2 : Hid (lookF ts f i o t b = loopF ts f i o t b) := by show _ = _; rw [HL.out, if_pos hr]
      have hcase : (Ab = none ∧ nb = 0) ∨ ∃ a, Ab = some a ∧ (t.length : Int) + 1 < (nb : Int) := by
        cases b with
        | none =>
          refine .inl ⟨?_, by simpa using hnb⟩
          cases Ab with
          | none => rfl
          | some a => simp at hnil
        | some l =>
          cases Ab with
          | none => simp at hnil
          | some a =>
            unfold roomF at hr
            simp at hr hnb
            exact .inr ⟨a, rfl, by omega⟩
      clear hr hnil hnb HL
      rw [HL2.out]
      rcases hcase with ⟨rfl, rfl⟩ | ⟨a, rfl, hlt⟩
      case' inl =>
        simp at eqn
        go_enter Tryd.func15, Tryd.ntmps15
        go_wp2_with fail
      case' inr =>
        simp at eqn
        go_enter Tryd.func15, Tryd.ntmps15
        go_wp2_with fail
      all_goals
        clear c1 f1 cf ct eqn
        go_loopw [9] (fun iv wr => ∃ (j : Nat) (b' : Option (List Nat)), i ≤ j ∧ j ≤ ts.length ∧ iv = .int .i64 j ∧ Hid (LMem ts (.slice At ts.length cT) bb bt bl B R wr b') ∧ Hid (LFr bb (Value.ownBlock (.slice Av t.length cv)) w wr) ∧ Hid (wr.ownsRow B 3 1 (.slice Av t.length cv) t.length (intsV t)) ∧ Hid (loopF ts (ts.length - j) j o t b' = loopF ts f i o t b)) (fun iv _ => ts.length - (intOf iv).toNat)
        case atStart => exact ⟨i, b, Nat.le_refl _, by have := HF.out; omega, rfl, HM, LFr.refl _ _ _, HV, by show _ = _; rw [show ts.length - i = f by have := HF.out; omega]⟩
        case round =>
          obtain ⟨j, b', hij, hjn, rfl, hM, hFr, hv, hR⟩ := hrel
          have ct := (Has.cell hM.out.tst 0).trans rfl
          have szw := hFr.out.size
          by_cases hjt : j < ts.length
          · obtain ⟨q, oq, rfl, hqF, hqc⟩ := nat_cell hM.out.ints hjt
            have s32 := HTS.out _ (getD_mem hjt)
            have cf := (Has.cell hM.out.look 0).trans rfl
            have i3 : (j : Int) < (ts.length : Int) := by omega
            have HR2 : Hid (loopF ts (ts.length - j) j o t b' = loopF ts (ts.length - (j + 1)) (j + 1) o t (lookF ts (ts.length - (j + 1)) (j + 1) (minusN o (ts.getD j 0)) (t ++ [j]) b')) := by
              show _ = _
              rw [show ts.length - j = ts.length - (j + 1) + 1 by omega, loopF_succ]
            generalize ts.getD j 0 = s at hqc s32 HR2
            have eN := u32_andNot_nat o s ho s32
            have HQ : Hid (minusN o s = o &&& (4294967295 - s)) := rfl
            have HQ2 : Hid (minusN o s < 4294967296) := minusN_lt ho
            generalize o &&& (4294967295 - s) = m at eN HQ
            go_upto_region 7 with fail
            have HRw : Hid (∀ k, R k → B ≤ k ∧ k < wr.heap.size) := fun k hk => ⟨(HRB.out k hk).1, Nat.lt_of_lt_of_le (HRB.out k hk).2 szw⟩
            have KEEP : Hid (∀ w2 : World, (∀ k, k < B → w2.heap[k]? = wr.heap[k]?) → (fun w' => w'.cell? ⟨bl, 0, none⟩ = some (.func (Fn.func 15) #[] #[.pointer (some ⟨bb, 0, none⟩), .pointer (some ⟨bt, 0, none⟩), .pointer (some ⟨bl, 0, none⟩)]) ∧ w'.cell? ⟨bt, 0, none⟩ = some (.slice (some ⟨q, oq, none⟩) ts.length cT) ∧ w'.cell? ⟨q, oq + j, none⟩ = some (.int .u32 (s : Int))) w2) := fun w2 h =>
              ⟨(World.cell?_of_block (a := ⟨bl, 0, none⟩) (h bl HC.out.l)).trans cf, (World.cell?_of_block (a := ⟨bt, 0, none⟩) (h bt HC.out.t)).trans ct, (World.cell?_of_block (a := ⟨q, oq + j, none⟩) (h q hqF.1)).trans hqc⟩
            have BW : Hid (B ≤ wr.heap.size) := Nat.le_trans HB.out szw
            refine wp_region_l (S := (fun w' => w'.cell? ⟨bl, 0, none⟩ = some (.func (Fn.func 15) #[] #[.pointer (some ⟨bb, 0, none⟩), .pointer (some ⟨bt, 0, none⟩), .pointer (some ⟨bl, 0, none⟩)]) ∧ w'.cell? ⟨bt, 0, none⟩ = some (.slice (some ⟨q, oq, none⟩) ts.length cT) ∧ w'.cell? ⟨q, oq + j, none⟩ = some (.int .u32 (s : Int)))) (Ls := [13]) (by kernel_rfl) ⟨cf, ct, hqc⟩ (fun hHeld => ?_)
            obtain ⟨wz, hwz⟩ : ∃ wz, wz = wr.drew := ⟨_, rfl⟩
            have Z0 : Hid (wr.grownBy wz none) := by show World.grownBy _ _ _; rw [hwz]; exact grownDrew _ _
            have MZ : Hid (LMem ts (.slice (some ⟨q, oq, none⟩) ts.length cT) bb bt bl B R wz b') := hM.out.grown HC.out Z0.out (fun k h => (by simp at h))
            have VZ : Hid (wz.ownsRow B 3 1 (.slice Av t.length cv) t.length (intsV t)) := by show World.ownsRow _ _ _ _ _ _ _; rw [hwz]; exact own_keep hv.out fun _ _ => rfl
            have zs : wz.heap.size = wr.heap.size := by rw [hwz]; rfl
            have ZS := hid zs
            rw [← hwz] at hHeld ⊢
            clear hwz zs
            refine takeL [13] (i := 0) (d := 43) (oi := _) (v := ?_) rfl rfl (by kernel_rfl) (by kernel_rfl) (by kernel_rfl) (by kernel_rfl) (by kernel_rfl) (fun _ _ _ h => h) (Or.inl ⟨by rfl, ?_⟩) (by assumption) ?_
            rotate_left
            · intro wz hSw; (try dsimp only at hSw); go_simp; (try with_reducible rfl)
            try simp only [Act.put, List.setIfInBounds_toArray, List.set_cons_zero, List.set_cons_succ]
            refine takeL [2, 13] (i := 1) (d := 44) (oi := _) (v := ?_) rfl rfl (by kernel_rfl) (by kernel_rfl) (by kernel_rfl) (by kernel_rfl) (by kernel_rfl) (fun _ _ _ h => h) (Or.inl ⟨by rfl, ?_⟩) (by assumption) ?_
            rotate_left
            · intro wz hSw; (try dsimp only at hSw); go_simp; (try with_reducible rfl)
            try simp only [Act.put, List.setIfInBounds_toArray, List.set_cons_zero, List.set_cons_succ]
            refine takeL [13] (i := 2) (d := 45) (oi := _) (v := ?_) rfl rfl (by kernel_rfl) (by kernel_rfl) (by kernel_rfl) (by kernel_rfl) (by kernel_rfl) (fun _ _ _ h => h) (Or.inl ⟨by rfl, ?_⟩) (by assumption) ?_
            rotate_left
            · intro wz hSw; (try dsimp only at hSw); go_simp; (try with_reducible rfl)
            try simp only [Act.put, List.setIfInBounds_toArray, List.set_cons_zero, List.set_cons_succ]
            refine takeL [8, 13] (i := 3) (d := 46) (oi := _) (v := ?_) rfl rfl (by kernel_rfl) (by kernel_rfl) (by kernel_rfl) (by kernel_rfl) (by kernel_rfl) (fun _ _ _ h => h) (Or.inl ⟨by rfl, ?_⟩) (by assumption) ?_
            rotate_left
            · intro wz hSw; (try dsimp only at hSw); go_simp; (try with_reducible rfl)
            try simp only [Act.put, List.setIfInBounds_toArray, List.set_cons_zero, List.set_cons_succ]
            refine takeL [6, 7, 8, 13] (i := 4) (d := 47) (oi := _) (v := ?_) rfl rfl (by kernel_rfl) (by kernel_rfl) (by kernel_rfl) (by kernel_rfl) (by kernel_rfl) (fun _ _ _ h => h) (Or.inl ⟨by rfl, ?_⟩) (by assumption) ?_
            rotate_left
            · intro wz hSw; (try dsimp only at hSw); go_simp; (try with_reducible rfl)
            try simp only [Act.put, List.setIfInBounds_toArray, List.set_cons_zero, List.set_cons_succ]
            refine takeL [6, 7, 8, 13] (i := 5) (d := 48) (oi := _) (v := ?_) rfl rfl (by kernel_rfl) (by kernel_rfl) (by kernel_rfl) (by kernel_rfl) (by kernel_rfl) (fun _ _ _ h => h) (Or.inl ⟨by rfl, ?_⟩) (by assumption) ?_
            rotate_left
            · intro wz hSw; (try dsimp only at hSw); go_simp; (try with_reducible rfl)
            try simp only [Act.put, List.setIfInBounds_toArray, List.set_cons_zero, List.set_cons_succ]
            refine takeL [7, 8, 13] (i := 6) (d := 49) (oi := _) (v := ?_) rfl rfl (by kernel_rfl) (by kernel_rfl) (by kernel_rfl) (by kernel_rfl) (by kernel_rfl) (fun _ _ _ h => h) (Or.inl ⟨by rfl, ?_⟩) (by assumption) ?_
            rotate_left
            · intro wz hSw; (try dsimp only at hSw); go_simp; (try with_reducible rfl)
            try simp only [Act.put, List.setIfInBounds_toArray, List.set_cons_zero, List.set_cons_succ]
            refine takeL [8, 13] (i := 7) (d := 50) (oi := _) (v := ?_) rfl rfl (by kernel_rfl) (by kernel_rfl) (by kernel_rfl) (by kernel_rfl) (by kernel_rfl) (fun _ _ _ h => h) (Or.inl ⟨by rfl, ?_⟩) (by assumption) ?_
            rotate_left
            · intro wz hSw; (try dsimp only at hSw); go_simp; (try with_reducible rfl)
            try simp only [Act.put, List.setIfInBounds_toArray, List.set_cons_zero, List.set_cons_succ]
            refine takeL [13] (i := 8) (d := 51) (oi := _) (v := ?_) rfl rfl (by kernel_rfl) (by kernel_rfl) (by kernel_rfl) (by kernel_rfl) (by kernel_rfl) (fun _ _ _ h => h) (Or.inl ⟨by rfl, ?_⟩) (by assumption) ?_
            rotate_left
            · intro wz hSw; (try dsimp only at hSw); go_simp; (try with_reducible rfl)
            try simp only [Act.put, List.setIfInBounds_toArray, List.set_cons_zero, List.set_cons_succ]
            refine takeL [12, 13] (i := 9) (d := 52) (oi := _) (v := ?_) rfl rfl (by kernel_rfl) (by kernel_rfl) (by kernel_rfl) (by kernel_rfl) (by kernel_rfl) (fun _ _ _ h => h) (Or.inl ⟨by rfl, ?_⟩) (by assumption) ?_
            rotate_left
            · intro wz hSw; (try dsimp only at hSw); go_simp; (try with_reducible rfl)
            try simp only [Act.put, List.setIfInBounds_toArray, List.set_cons_zero, List.set_cons_succ]
            refine takeL [11, 12, 13] (i := 10) (d := 53) (oi := _) (v := ?_) rfl rfl (by kernel_rfl) (by kernel_rfl) (by kernel_rfl) (by kernel_rfl) (by kernel_rfl) (fun _ _ _ h => h) (Or.inl ⟨by rfl, ?_⟩) (by assumption) ?_
            rotate_left
            · intro wz hSw; (try dsimp only at hSw); go_simp; (try with_reducible rfl)
            try simp only [Act.put, List.setIfInBounds_toArray, List.set_cons_zero, List.set_cons_succ]
            refine nxtL (i := 11) (o := _) (by kernel_rfl) rfl (fun K' hK => ?_)
            go_simp
            obtain ⟨g1, hg1⟩ : ∃ g, g = wz.heap.size := ⟨_, rfl⟩
            obtain ⟨y0, hy0⟩ : ∃ y, y = (wz.alloc (.cells #[.int .i64 (j : Int)] 3)) := ⟨_, rfl⟩
            have Y0 : Hid (wr.grownBy y0 none) := by show World.grownBy _ _ _; rw [hy0]; exact Z0.out.trans (World.grownBy_alloc wz _ none)
            have M0 : Hid (LMem ts (.slice (some ⟨q, oq, none⟩) ts.length cT) bb bt bl B R y0 b') := hM.out.grown HC.out Y0.out (fun k h => (by simp at h))
            have V0 : Hid (y0.ownsRow B 3 1 (.slice Av t.length cv) t.length (intsV t)) := by show World.ownsRow _ _ _ _ _ _ _; rw [hy0]; exact VZ.out.alloc _
            have L0 : Hid (y0.heap[g1]? = some (.cells #[.int .i64 (j : Int)] 3 (0, 0))) := by show _ = _; rw [hy0, hg1]; exact Has.new _ _
            have S0 : Hid (wr.heap.size ≤ y0.heap.size) := Y0.out.size
            have hHeld : (fun w' => w'.cell? ⟨bl, 0, none⟩ = some (.func (Fn.func 15) #[] #[.pointer (some ⟨bb, 0, none⟩), .pointer (some ⟨bt, 0, none⟩), .pointer (some ⟨bl, 0, none⟩)]) ∧ w'.cell? ⟨bt, 0, none⟩ = some (.slice (some ⟨q, oq, none⟩) ts.length cT) ∧ w'.cell? ⟨q, oq + j, none⟩ = some (.int .u32 (s : Int))) y0 := KEEP.out _ fun k hk => Y0.out.block k (Nat.lt_of_lt_of_le hk BW.out) (by simp)
            (try rw [← hg1])
            (try rw [← hy0])
            refine hK.out _ _ (Or.inl hHeld) ?_
            clear hK K' hg1 hy0
            try simp only [Act.put, List.setIfInBounds_toArray, List.set_cons_zero, List.set_cons_succ]
            refine nxtL (i := 12) (o := _) (by kernel_rfl) rfl (fun K' hK => ?_)
            refine step_app1 (by rfl) (.tmp 52) (.tmp 54) 23 (by rfl) B 3 i0 (.int .i64 0) 8 Tryd.underlying23 hi hz0 hz1 hz2 rfl (.slice Av t.length cv) t.length (intsV t) (by simp [Act.eval]) V0.out ⟨g1, 0, none⟩ 1 (.int .i64 (j : Int)) (by simp [Act.eval]) ((Has.cell L0.out 0).trans rfl) rfl (by unfold maxLen; omega) (by omega) (by have := S0.out; have := BW.out; omega) ?_
            intro v1 y1 hown hgrow hold hat
            have S1 : Hid (y0.heap.size ≤ y1.heap.size) := hgrow.size
            have RV : Hid (∀ k, Value.ownBlock (.slice Av t.length cv) = some k → R k ∧ B ≤ k ∧ k < wr.heap.size) := fun k hk => ⟨HvR.out k hk, HRw.out k (HvR.out k hk)⟩
            have Y1 : Hid (∀ k, k < wr.heap.size → some k ≠ Value.ownBlock (.slice Av t.length cv) → y1.heap[k]? = wr.heap[k]?) := fun k hk hn => (hgrow.block k (Nat.lt_of_lt_of_le hk S0.out) hn).trans (Y0.out.block k hk (by simp))
            have F1 : Hid (LFr bb (Value.ownBlock (.slice Av t.length cv)) w y1) := (hFr.out.trans (LFr.of_grown Y0.out) (fun q h => by simp at h)).trans (LFr.of_grown hgrow) (fun q h => .inl h)
            have M1 : Hid (LMem ts (.slice (some ⟨q, oq, none⟩) ts.length cT) bb bt bl B (fun k => R k ∨ v1.ownBlock = some k) y1 b') := (M0.out.more (R' := fun k => R k ∨ v1.ownBlock = some k) (fun k hk => by
              rcases hk with h | h
              · exact .inl h
              · rcases hat with e | e
                · exact .inl (HvR.out k (e ▸ h))
                · rw [e] at h; injection h with h; exact .inr (Nat.le_of_eq h))).grown HC.out hgrow (fun k hk => ⟨.inl (HvR.out k hk), (HRB.out k (HvR.out k hk)).1⟩)
            have R1B : Hid (∀ k, (R k ∨ v1.ownBlock = some k) → B ≤ k ∧ k < y1.heap.size) := fun k hk => by
              rcases hk with h | h
              · have := HRw.out k h; have := S0.out; have := S1.out; omega
              · exact ⟨own_ge hown k h, own_lt hown k h⟩
            have B1 : Hid (B ≤ y1.heap.size) := Nat.le_trans BW.out (Nat.le_trans S0.out S1.out)
            have N1 : Hid (y1.ownsRow B 3 1 v1 (t ++ [j]).length (intsV (t ++ [j]))) := by
              show World.ownsRow _ _ _ _ _ _ _
              rw [intsV_snoc] at hown
              rw [List.length_append]; exact hown
            have HAT : Hid (v1.ownBlock = Value.ownBlock (.slice Av t.length cv) ∨ v1.ownBlock = some y0.heap.size) := hat
            have OLD : Hid (y1.ownsRow B 3 1 (.slice Av t.length cv) t.length (intsV t)) := hold
            have HNW : Hid (y1.ownsRow B 3 1 v1 (t.length + 1) (intsV t ++ [.int .i64 (j : Int)])) := hown
            obtain ⟨Z1, z1, rfl, _, _⟩ := own_sl hown
            have hHeld : (fun w' => w'.cell? ⟨bl, 0, none⟩ = some (.func (Fn.func 15) #[] #[.pointer (some ⟨bb, 0, none⟩), .pointer (some ⟨bt, 0, none⟩), .pointer (some ⟨bl, 0, none⟩)]) ∧ w'.cell? ⟨bt, 0, none⟩ = some (.slice (some ⟨q, oq, none⟩) ts.length cT) ∧ w'.cell? ⟨q, oq + j, none⟩ = some (.int .u32 (s : Int))) y1 := KEEP.out _ fun k hk => Y1.out k (Nat.lt_of_lt_of_le hk BW.out) (fun e => by have := RV.out k e.symm; omega)
            clear hown hgrow hold hat
            refine hK.out _ _ (Or.inl hHeld) ?_
            clear hK K'
            try simp only [Act.put, List.setIfInBounds_toArray]
            refine nxtL (i := 13) (o := _) (by kernel_rfl) rfl (fun K' hK => ?_)
            go_simp
            have CALL := IH.out (ts.length - (j + 1)) (by have := HF.out; omega) (j + 1) (minusN o s) (t ++ [j]) b' (fun k => R k ∨ Value.ownBlock (.slice Z1 (t.length + 1) z1) = some k) (.slice Z1 (t.length + 1) z1) y1 (by omega) HQ2.out (by rw [List.length_append]; simp; omega) (fun k hk => .inr hk) R1B.out B1.out M1.out N1.out
            rw [HQ.out, show ((j + 1 : Nat) : Int) = (j : Int) + 1 by push_cast; rfl] at CALL
            rw [IntWalk.i64_in ((j : Int) + 1) (by omega)]
            refine CALL.mono ?_
            clear CALL
            rintro e y2 ⟨rfl, hm2, hf2, ho2⟩
            have M2 : Hid (LMem ts (.slice (some ⟨q, oq, none⟩) ts.length cT) bb bt bl B R y2 _) := hm2.more (fun k hk => .inl (.inl hk))
            have F2 : Hid (LFr bb (Value.ownBlock (.slice Av t.length cv)) w y2) := F1.out.trans hf2 (fun p hp => by
              rcases HAT.out with h | h
              · exact .inl (h ▸ hp)
              · rw [h] at hp; injection hp with hp; exact .inr (by have := S0.out; omega))
            have V2 : Hid (y2.ownsRow B 3 1 (.slice Av t.length cv) t.length (intsV t)) := by
              show World.ownsRow _ _ _ _ _ _ _
              rw [← intsV_snoc, show (t ++ [j]).length = t.length + 1 by simp] at ho2
              cases hvb : Value.ownBlock (.slice Av t.length cv) with
              | none =>
                refine own_keep OLD.out fun k hk => ?_
                rw [hvb] at hk; cases hk
              | some g =>
                by_cases e : Value.ownBlock (.slice Z1 (t.length + 1) z1) = some g
                · exact own_shorter OLD.out HNW.out ho2 hvb e
                · refine own_keep OLD.out fun k hk => ?_
                  have hr := RV.out k hk
                  refine hf2.block k (own_lt OLD.out k hk) (fun h => by have := HC.out.b; omega) (fun h => e ?_)
                  rw [hvb] at hk
                  injection hk with hk
                  rw [hk]; exact h.symm
            clear hm2 hf2 ho2 hHeld
            refine hK.out _ _ (Or.inr (by simp)) ?_
            clear hK K'
            try simp only [Act.put, List.setIfInBounds_toArray]
            refine doneL (by kernel_rfl) ?_ _
            have NX : Hid (loopF ts (ts.length - (j + 1)) (j + 1) o t (lookF ts (ts.length - (j + 1)) (j + 1) (minusN o s) (t ++ [j]) b') = loopF ts f i o t b) := HR2.out.symm.trans hR.out
            rw [← HQ.out] at M2
            clear cf ct hqc eN
            go_wp2_with fail
            go_roundw
            case rel => exact ⟨j + 1, _, by omega, by omega, by go_num, M2, F2, V2, NX⟩
            case measure => simp [intOf]; omega
          · obtain rfl : j = ts.length := by omega
            go_wp2_with fail
            go_end0
            exact ⟨rfl, by rw [← hR.out, Nat.sub_self]; exact hM.out, hFr.out, hv.out⟩
    · have HL2 : Hid (lookF ts f i o t b = b) := by show _ = _; rw [HL.out, if_neg hr]
      rw [HL2.out]
      cases b with
      | none => exact absurd rfl hr
      | some l =>
        cases Ab with
        | none => simp at hnil
        | some a =>
          unfold roomF at hr
          simp at hr hnb eqn
          have q1 : ¬ ((t.length : Int) + 1 < (nb : Int)) := by omega
          clear hr hnb
          go_enter Tryd.func15, Tryd.ntmps15
          go_wp2_with fail
          go_end0
          exact ⟨rfl, HM.out, LFr.refl _ _ _, HV.out⟩
end Go.Proofs.YtfkklhmamhcbhaaDoor
