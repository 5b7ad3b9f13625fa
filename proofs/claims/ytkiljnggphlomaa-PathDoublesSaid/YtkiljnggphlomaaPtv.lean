/- The function value count of path.made: what it does is the search. Conditions: targets in range; enough rounds left. -/
import Derived.Test.YtkiljnggphlomaaPtm
import Derived.Deep.DeepCutAuto
namespace Go.Proofs.Ytkiljnggphlomaa
open Go.RowKit Go.Deep
structure Rg (n : Nat) (s : PSt) : Prop where
  rg : ∀ r ∈ s.rows, r.length ≤ 1000 ∧ ∀ y ∈ r, 0 ≤ y ∧ y < (n : Int)
theorem Rg.enter {n : Nat} {s : PSt} (h : Rg n s) {i : Nat} (hi : i < s.rows.length) : Rg n (enterS s i) := ⟨fun r hr => by
  have hm : rowAt s.rows i ∈ s.rows := by unfold rowAt; rw [List.getD_eq_getElem?_getD, List.getElem?_eq_getElem hi]; exact List.getElem_mem _
  rcases List.mem_or_eq_of_mem_set hr with h1 | rfl
  · exact h.rg r h1
  · exact ⟨by rw [srt_len]; exact (h.rg _ hm).1, fun y hy => (h.rg _ hm).2 y (srt_mem.1 hy)⟩⟩
theorem goS_rg {n : Nat} {c : PSt → Nat → Option PSt} (hc : ∀ s i s', c s i = some s' → Rg n s → s.rows.length = n → i < n → Rg n s' ∧ s'.rows.length = n) : ∀ (js : List Int) (s : PSt) (k : Int) (p : PSt × Int), (∀ y ∈ js, 0 ≤ y ∧ y < (n : Int)) → goS c js s k = some p → Rg n s → s.rows.length = n → Rg n p.1 ∧ p.1.rows.length = n
  | [], s, k, p, _, h, hr, hl => by simp only [goS] at h; injection h with h; subst h; exact ⟨hr, hl⟩
  | j :: js, s, k, p, hy, h, hr, hl => by
    simp only [goS] at h
    cases hj : c s j.toNat with
    | none => rw [hj] at h; cases h
    | some s' =>
      rw [hj] at h
      have h0 := hy j (by simp)
      have h1 := hc _ _ _ hj hr hl (by omega)
      exact goS_rg hc js s' _ p (fun y hy' => hy y (by simp [hy'])) h h1.1 h1.2
theorem cntS_rg (n : Nat) : ∀ (f : Nat) (s : PSt) (i : Nat) (s' : PSt), cntS n f s i = some s' → Rg n s → s.rows.length = n → i < n → Rg n s' ∧ s'.rows.length = n
  | 0, s, i, s', h, _, _, _ => by simp [cntS] at h
  | f + 1, s, i, s', h, hr, hl, hi => by
    simp only [cntS] at h
    split at h
    · cases h
    · split at h
      · injection h with h; subst h; exact ⟨hr, hl⟩
      · cases hg : goS (cntS n f) (srt (rowAt s.rows i)) (enterS s i) (if i + 1 = n then 1 else 0) with
        | none => rw [hg] at h; cases h
        | some p =>
          rw [hg] at h
          injection h with h
          subst h
          have he := hr.enter (i := i) (by omega)
          have hm : srt (rowAt s.rows i) ∈ (enterS s i).rows := by
            simp only [enterS]
            rw [List.mem_iff_getElem]
            exact ⟨i, by rw [List.length_set]; omega, by simp⟩
          have := goS_rg (cntS_rg n f) _ _ _ p (he.rg _ hm).2 hg he (by simp only [enterS, List.length_set]; exact hl)
          exact ⟨⟨this.1.rg⟩, this.2⟩
def caps (z : PEnv) : Array Value := #[.pointer (some ⟨z.bo, 0, none⟩), .pointer (some ⟨z.bg, 0, none⟩), .pointer (some ⟨z.bn, 0, none⟩), .pointer (some ⟨z.bc, 0, none⟩)]
def CntPost (B n : Nat) (z : PEnv) (us : List Value) (f : Nat) (s : PSt) (i : Nat) (w : World) (e : Ending) (w' : World) : Prop :=
  Below B w w' ∧ ((cntS n f s i = none ∧ e = .returned (.bool false)) ∨ ∃ s', cntS n f s i = some s' ∧ e = .returned (.bool true) ∧ PMem B n z us s' w')
def CntOk (B n : Nat) (z : PEnv) (us : List Value) (f : Nat) : Prop := ∀ (s : PSt) (i : Nat) (w : World), PMem B n z us s w → Rg n s → i < n → n + 1 ≤ nOpen s.opn + f → B ≤ w.heap.size →
  Calls Try.prog 46 #[.int .i64 i, .pointer (some ⟨z.bo, 0, none⟩), .pointer (some ⟨z.bg, 0, none⟩), .pointer (some ⟨z.bn, 0, none⟩), .pointer (some ⟨z.bc, 0, none⟩)] w (CntPost B n z us f s i w)
theorem cntOk_zero (B n : Nat) (z : PEnv) (us : List Value) : CntOk B n z us 0 := fun s i w hM _ _ hn _ => by
  have h1 := nOpen_le s.opn
  have h2 := hM.lo
  omega
theorem row_bool {w : World} {O : Nat} {l : List Bool} {t : TypeId} (h : w.heap[O]? = some (.cells (l.map Value.bool).toArray t (0, 0))) {i : Nat} (hi : i < l.length) : w.cell? ⟨O, i, none⟩ = some (.bool (l.getD i false)) := by
  rw [Has.cell h i]
  simp [List.getD_eq_getElem?_getD, List.getElem?_eq_getElem hi, hi]
theorem row_int {w : World} {O : Nat} {l : List Int} {t : TypeId} (h : w.heap[O]? = some (.cells (l.map (Value.int .i64)).toArray t (0, 0))) {i : Nat} (hi : i < l.length) : w.cell? ⟨O, i, none⟩ = some (.int .i64 (at0 l i)) := by
  rw [Has.cell h i]
  simp [at0, List.getD_eq_getElem?_getD, List.getElem?_eq_getElem hi, hi]
set_option maxRecDepth 100000 in
set_option maxHeartbeats 4000000 in
theorem cntOk_step (B n : Nat) (z : PEnv) (ok : z.Ok B) (us : List Value) (f : Nat) (hn12 : n ≤ 12) (ih : CntOk B n z us f) : CntOk B n z us (f + 1) := by
  intro s i w hM hR hi hN hB
  have IH := hid ih
  have OK := hid ok
  have M := hid hM
  have RG := hid hR
  have NN := hid hN
  have iO : i < s.opn.length := by rw [hM.lo]; exact hi
  have iP : i < s.pth.length := by rw [hM.lp]; exact hi
  have IR : Hid (i < s.rows.length) := by show i < s.rows.length; rw [hM.lr]; exact hi
  have b0 := (Has.cell hM.ho 0).trans rfl
  have b1 := row_bool hM.hO iO
  have b2 := (Has.cell hM.hg 0).trans rfl
  have b3 := (Has.cell hM.hgb 1).trans rfl
  have b4 := row_int hM.hp iP
  have i1 : (i : Int) < (n : Int) := by omega
  obtain ⟨o, ho⟩ : ∃ o, o = s.opn.getD i false := ⟨_, rfl⟩
  obtain ⟨p, hp⟩ : ∃ p, p = at0 s.pth i := ⟨_, rfl⟩
  have HO := hid ho
  have HP := hid hp
  rw [← ho] at b1
  rw [← hp] at b4
  clear ih ok hM hR hN ho hp iP
  cases o with
  | true =>
    have E : Hid (cntS n (f + 1) s i = none) := by show _ = _; simp only [cntS]; rw [if_pos HO.out.symm]
    go_enter Try.func46, Try.ntmps46
    go_wp2_with fail
    go_ret
    exact ⟨Below.refl _ _, .inl ⟨E.out, rfl⟩⟩
  | false =>
    by_cases hp0 : 0 ≤ p
    · have E : Hid (cntS n (f + 1) s i = some s) := by
        show _ = _
        simp only [cntS]
        rw [if_neg (by rw [← HO.out]; simp), if_pos (by rw [← HP.out]; exact hp0)]
      have d0 : decide (0 ≤ p) = true := decide_eq_true hp0
      go_enter Try.func46, Try.ntmps46
      go_wp2_with fail
      go_ret
      exact ⟨Below.refl _ _, .inr ⟨s, E.out, rfl, M.out⟩⟩
    · have d0 : decide (0 ≤ p) = false := decide_eq_false hp0
      have p9 : p < 0 := by omega
      have ES : Hid ((goS (cntS n f) (srt (rowAt s.rows i)) (enterS s i) (if i + 1 = n then 1 else 0) = none → cntS n (f + 1) s i = none) ∧ ∀ s' k, goS (cntS n f) (srt (rowAt s.rows i)) (enterS s i) (if i + 1 = n then 1 else 0) = some (s', k) → cntS n (f + 1) s i = some (leaveS s' i k)) := by
        refine ⟨fun hr => ?_, fun s' k hr => ?_⟩ <;>
        · simp only [cntS]
          rw [if_neg (by rw [← HO.out]; simp), if_neg (by rw [← HP.out]; exact hp0), hr]
      have fO := Has.froz M.out.hO i
      have M1 := hid (M.out.setO OK.out i true)
      have B1 := hid ((Below.refl B w).setCell (p := ⟨z.O, i, none⟩) OK.out.lo (.bool true))
      clear hp0
      go_enter Try.func46, Try.ntmps46
      go_upto_region 4 with fail
      obtain ⟨w1, hw1⟩ : ∃ w1, w1 = w.setCell ⟨z.O, i, none⟩ (.bool true) := ⟨_, rfl⟩
      rw [← hw1] at M1 B1 ⊢
      clear hw1 b0 b1 b2 b3 b4 fO
      have c2 := (Has.cell M1.out.hg 0).trans rfl
      have c3 := (Has.cell M1.out.hgb 0).trans rfl
      obtain ⟨u, hu, c4, ou⟩ := M1.out.fam.at_ (i := i) IR.out
      have HU := hid hu
      have OU := hid ou
      have RL : (rowAt s.rows i).length ≤ 1000 := (RG.out.rg _ (by unfold rowAt; rw [List.getD_eq_getElem?_getD, List.getElem?_eq_getElem IR.out]; exact List.getElem_mem _)).1
      obtain ⟨m, hm⟩ : ∃ m, (rowAt s.rows i).length = m := ⟨_, rfl⟩
      have HM := hid hm
      obtain ⟨Au, cu, rfl, _, _⟩ := own_sl ou
      have UC : Hid (m ≤ cu ∧ cu ≤ maxLen) := by
        obtain ⟨_, _, e, h1, h2⟩ := own_sl OU.out
        injection e with _ _ e
        subst e
        exact ⟨by rw [← HM.out]; exact h1, h2⟩
      rw [hm] at c4 RL HU OU
      clear ou hu hm
      go_wp2_with fail
      refine (sort_any (rowAt s.rows i) m B _ w1 HM.out (by have := OU.out; exact this) (by omega)).mono ?_
      rintro e w2 ⟨rfl, hO2, hg2⟩
      have SL : Hid ((srt (rowAt s.rows i)).length = m) := by show _ = _; rw [srt_len, HM.out]
      have M2 : Hid (PMem B n z us (enterS s i) w2) := M1.out.over IR.out HU.out hg2 (by rw [SL.out]; exact hO2)
      have B2 := hid (B1.out.grown hg2 (by have := B1.out.size; omega) (own_ge OU.out))
      have s2 := B2.out.size
      obtain ⟨js, hjs⟩ : ∃ js, js = srt (rowAt s.rows i) := ⟨_, rfl⟩
      rw [← hjs] at SL ES
      have HJ := hid hjs
      obtain ⟨s1, hs1⟩ : ∃ s1, s1 = enterS s i := ⟨_, rfl⟩
      rw [← hs1] at M2 ES
      have HS1 := hid hs1
      have R1 : Hid (Rg n s1) := by show Rg _ _; rw [hs1]; exact RG.out.enter IR.out
      have OP : Hid (s1.opn.getD i false = true) := by show _ = _; rw [hs1]; simp only [enterS]; rw [open_set, if_pos ⟨rfl, iO⟩]
      have NO : Hid (n + 1 ≤ nOpen s1.opn + f) := by
        show _ ≤ _
        rw [hs1]
        simp only [enterS]
        rw [nOpen_set s.opn i iO HO.out.symm]
        have := NN.out; omega
      have RW : Hid (rowAt s1.rows i = js) := by
        show _ = _
        rw [hs1, hjs]
        simp only [enterS]
        unfold rowAt
        rw [List.getD_eq_getElem?_getD, List.getElem?_set_self IR.out]; rfl
      have LR1 : Hid (s1.rows.length = n) := M2.out.lr
      have d2 := (Has.cell M2.out.hn 0).trans rfl
      clear hO2 hg2 hjs hs1 c2 c3 c4 M1 B1 iO d0 p9 OU
      obtain ⟨k0, hk0⟩ : ∃ k0 : Int, k0 = if i + 1 = n then 1 else 0 := ⟨_, rfl⟩
      rw [← hk0] at ES
      have HK0 := hid hk0
      clear hk0
      obtain ⟨tb, htb⟩ : ∃ tb : Bool, tb = decide (i + 1 = n) := ⟨_, rfl⟩
      have TB : Hid (tb = decide (i + 1 = n)) := htb
      have e1 : ((i : Int) == (n : Int) - 1) = tb := by
        rw [htb]
        by_cases h : i + 1 = n
        · rw [decide_eq_true h, beq_iff_eq]; omega
        · rw [decide_eq_false h, beq_eq_false_iff_ne]; omega
      have e2 : decide ((i : Int) = (n : Int) - 1) = tb := by
        rw [htb]
        by_cases h : i + 1 = n
        · rw [decide_eq_true h, decide_eq_true_eq]; omega
        · rw [decide_eq_false h, decide_eq_false_iff_not]; omega
      clear htb
      go_upto_if 43 with fail
      go_cut [7] (fun kv wx => kv = .int .i64 k0 ∧ wx = w2)
      case first =>
        clear e1 e2
        cases tb with
        | true =>
          have K1 : Hid (k0 = 1) := by show _ = _; rw [HK0.out, if_pos (of_decide_eq_true TB.out.symm)]
          go_wp2_with fail
          go_meet
          case rel => exact ⟨by rw [K1.out], rfl⟩
        | false =>
          have K1 : Hid (k0 = 0) := by show _ = _; rw [HK0.out, if_neg (of_decide_eq_false TB.out.symm)]
          go_wp2_with fail
          go_meet
          case rel => exact ⟨by rw [K1.out], rfl⟩
      case rest =>
        obtain ⟨rfl, rfl⟩ := hcut
        have c2 := (Has.cell M2.out.hg 0).trans rfl
        have c3 := (Has.cell M2.out.hgb 0).trans rfl
        have c4 : wc.cell? ⟨z.G, i, none⟩ = some (.slice Au m cu) := (Has.cell M2.out.fam.row i).trans (by simpa using HU.out)
        clear d2
        obtain ⟨wx, hwx⟩ : ∃ wx, wx = wc := ⟨_, rfl⟩
        subst hwx
        go_wp2_with fail
        go_loopw [7, 52] (fun kv ti wr => ∃ (t : Nat) (k : Int) (st : PSt), kv = .int .i64 k ∧ ti = .int .i64 t ∧ t ≤ m ∧ Hid (goS (cntS n f) (js.take t) s1 k0 = some (st, k)) ∧ Hid (PMem B n z us st wr) ∧ Hid (Below B w wr)) (fun _ ti _ => m - (intOf ti).toNat)
        case atStart => exact ⟨0, k0, s1, rfl, rfl, Nat.zero_le _, rfl, M2, B2⟩
        case round =>
          clear M2 B2 s2 c2 c3 c4
          obtain ⟨t, k, st, rfl, rfl, ht, hG, hMt, hBt⟩ := hrel
          have sB := hBt.out.size
          have KN := hid (goS_kin (cntS_kin n f) _ _ _ _ hG.out)
          have JM : Hid (js ∈ s1.rows) := by
            show js ∈ s1.rows
            rw [← RW.out]
            unfold rowAt
            have : i < s1.rows.length := by rw [LR1.out]; exact hi
            rw [List.getD_eq_getElem?_getD, List.getElem?_eq_getElem this]; exact List.getElem_mem _
          have JR := hid (R1.out.rg _ JM.out).2
          by_cases htm : t < m
          · have RGt := hid (goS_rg (cntS_rg n f) _ _ _ _ (fun y hy => JR.out y (List.mem_of_mem_take hy)) hG.out R1.out LR1.out).1
            have NOt : Hid (n + 1 ≤ nOpen st.opn + f) := by show _ ≤ _; have := KN.out.ol; simp only at this; rw [this]; exact NO.out
            obtain ⟨u', hu', _, ou⟩ := hMt.out.fam.at_ (i := i) (by rw [hMt.out.lr]; exact hi)
            have e : u' = .slice Au m cu := by have := hu'.symm.trans HU.out; injection this
            subst e
            have RWt : rowAt st.rows i = js := (KN.out.rk i OP.out).trans RW.out
            rw [RWt, SL.out] at ou
            clear RWt hu'
            obtain ⟨g, cap, e1, hq0, hq1, hq2, hq3, hq4⟩ := own_open ou (by omega)
            injection e1 with e1 e3 e2
            clear e3 hq0 hq1 hq2 hq3 hq4
            subst e1 e2
            have htl : t < js.length := by rw [SL.out]; exact htm
            obtain ⟨y, hy⟩ : ∃ y, js[t]? = some y := ⟨_, List.getElem?_eq_getElem htl⟩
            have c0 := (ou.cellAt t (by omega)).trans (show _ = some (.int .i64 y) by rw [List.getElem?_map, hy]; rfl)
            have yr := JR.out y (List.mem_of_getElem? hy)
            obtain ⟨j, rfl⟩ : ∃ j : Nat, y = j := ⟨y.toNat, by omega⟩
            have jn : j < n := by omega
            have TK : Hid (js.take (t + 1) = js.take t ++ [(j : Int)]) := by
              show _ = _
              rw [List.take_add_one, hy]; rfl
            have GS : Hid (goS (cntS n f) (js.take (t + 1)) s1 k0 = (cntS n f st j).map fun s' => (s', IntKind.i64.wrap (k + at0 s'.pth j))) := by
              show _ = _
              rw [TK.out, goS_snoc, hG.out]
              simp
            have d0 := (Has.cell hMt.out.hc 0).trans rfl
            have j1 : (j : Int) < (n : Int) := by omega
            have t1 : (t : Int) < (m : Int) := by omega
            have sB3 : B ≤ wr.heap.size := by omega
            have htm9 := hid htl
            clear ou hy yr htl
            go_wp2_with fail
            refine (IH.out st j wr hMt.out RGt.out jn NOt.out sB3).mono ?_
            rintro e w5 ⟨hb, ⟨hc, rfl⟩ | ⟨s', hc, rfl, hM'⟩⟩
            · have B5 := hid (hBt.out.trans hb)
              have EN : Hid (cntS n (f + 1) s i = none) := by
                refine ES.out.1 ?_
                have h1 : goS (cntS n f) (js.take (t + 1)) s1 k0 = none := by rw [GS.out, hc]; rfl
                have h2 := goS_stop _ _ (js.drop (t + 1)) _ _ h1
                rw [List.take_append_drop] at h2
                exact h2
              clear hb hc d0
              go_wp2_with fail
              go_ret
              exact ⟨B5.out, .inl ⟨EN.out, rfl⟩⟩
            · have B5 := hid (hBt.out.trans hb)
              have M5 := hid hM'
              have f2 := (Has.cell M5.out.hg 0).trans rfl
              have f3 := (Has.cell M5.out.hgb 1).trans rfl
              have f4 := row_int M5.out.hp (i := j) (by rw [M5.out.lp]; exact jn)
              have GS2 : Hid (goS (cntS n f) (js.take (t + 1)) s1 k0 = some (s', IntKind.i64.wrap (k + at0 s'.pth j))) := by show _ = _; rw [GS.out, hc]; rfl
              obtain ⟨q, hq⟩ : ∃ q, q = at0 s'.pth j := ⟨_, rfl⟩
              rw [← hq] at f4 GS2
              clear hb hc d0 hM' hq
              go_wp2_with fail
              go_roundw
              case rel => exact ⟨t + 1, IntKind.i64.wrap (k + q), s', by rw [Go.IntWalk.i64_left], by go_num, by omega, GS2, M5, B5⟩
              case measure => simp [intOf]; omega
          · obtain rfl : t = m := by omega
            have GF : Hid (cntS n (f + 1) s i = some (leaveS st i k)) := by
              refine ES.out.2 st k ?_
              have h1 := hG.out
              rw [List.take_of_length_le (by rw [SL.out]; exact Nat.le_refl _)] at h1
              exact h1
            have ML := hid ((hMt.out.setO OK.out i false).setP OK.out i k)
            have BL := hid ((hBt.out.setCell (p := ⟨z.O, i, none⟩) OK.out.lo (.bool false)).setCell (p := ⟨z.P, i, none⟩) OK.out.lp (.int .i64 k))
            have f0 := (Has.cell hMt.out.ho 0).trans rfl
            have f1 := row_bool hMt.out.hO (i := i) (by rw [hMt.out.lo]; exact hi)
            have f2 := (Has.cell hMt.out.hg 0).trans rfl
            have f3 := (Has.cell hMt.out.hgb 1).trans rfl
            have f4 := row_int hMt.out.hp (i := i) (by rw [hMt.out.lp]; exact hi)
            have g1 := Has.froz hMt.out.hO i
            have g4 := Has.froz hMt.out.hp i
            have o6 := OK.out.o6
            have o6' : ¬ z.P = z.O := fun e => o6 e.symm
            have o5 := OK.out.o5
            have o3 := OK.out.o3
            have o2 := OK.out.o2
            generalize st.opn.getD i false = ob at f1
            generalize at0 st.pth i = pb at f4
            go_upto_region 15 with fail
            go_region
            go_wp2_with fail
            go_ret
            exact ⟨BL.out.drew, .inr ⟨_, GF.out, rfl, ML.out.drew⟩⟩
theorem cntOk (B n : Nat) (z : PEnv) (ok : z.Ok B) (us : List Value) (hn12 : n ≤ 12) : ∀ f, CntOk B n z us f
  | 0 => cntOk_zero B n z us
  | f + 1 => cntOk_step B n z ok us f hn12 (cntOk B n z ok us hn12 f)
end Go.Proofs.Ytkiljnggphlomaa
