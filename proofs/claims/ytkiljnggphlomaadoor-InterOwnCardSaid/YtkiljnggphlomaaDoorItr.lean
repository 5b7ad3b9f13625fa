/- What inter.Rank returns as its error. No conditions. -/
import Derived.Test.YtkiljnggphlomaaDoorItn
namespace Go.Proofs.YtkiljnggphlomaaDoor
open Go.RowKit Go.Deep
def LeftAt (B : Nat) (lv : Value) (l : List Nat) (w : World) : Prop := NInv B lv l (.slice none 0 0) [] w
def RankPost (W : World) (lens order : List Int) (e : Ending) (w' : World) : Prop := Below W.heap.size W w' ∧ ∃ x : Int, e = .returned (.tuple #[.int .i64 x, errV (rankOC lens order)])
set_option maxRecDepth 100000 in
set_option maxHeartbeats 4000000 in
theorem irank_any (lens order : List Int) (F : Nat → Prop) (v u : Value) (w : World) (hF : ∀ b, F b → b < w.heap.size) (hv : IntsIn .i64 F w v lens) (hu : IntsIn .i64 F w u order) :
    Calls Tryd.prog 30 #[v, u] w (RankPost w lens order) := by
  have HF := hid hF
  have HV := hid hv
  obtain ⟨A, c, rfl, _, _⟩ := hv
  obtain ⟨A2, c2, rfl, hl2, _, h4⟩ := hu
  have H4 := hid h4
  unfold maxLen at hl2
  clear hF h4
  by_cases hc : interC lens = 0
  · obtain ⟨l0, hl0⟩ : ∃ l0, l0 = lens.map Int.toNat := ⟨_, rfl⟩
    have OK := hid (interC_ok hc)
    rw [← hl0] at OK
    have EL : Hid (li l0 = lens) := OK.out.2
    have HC := hid hc
    have LN : Hid (l0.length = lens.length) := by show _ = _; rw [hl0, List.length_map]
    have l6 := OK.out.1.len
    have RC : Hid (rankOC lens order = rankR l0 order) := by show _ = _; unfold rankOC; rw [if_neg (by rw [HC.out]; simp), ← hl0]
    obtain ⟨i0, hi, hz0, hz1, hz2⟩ := info_parts infoInt
    clear hc hl0
    go_enter Tryd.func30, Tryd.ntmps30
    go_wp2_with fail
    refine (icheck_any lens F _ w HF.out HV.out).mono ?_
    rintro e w0 ⟨rfl, rfl⟩
    rw [HC.out, errV_0]
    go_wp2_with fail
    refine (clone_any lens F _ w0 HF.out HV.out (by have := LN.out; omega)).mono ?_
    rintro e w1 ⟨lv, rfl, hO, _, hb⟩
    have O1 : Hid (w1.ownsRow w0.heap.size 3 1 lv l0.length ((li l0).map (Value.int .i64))) := by show World.ownsRow _ _ _ _ _ _ _; rw [EL.out, LN.out]; exact hO
    have B1 := hid hb
    have N0 : Hid (LeftAt w0.heap.size lv l0 w1) := ⟨O1.out, World.ownsRow_nil _ _ _ _, fun b hb => by simp [Value.ownBlock] at hb⟩
    obtain ⟨LA, lc, rfl, lc1, lc2⟩ := own_sl O1.out
    obtain ⟨N, hN⟩ : ∃ N, N = l0.length := ⟨_, rfl⟩
    rw [← hN] at N0 l6 lc1 LN ⊢
    have HN := hid hN
    clear hO hb O1 hN
    go_wp2_with fail
    go_loopw [8, 21] (fun kv ji wr => ∃ (j : Nat) (kk : Int) (l : List Nat), kv = .int .i64 kk ∧ ji = .int .i64 j ∧ j ≤ order.length ∧ Hid (LenOk l) ∧ Hid (l.length = N) ∧ Hid (LeftAt w0.heap.size (.slice LA N lc) l wr) ∧ Hid (rankR l (order.drop j) = rankR l0 order) ∧ Hid (Below w0.heap.size w0 wr)) (fun _ ji _ => order.length - (intOf ji).toNat)
    case atStart => exact ⟨0, 0, l0, rfl, rfl, Nat.zero_le _, OK.out.1, HN.out.symm, N0, rfl, B1⟩
    case round =>
      clear N0 B1
      obtain ⟨j, kk, l, rfl, rfl, hj, hOK, hLl, hI, hE, hB⟩ := hrel
      have sB := hB.out.size
      by_cases hlt : j < order.length
      · obtain ⟨b2, o2, rfl, lb2, hc2⟩ := H4.out (by omega)
        have c1 := (hB.out.cell (p := ⟨b2, o2 + j, none⟩) (HF.out b2 lb2)).trans (hc2 j hlt)
        have EX : order.getD j 0 = order[j] := by rw [List.getD_eq_getElem?_getD, List.getElem?_eq_getElem hlt]; rfl
        rw [EX] at c1
        have DR : Hid (order.drop j = order[j] :: order.drop (j + 1)) := List.drop_eq_getElem_cons hlt
        obtain ⟨x, hx⟩ : ∃ x, x = order[j] := ⟨_, rfl⟩
        rw [← hx] at c1 DR
        have j1 : (j : Int) < (order.length : Int) := by omega
        have RS : Hid (rankR l (x :: order.drop (j + 1)) = rankOC lens order) := by show _ = _; rw [RC.out, ← hE.out, DR.out]
        clear hc2 EX hx
        by_cases hbad : x < 0 ∨ (N : Int) ≤ x
        · have R3 : Hid (rankOC lens order = 3) := by
            show _ = _
            rw [← RS.out]
            show (if x < 0 ∨ (l.length : Int) ≤ x ∨ nAt l x.toNat = 0 then (3 : Int) else _) = 3
            rw [if_pos (by rw [hLl.out]; omega)]
          go_wp2_with fail
          all_goals first | (exfalso; omega) | skip
          all_goals go_ret2
          all_goals exact ⟨hB.out, _, by rw [R3.out, errV_no (by decide)]; rfl⟩
        · obtain ⟨i, rfl⟩ : ∃ i : Nat, x = i := ⟨x.toNat, by omega⟩
          have iN : i < N := by omega
          have i1 : ¬ (i : Int) < 0 := by omega
          have i2 : ¬ (N : Int) ≤ (i : Int) := by omega
          have i3 : (i : Int) < (N : Int) := by omega
          have il : Hid (i < l.length) := by show i < l.length; rw [hLl.out]; exact iN
          obtain ⟨g, cap, e1, gb, glt, gc1, gc2, _⟩ := own_open hI.out.left (by have := hLl.out; omega)
          injection e1 with e1 e3 e2
          clear e3
          subst e1 e2
          have cellAt : ∀ (wr : World) (l : List Nat) (i : Nat), l.length = N → i < l.length → LeftAt w0.heap.size (.slice (some ⟨g, 0, none⟩) N lc) l wr → wr.cell? ⟨g, i, none⟩ = some (.int .i64 ((nAt l i : Nat) : Int)) := fun wr l i hl hi2 hI => by
            have HL2 := hI.left
            rw [hl] at HL2
            refine (HL2.cellAt i (by omega)).trans ?_
            have := li_at l i
            unfold at0 at this
            rw [List.getElem?_map, List.getElem?_eq_getElem (by rw [li_len]; exact hi2)]
            rw [List.getD_eq_getElem?_getD, List.getElem?_eq_getElem (by rw [li_len]; exact hi2)] at this
            simp only [Option.getD_some] at this
            rw [Option.map_some, this]
          have CA := hid cellAt
          have frAt : ∀ (wr : World) (l : List Nat) (i : Nat), l.length = N → LeftAt w0.heap.size (.slice (some ⟨g, 0, none⟩) N lc) l wr → wr.frozen? ⟨g, i, none⟩ = false := fun wr l i hl hI => by
            have HL2 := hI.left
            rw [hl] at HL2
            exact HL2.frozenAt i
          have FA := hid frAt
          have stAt : ∀ (wr : World) (l : List Nat) (i n : Nat), l.length = N → LeftAt w0.heap.size (.slice (some ⟨g, 0, none⟩) N lc) l wr → LeftAt w0.heap.size (.slice (some ⟨g, 0, none⟩) N lc) (l.set i n) (wr.setCell ⟨g, i, none⟩ (.int .i64 (n : Int))) := fun wr l i n hl hI => by
            have h1 : NInv _ _ _ _ _ _ := hI
            rw [← hl] at h1
            have h2 := h1.store (i := i) (n := n)
            rw [hl] at h2
            exact h2
          have SA := hid stAt
          clear cellAt frAt stAt
          have c0 := CA.out wr l i hLl.out il.out hI.out
          by_cases hz : nAt l i = 0
          · have R3 : Hid (rankOC lens order = 3) := by
              show _ = _
              rw [← RS.out]
              show (if (i : Int) < 0 ∨ (l.length : Int) ≤ (i : Int) ∨ nAt l (i : Int).toNat = 0 then (3 : Int) else _) = 3
              rw [if_pos (by right; right; rw [Int.toNat_natCast]; exact hz)]
            rw [hz] at c0
            clear hz
            go_wp2_with fail
            all_goals first | (exfalso; omega) | skip
            all_goals go_ret2
            all_goals exact ⟨hB.out, _, by rw [R3.out, errV_no (by decide)]; rfl⟩
          · have RN : Hid (rankR (dec l i) (order.drop (j + 1)) = rankR l0 order) := by
              show _ = _
              rw [← RC.out, ← RS.out]
              show _ = (if (i : Int) < 0 ∨ (l.length : Int) ≤ (i : Int) ∨ nAt l (i : Int).toNat = 0 then (3 : Int) else rankR (dec l (i : Int).toNat) _)
              rw [if_neg (by rw [Int.toNat_natCast, hLl.out]; omega), Int.toNat_natCast]
            obtain ⟨b, hb⟩ : ∃ b, nAt l i = b + 1 := ⟨nAt l i - 1, by omega⟩
            have DK : Hid (LenOk (dec l i)) := hOK.out.dec (by omega)
            have DL : Hid ((dec l i).length = N) := by show _ = _; rw [dec_len, hLl.out]
            have DE : Hid (dec l i = l.set i b) := by show _ = _; unfold dec; rw [hb]; rfl
            have HB := hid hb
            have b8 : b ≤ 8 := by have := hOK.out.le i il.out; omega
            rw [hb] at c0
            have c0' : wr.cell? ⟨g, i, none⟩ = some (.int .i64 ((b : Int) + 1)) := by rw [c0]; simp
            have z1 : ((b : Int) + 1 == 0) = false := by rw [beq_eq_false_iff_ne]; omega
            have z2 : decide ((b : Int) + 1 = 0) = false := decide_eq_false (by omega)
            have z3 : ¬ (b : Int) + 1 = 0 := by omega
            clear hz hb c0
            go_wp2_with fail
            go_loopw [8, 42] (fun kv ti wr => ∃ (t : Nat) (kk : Int), kv = .int .i64 kk ∧ ti = .int .i64 t ∧ t ≤ i ∧ Hid (LeftAt w0.heap.size (.slice (some ⟨g, 0, none⟩) N lc) l wr) ∧ Hid (Below w0.heap.size w0 wr)) (fun _ ti _ => i - (intOf ti).toNat)
            case atStart => exact ⟨0, kk, rfl, rfl, Nat.zero_le _, hI, hB⟩
            case round =>
              clear hI hB sB c0' z1 z2 z3
              obtain ⟨t, kk, rfl, rfl, ht, hI, hB⟩ := hrel
              have sB := hB.out.size
              by_cases htt : t < i
              · have t1 : (t : Int) < (i : Int) := by omega
                have t2 : (t : Int) < (N : Int) := by omega
                have tl : Hid (t < l.length) := by show t < l.length; rw [hLl.out]; omega
                have d0 := CA.out wr l t hLl.out tl.out hI.out
                have f0 := FA.out wr l t hLl.out hI.out
                by_cases hz : nAt l t = 0
                · rw [hz] at d0
                  clear hz
                  go_wp2_with fail
                  go_roundw
                  case rel => exact ⟨t + 1, kk, rfl, by go_num, by omega, hI, hB⟩
                  case measure => simp [intOf]; omega
                · obtain ⟨a, ha⟩ : ∃ a, nAt l t = a + 1 := ⟨nAt l t - 1, by omega⟩
                  have EK : Hid (LenOk (dec l t)) := hOK.out.dec (by omega)
                  have ELn : Hid ((dec l t).length = N) := by show _ = _; rw [dec_len, hLl.out]
                  have EE : Hid (dec l t = l.set t a) := by show _ = _; unfold dec; rw [ha]; rfl
                  have EB : Hid ((dec l t).set t (a + 1) = l) := by show _ = _; rw [← ha]; exact dec_back tl.out
                  have a8 : a ≤ 8 := by have := hOK.out.le t tl.out; omega
                  rw [ha] at d0
                  have d1 : wr.cell? ⟨g, t, none⟩ = some (.int .i64 ((a : Int) + 1)) := by rw [d0]; simp
                  have y1 : (0 : Int) < (a : Int) + 1 := by omega
                  have ND : Hid (LeftAt w0.heap.size (.slice (some ⟨g, 0, none⟩) N lc) (dec l t) (wr.setCell ⟨g, t, none⟩ (.int .i64 (a : Int)))) := by
                    show LeftAt _ _ _ _
                    rw [EE.out]; exact SA.out wr l t a hLl.out hI.out
                  have BD : Hid (Below w0.heap.size w0 (wr.setCell ⟨g, t, none⟩ (.int .i64 (a : Int)))) := hB.out.setCell gb _
                  clear hz ha d0
                  go_wp2_with fail
                  obtain ⟨wd, hwd⟩ : ∃ wd, wd = wr.setCell ⟨g, t, none⟩ (.int .i64 (a : Int)) := ⟨_, rfl⟩
                  rw [← hwd] at ND BD ⊢
                  have WD : Hid (∀ z ∈ li (dec l t), (Lit.int .i64 z).wf = true) := li_wf EK.out
                  have XD := hid ((ints_of_own ND.out.left WD.out).more (F' := fun b => b < wd.heap.size) fun b h => h.2)
                  clear hwd d1 f0
                  refine (icount_any (dec l t) _ _ wd (fun b h => h) XD.out EK.out).mono ?_
                  rintro e w5 ⟨rfl, rfl⟩
                  have d2 := (CA.out w5 (dec l t) t ELn.out (by rw [ELn.out]; omega) ND.out).trans (show _ = some (.int .i64 (a : Int)) by
                    rw [EE.out]
                    unfold nAt
                    rw [List.getD_eq_getElem?_getD, List.getElem?_set_self tl.out]; rfl)
                  have f2 := FA.out w5 (dec l t) t ELn.out ND.out
                  have NB : Hid (LeftAt w0.heap.size (.slice (some ⟨g, 0, none⟩) N lc) l (w5.setCell ⟨g, t, none⟩ (.int .i64 ((a : Int) + 1)))) := by
                    have h2 := SA.out w5 (dec l t) t (a + 1) ELn.out ND.out
                    rw [EB.out] at h2
                    show LeftAt _ _ _ _
                    simpa using h2
                  have BB : Hid (Below w0.heap.size w0 (w5.setCell ⟨g, t, none⟩ (.int .i64 ((a : Int) + 1)))) := BD.out.setCell gb _
                  go_wp2_with fail
                  go_roundw
                  case rel => exact ⟨t + 1, _, rfl, by go_num, by omega, NB, BB⟩
                  case measure => simp [intOf]; omega
              · obtain rfl : t = i := by omega
                have d0 := CA.out wr l t hLl.out il.out hI.out
                rw [HB.out] at d0
                have d1 : wr.cell? ⟨g, t, none⟩ = some (.int .i64 ((b : Int) + 1)) := by rw [d0]; simp
                have f0 := FA.out wr l t hLl.out hI.out
                have ND : Hid (LeftAt w0.heap.size (.slice (some ⟨g, 0, none⟩) N lc) (dec l t) (wr.setCell ⟨g, t, none⟩ (.int .i64 (b : Int)))) := by
                  show LeftAt _ _ _ _
                  rw [DE.out]; exact SA.out wr l t b hLl.out hI.out
                have BD : Hid (Below w0.heap.size w0 (wr.setCell ⟨g, t, none⟩ (.int .i64 (b : Int)))) := hB.out.setCell gb _
                clear d0
                go_wp2_with fail
                go_roundw
                case rel => exact ⟨j + 1, kk, dec l t, rfl, by go_num, by omega, DK, DL, ND, RN, BD⟩
                case measure => simp [intOf]; omega
      · obtain rfl : j = order.length := by omega
        have j1 : ¬ (order.length : Int) < (order.length : Int) := by omega
        have RF : Hid (rankOC lens order = if 0 < sumN l then 3 else 0) := by
          show _ = _
          rw [RC.out, ← hE.out, List.drop_length]; rfl
        have LL : l.length ≤ 6 := hOK.out.len
        have AP := run_app_one (P := Tryd.prog) (wr.alloc (.cells #[.int .i64 0] 3)) w0.heap.size 23 23 3 i0 (.int .i64 0) 8 Tryd.underlying23 hi hz0 hz1 hz2 rfl (.slice LA N lc) l.length _ (hI.out.left.alloc _) ⟨wr.heap.size, 0, none⟩ 1 (.int .i64 0) ((Has.cell (Has.new wr _) 0).trans rfl) rfl (by unfold maxLen; omega) (by omega) (by simp; omega)
        obtain ⟨v4, w4, hap, hown4, hg4, hk4⟩ := AP
        have B4 : Hid (Below w0.heap.size w0 w4) := (hB.out.alloc sB _).grown hg4 (by simp; omega) (own_ge (hI.out.left.alloc (.cells #[.int .i64 0] 3)))
        have WL := hid (li_wf hOK.out)
        have X4 : Hid (IntsIn .i64 (fun b => b < w4.heap.size) w4 v4 (li l ++ [0])) := hid ((ints_of_own (base := w0.heap.size) (n := l.length + 1) (e := 3) (by simpa using hown4) (by intro z hz; rw [List.mem_append] at hz; rcases hz with hz | hz; exact WL.out z hz; simp at hz; subst hz; decide)).more fun b h => h.2)
        obtain ⟨A4, c4, rfl, _, _⟩ := own_sl hown4
        clear hown4 hg4 hk4
        go_wp2_with (at_builtin; go_loud (refine wpList_app_runG (by first | rfl | simp [Region.wanted, yielded]) (.tmp 74) (.tmp 75) 23 rfl _ _ _ rfl rfl hap ?_))
        refine (max_any (li l ++ [0]) _ _ w4 X4.out (by simp)).mono ?_
        rintro e w5 ⟨⟨mx, rfl, hm1, hm2⟩, rfl⟩
        have MX := hid (max_li hm1 hm2)
        clear hm1 hm2 hap
        by_cases hs : 0 < sumN l
        · have mx0 : 0 < mx := MX.out.2 hs
          rw [if_pos hs] at RF
          go_wp2_with fail
          go_ret2
          exact ⟨B4.out, _, by rw [RF.out, errV_no (by decide)]; rfl⟩
        · have mx0 : ¬ 0 < mx := fun h => hs (MX.out.1 h)
          have mx1 : decide (0 < mx) = false := decide_eq_false mx0
          rw [if_neg hs] at RF
          go_wp2_with fail
          go_ret2
          exact ⟨B4.out, _, by rw [RF.out, errV_0]; rfl⟩
  · have HC := hid hc
    have RC : Hid (rankOC lens order = interC lens) := by show _ = _; unfold rankOC; rw [if_pos hc]
    clear hc
    go_enter Tryd.func30, Tryd.ntmps30
    go_wp2_with fail
    refine (icheck_any lens F _ w HF.out HV.out).mono ?_
    rintro e w0 ⟨rfl, rfl⟩
    rw [errV_no HC.out]
    go_wp2_with fail
    go_ret2
    exact ⟨Below.refl _ _, _, by rw [RC.out, errV_no HC.out]; rfl⟩
end Go.Proofs.YtkiljnggphlomaaDoor
