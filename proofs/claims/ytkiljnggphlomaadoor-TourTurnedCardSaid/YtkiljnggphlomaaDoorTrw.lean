/- The walk of tour.Round. No conditions. -/
import Derived.Test.YtkiljnggphlomaaDoorTrd
namespace Go.Proofs.YtkiljnggphlomaaDoor
open Go.RowKit Go.Deep
theorem nil_or_snoc {α : Type} (l : List α) : l = [] ∨ ∃ r y, l = r ++ [y] := by
  rcases List.eq_nil_or_concat l with h | ⟨r, y, h⟩
  · exact .inl h
  · exact .inr ⟨r, y, by rw [h]; simp⟩
theorem made_listT (n : Nat) : madeCells #[Value.slice none 0 0] n = (List.replicate n (Value.slice none 0 0)).toArray := by
  apply Array.ext
  · simp [madeCells]
  · intro i h1 h2; simp [madeCells, Nat.mod_one]
def nrow (n : Nat) : Array Value := (List.replicate n (Value.slice none 0 0)).toArray
theorem tgt_le (l : EdgeL) (i : Nat) : (tgt l i).length ≤ l.length := by rw [tgt_len]; exact List.length_filter_le _ _
theorem offL_at {N : Nat} {l : EdgeL} {i : Nat} (hi : i < N) : at0 (offL N l) i = offAt l i := by
  unfold at0 offL; rw [List.getD_eq_getElem?_getD, rowF_get hi]; rfl
theorem offL_wf {N : Nat} {l : EdgeL} (hl : l.length ≤ 30) : ∀ z ∈ offL N l, (Lit.int .i64 z).wf = true := by
  intro z hz
  unfold offL rowF at hz
  simp only [List.mem_map] at hz
  obtain ⟨i, _, rfl⟩ := hz
  have := off_small l i
  exact WalkArith.wf_i64 (by omega)
set_option maxRecDepth 100000 in
set_option maxHeartbeats 4000000 in
theorem tround_any (n : Int) (l : EdgeL) (F : Nat → Prop) (v : Value) (w : World) (hF : ∀ b, F b → b < w.heap.size) (hv : EdgesIn F w v l) :
    Calls Tryd.prog 21 #[.int .i64 n, v] w (RoundPost w n l) := by
  have HF := hid hF
  have HV := hid hv
  obtain ⟨A, c, rfl, hl, _, h3⟩ := hv
  have H3 := hid h3
  clear hF h3 hl
  obtain ⟨i0, hi, hz0, hz1, hz2⟩ := info_parts infoInt
  by_cases hc : flowC n l = 0
  · have OK := hid (flow_ok hc)
    have HC := hid hc
    have n1 := OK.out.lo
    have n2 := OK.out.hi
    have ll := OK.out.le
    obtain ⟨N, rfl⟩ : ∃ N : Nat, n = N := ⟨n.toNat, by omega⟩
    clear hc
    go_enter Tryd.func21, Tryd.ntmps21
    go_wp2_with fail
    refine (toff_any (N : Int) l F _ w HF.out HV.out).mono ?_
    rintro e w1 ⟨hb, ⟨h0, _⟩ | ⟨_, r, rfl, hO⟩⟩
    case inl => exact absurd HC.out h0
    have B1 := hid hb
    have s1 := hb.size
    rw [Int.toNat_natCast] at hO
    have I1 : Hid (IntsIn .i64 (fun b => b < w1.heap.size) w1 r (offL N l)) := hid ((ints_of_own hO (offL_wf ll)).more fun b h => h.2)
    have LO : Hid ((offL N l).length = N) := rowF_len _ _
    obtain ⟨A1, c1, rfl, _, _⟩ := own_sl hO
    clear hb hO
    go_wp2_with fail
    refine (tcf_any (offL N l) _ _ w1 I1.out).mono ?_
    rintro e w2 ⟨⟨t, rfl, ht⟩, rfl⟩
    have HT := hid ht
    rw [LO.out] at HT
    clear ht
    cases t with
    | true =>
      have EX : Hid (∃ i, i < ((N : Nat) : Int).toNat ∧ offAt l i ≠ 0) := by
        obtain ⟨j, h1, h2⟩ := HT.out.1 rfl
        exact ⟨j, by rw [Int.toNat_natCast]; exact h1, by rw [← offL_at h1]; exact h2⟩
      go_wp2_with fail
      go_ret2
      exact ⟨B1.out, .inr (.inl ⟨HC.out, EX.out, by rw [errV_no (by decide)]; rfl⟩)⟩
    | false =>
      have BAL : Hid (∀ i, i < ((N : Nat) : Int).toNat → offAt l i = 0) := fun i hi => by
        rw [Int.toNat_natCast] at hi
        rcases Int.decEq (offAt l i) 0 with h | h
        · have := HT.out.2 ⟨i, hi, by rw [offL_at hi]; exact h⟩
          cases this
        · exact h
      have hmk := run_make_row' (P := Tryd.prog) 37 23 (.slice none 0 0) 24 Tryd.underlying37 infoRowT rfl .i64 .i64 N (by omega) (by omega)
      simp only [made_listT] at hmk
      replace hmk : ∀ w : World, Sem.run Tryd.prog (Instr.makeSlice 37 (.int .i64 N) (.int .i64 N)) w = .ok (.slice (some ⟨w.heap.size, 0, none⟩) N N) (w.alloc (.cells (nrow N) 23)) := hmk
      have F0 : Hid (Fam w.heap.size (w2.alloc (.cells (nrow N) 23)) w2.heap.size (List.replicate N (.slice none 0 0)) (tgts (l.take 0) N)) := by
        have e : tgts (l.take 0) N = List.replicate N [] := by
          unfold tgts tgt
          apply List.ext_getElem (by simp)
          intro i h1 h2; simp
        show Fam _ _ _ _ _
        rw [e]; exact fam_new w2 N
      have B2 := hid (B1.out.alloc s1 (.cells (nrow N) 23))
      clear HT
      go_wp2_with fail
      obtain ⟨G, hG⟩ : ∃ G, G = w2.heap.size := ⟨_, rfl⟩
      rw [← hG] at F0 ⊢
      have gge : w.heap.size ≤ G := by omega
      clear hmk hG I1 B1 s1
      go_loopw [31] (fun ji wr => ∃ (j : Nat) (us : List Value), j ≤ l.length ∧ ji = .int .i64 j ∧ Hid (Fam w.heap.size wr G us (tgts (l.take j) N)) ∧ Hid (Below w.heap.size w wr)) (fun ji _ => l.length - (intOf ji).toNat)
      case atStart => exact ⟨0, _, Nat.zero_le _, rfl, F0, B2⟩
      case round =>
        clear F0 B2
        obtain ⟨j, us, hj, rfl, hFm, hB⟩ := hrel
        have sB := hB.out.size
        by_cases hlt : j < l.length
        · obtain ⟨b, o, rfl, hb, hcc⟩ := H3.out (by omega)
          have lb := HF.out b hb
          have c1 := (hB.out.cell (p := ⟨b, o + j * 2, none⟩) lb).trans (hcc j hlt).1
          have c2 := (hB.out.cell (p := ⟨b, o + j * 2 + 1, none⟩) lb).trans (hcc j hlt).2
          have i1 : (j : Int) < (l.length : Int) := by omega
          have RG := OK.out.rg _ (eAt_mem hlt)
          obtain ⟨ee, hx⟩ : ∃ ee, ee = eAt l j := ⟨_, rfl⟩
          have HX := hid hx
          rw [← hx] at c1 c2 RG
          obtain ⟨x, y⟩ := ee
          simp only [] at c1 c2 RG
          obtain ⟨a, rfl⟩ : ∃ a : Nat, x = a := ⟨x.toNat, by omega⟩
          have aN : a < N := by omega
          have j1 : (a : Int) < (N : Int) := by omega
          have TK := hid (tgts_take (N := N) hlt HX.out.symm)
          clear hcc hx RG
          obtain ⟨u, hu, cu0, ou⟩ := hFm.out.at_ (i := a) (by rw [tgts_len]; exact aN)
          have er : rowAt (tgts (l.take j) N) a = tgt (l.take j) a := tgts_at aN
          rw [er] at ou
          have RL : (tgt (l.take j) a).length ≤ 30 := by have := tgt_le (l.take j) a; rw [List.length_take] at this; omega
          obtain ⟨q, hq⟩ : ∃ q, q = tgt (l.take j) a := ⟨_, rfl⟩
          rw [← hq] at ou RL TK
          obtain ⟨Au, cu, rfl, _, _⟩ := own_sl ou
          have HU := hid hu
          clear hu hq er
          obtain ⟨wo, hwo⟩ : ∃ wo, wo = wr := ⟨_, rfl⟩
          subst hwo
          obtain ⟨wa, hwa⟩ : ∃ wa, wa = wo.alloc (.cells #[.int .i64 (a : Int), .int .i64 y] 32) := ⟨_, rfl⟩
          have FA : Hid (Fam w.heap.size wa G us (tgts (l.take j) N)) := by show Fam _ _ _ _ _; rw [hwa]; exact hFm.out.alloc _
          have BA : Hid (Below w.heap.size w wa) := by show Below _ _ _; rw [hwa]; exact hB.out.alloc sB _
          have OA : Hid (wa.ownsRow w.heap.size 3 1 (.slice Au q.length cu) q.length (q.map (Value.int .i64))) := by show World.ownsRow _ _ _ _ _ _ _; rw [hwa]; exact ou.alloc _
          have E := Has.new wo (.cells #[.int .i64 (a : Int), .int .i64 y] 32)
          rw [← hwa] at E
          have e0 := (Has.cell E 0).trans rfl
          have e1 := (Has.cell E 1).trans rfl
          have g0 : wa.cell? ⟨G, a, none⟩ = some (.slice Au q.length cu) := by rw [hwa]; exact (World.cell?_of_block (w := wo) (a := ⟨G, a, none⟩) (Below.heap_alloc wo _ G hFm.out.lt)).trans cu0
          have sA := BA.out.size
          have GL := FA.out.lt
          have OB := hid (OA.out.alloc (.cells #[.int .i64 y] 3))
          have C1 := hid (cells_1 wa (.int .i64 y) 3 rfl)
          have AL := hid (own_lt ou)
          have LO9 : wo.heap.size < wa.heap.size := by rw [hwa]; simp
          have NE9 := hid (show ∀ b, b < wa.heap.size → (wa.alloc (.cells #[.int .i64 y] 3)).heap[b]? = wa.heap[b]? from fun b hb => Below.heap_alloc wa _ b hb)
          have e2 : (wa.alloc (.cells #[.int .i64 y] 3)).cell? ⟨wo.heap.size, 0, none⟩ = some (.int .i64 (a : Int)) := (World.cell?_of_block (w := wa) (a := ⟨wo.heap.size, 0, none⟩) (NE9.out _ LO9)).trans e0
          have g9 : (wa.alloc (.cells #[.int .i64 y] 3)).cell? ⟨G, a, none⟩ = some (.slice Au q.length cu) := (World.cell?_of_block (w := wa) (a := ⟨G, a, none⟩) (NE9.out _ GL)).trans g0
          have E02 := hid e2
          clear hFm hB cu0 ou
          go_upto_region 10 with fail
          rw [← hwa]
          clear hwa E
          go_region_law (first
            | (go_loud (refine step_app _ (by rfl) (.tmp 42) (.tmp 45) 23 (by rfl) w.heap.size 3 i0 (.int .i64 0) 1 8 Tryd.underlying23 hi hz0 hz1 hz2 rfl (by decide) (.slice Au q.length cu) q.length (q.map (Value.int .i64)) (by simp [Act.eval, Act.put]) (by exact OB.out) _ (.slice (some ⟨wa.heap.size, 0, none⟩) 1 1) 1 [.int .i64 y] (by simp [Act.eval, Act.put]) (by exact C1.out) (by intro u hu; simp at hu; subst hu; rfl) (by unfold maxLen; omega) (by omega) (by show w.heap.size ≤ (wa.alloc _).heap.size; simp; omega) ?_); intro v2 w2 hown2 hgrow2 hat2; have e9 : w2.cell? ⟨wo.heap.size, 0, none⟩ = some (.int .i64 (a : Int)) := hgrow2.cell E02.out (fun e => by have := AL.out _ e.symm; simp at this); have g2 : w2.cell? ⟨G, a, none⟩ = some (.slice Au q.length cu) := hgrow2.cell ((World.cell?_of_block (w := wa) (a := ⟨G, a, none⟩) (Below.heap_alloc wa _ G GL)).trans g0) (fun e => FA.out.ne _ (List.mem_of_getElem? HU.out) e.symm); have f2 : w2.frozen? ⟨G, a, none⟩ = false := (World.frozen?_of_block (w := wa) (a := ⟨G, a, none⟩) ((hgrow2.block G (by show G < (wa.alloc _).heap.size; simp; omega) (fun e => FA.out.ne _ (List.mem_of_getElem? HU.out) e.symm)).trans (Below.heap_alloc wa _ G GL))).trans (FA.out.froz a); have GW : Hid (wa.grownBy w2 (Value.ownBlock (.slice Au q.length cu))) := (World.grownBy_alloc wa _ _).trans ⟨hgrow2.os, hgrow2.tape, hgrow2.output, hgrow2.size, hgrow2.block⟩; have OW2 := hid hown2; have AT : Hid (v2.ownBlock = (Value.slice Au q.length cu).ownBlock ∨ ∃ b, v2.ownBlock = some b ∧ wa.heap.size ≤ b) := hat2.imp id (fun e => ⟨_, e, by show wa.heap.size ≤ (wa.alloc _).heap.size; simp⟩); obtain ⟨A2, c2, rfl, _, _⟩ := own_sl hown2; clear hown2 hgrow2 hat2))
          all_goals
            have FN : Hid (Fam w.heap.size (w2.setCell ⟨G, a, none⟩ (.slice A2 (q.length + 1) c2)) G (us.set a (.slice A2 (q.length + 1) c2)) (tgts (l.take (j + 1)) N)) := by
              show Fam _ _ _ _ _
              rw [TK.out]
              exact FA.out.put (by rw [tgts_len]; exact aN) HU.out GW.out (fun b hb => hb) (by simpa using OW2.out) AT.out
            have BN : Hid (Below w.heap.size w (w2.setCell ⟨G, a, none⟩ (.slice A2 (q.length + 1) c2))) := (BA.out.grown GW.out sA (own_ge OA.out)).setCell gge _
            go_wp2_with fail
            go_roundw
            case rel => exact ⟨j + 1, _, by omega, by go_num, FN, BN⟩
            case measure => simp [intOf]; omega
        · obtain rfl : j = l.length := by omega
          rw [List.take_length] at hFm
          have S0 := World.ownsRow_lit (e := 3) (size := 1) (base := w.heap.size) wr #[.int .i64 0] 1 sB (by unfold maxLen; omega) rfl
          have M0 : Hid (TMem w.heap.size (wr.alloc (.cells #[.int .i64 0] 3)) G us (tgts l N) (.slice (some ⟨wr.heap.size, 0, none⟩) 1 1) [0] (.slice none 0 0) []) := by
            refine ⟨hFm.out.alloc _, S0, World.ownsRow_nil _ _ _ _, fun b hb => ?_, fun b hb => by simp [Value.ownBlock] at hb⟩
            have hb : wr.heap.size = b := by simpa [Value.ownBlock] using hb
            subst hb
            exact ⟨fun e => by have := hFm.out.lt; omega, by simp [Value.ownBlock], fun u hu e => by have := hFm.out.ult hu e; omega⟩
          have T0 : Hid (TInv l N (tgts l N) [0] []) := TInv.start (by omega) (fun e he => (OK.out.rg e he).1) (tgts_len l N) (fun i hi => tgts_at hi)
          have BS := hid (hB.out.alloc sB (.cells #[.int .i64 0] 3))
          clear S0 hFm hB
          go_wp2_with fail
          go_loopw [11, 12] (fun ov sv wr => ∃ (us : List Value) (rows : List (List Int)) (st out : List Int), Hid (TMem w.heap.size wr G us rows sv st ov out) ∧ Hid (TInv l N rows st out) ∧ Hid (Below w.heap.size w wr)) (fun ov sv _ => 2 * (l.length + 1) - 2 * lenV ov - lenV sv)
          case atStart => exact ⟨us, tgts l N, [0], [], M0, T0, BS⟩
          case round =>
            clear M0 T0 BS
            obtain ⟨us, rows, st, out, hM, hT, hB⟩ := hrel
            have sB := hB.out.size
            obtain ⟨SA, sc, rfl, _, _⟩ := own_sl hM.out.stk
            obtain ⟨OA, oc, rfl, _, _⟩ := own_sl hM.out.tol
            have TT := hT.out.tot
            rcases nil_or_snoc st with rfl | ⟨st', x, rfl⟩
            · have FIN := hid (hT.out.fin fun e he => (OK.out.rg e he).1)
              obtain ⟨m, hm⟩ : ∃ m, out.length = m := ⟨_, rfl⟩
              have HM := hid hm
              have OT := hid hM.out.tol
              rw [hm] at OT FIN ⊢
              clear hm TT
              by_cases hcn : conn l
              · have e : m = l.length + 1 := FIN.out.2 hcn
                subst e
                have HCN := hid hcn
                have z1 : (((l.length + 1 : Nat) : Int) != (l.length : Int) + 1) = false := by simp
                clear hcn
                go_wp2_with fail
                refine (trev_at out (l.length + 1) w.heap.size _ wr HM.out OT.out (by omega)).mono ?_
                rintro e w5 ⟨rfl, hg⟩
                have B5 := hid (hB.out.grown hg sB (own_ge OT.out))
                clear hg
                go_wp2_with fail
                go_ret2
                exact ⟨B5.out, .inr (.inr (.inr ⟨HC.out, BAL.out, HCN.out, OA, oc, rfl⟩))⟩
              · have HCN := hid hcn
                have m1 : ¬ (m : Int) = (l.length : Int) + 1 := fun e => hcn (FIN.out.1 (by omega))
                have z1 : ((m : Int) != (l.length : Int) + 1) = true := by simpa using m1
                have z2 : decide ((m : Int) = (l.length : Int) + 1) = false := decide_eq_false m1
                have m2 : m ≤ 1000 := by have := hT.out.tot; have := HM.out; omega
                clear hcn
                go_wp2_with fail
                go_ret2
                exact ⟨hB.out, .inr (.inr (.inl ⟨HC.out, BAL.out, HCN.out, by rw [errV_no (by decide)]; rfl⟩))⟩
            · have XR := hT.out.rng x (.inl (by simp))
              obtain ⟨i, rfl⟩ : ∃ i : Nat, x = i := ⟨x.toNat, by omega⟩
              have iN : i < N := by omega
              have iR : Hid (i < rows.length) := by show i < rows.length; rw [hT.out.len]; exact iN
              obtain ⟨k, hk⟩ : ∃ k, st'.length = k := ⟨_, rfl⟩
              have HK := hid hk
              have SL : (st' ++ [(i : Int)]).length = k + 1 := by rw [List.length_append, hk]; rfl
              rw [SL] at hM TT ⊢
              obtain ⟨p, hp⟩ : ∃ p, out.length = p := ⟨_, rfl⟩
              have HP := hid hp
              rw [hp] at hM TT ⊢
              have STK := hM.out.stk
              rw [SL] at STK
              obtain ⟨sg, cap, e1, hq0, hq1, hq2, hq3, hq4⟩ := own_open STK (by omega)
              injection e1 with e1 e3 e2
              have kc : (k : Int) ≤ (cap : Int) := by omega
              clear e3 hq0 hq1 hq2 hq3 hq4
              subst e1 e2
              have c0 := (STK.cellAt k (by omega)).trans (show _ = some (.int .i64 (i : Int)) by rw [List.map_append, List.getElem?_append_right (by rw [List.length_map, hk]; exact Nat.le_refl _), List.length_map, hk, Nat.sub_self]; rfl)
              obtain ⟨u, hu, g0, ou⟩ := hM.out.fam.at_ iR.out
              have i1 : (i : Int) < (N : Int) := by omega
              have kb : k ≤ 100 := by omega
              have pb : p ≤ 100 := by omega
              have GF := hM.out.fam.froz i
              rcases nil_or_snoc (rowAt rows i) with hr | ⟨r, y, hr⟩
              · rw [hr] at ou
                obtain ⟨Au, cu, rfl, _, _⟩ := own_sl ou
                have TP := hid (hT.out.pop hr)
                have OTL := hM.out.tol
                rw [hp] at OTL
                have OW := hid (OTL.alloc (.cells #[.int .i64 (i : Int)] 3))
                have C1 := hid (cells_1 wr (.int .i64 (i : Int)) 3 rfl)
                clear ou hr STK SL hk hp OTL
                go_wp2_with (at_builtin; refine wpList_app _ rfl (.tmp 87) (.tmp 89) 23 rfl w.heap.size 3 i0 (.int .i64 0) 1 8 Tryd.underlying23 hi hz0 hz1 hz2 rfl (by decide) _ _ _ rfl OW.out _ _ 1 _ rfl C1.out (by intro u hu; simp at hu; subst hu; rfl) (by unfold maxLen; omega) (by omega) (by simp; omega) ?_; intro v6 w6 hown6 hgrow6 hat6; have M6 := hid (hM.out.pushO (by rw [HP.out]; exact hown6) hgrow6 hat6); have B6 : Hid (Below w.heap.size w w6) := (hB.out.alloc sB _).grown hgrow6 (by simp; omega) (own_ge OW.out); have SL6 := hid (own_sl hown6); clear hown6 hgrow6 hat6)
                obtain ⟨A6, c6, rfl, _, _⟩ := SL6.out
                go_roundw
                case rel => exact ⟨us, rows, st', out ++ [(i : Int)], M6.out.popS HK.out, TP, B6⟩
                case measure => simp only [lenV]; omega
              · rw [hr] at ou
                obtain ⟨d, hd⟩ : ∃ d, r.length = d := ⟨_, rfl⟩
                have RL : (r ++ [y]).length = d + 1 := by rw [List.length_append, hd]; rfl
                have HD := hid hd
                have HR := hid hr
                rw [RL] at ou
                obtain ⟨Au, cu, rfl, _, _⟩ := own_sl ou
                obtain ⟨ug, cap2, e1, hq0, hq1, hq2, hq3, hq4⟩ := own_open ou (by omega)
                injection e1 with e1 e3 e2
                have dc : (d : Int) ≤ (cap2 : Int) := by omega
                clear e3 hq0 hq1 hq2 hq3 hq4
                subst e1 e2
                have c9 := (ou.cellAt d (by omega)).trans (show _ = some (.int .i64 y) by rw [List.map_append, List.getElem?_append_right (by rw [List.length_map, hd]; exact Nat.le_refl _), List.length_map, hd, Nat.sub_self]; rfl)
                have YL : ((i : Int), y) ∈ l := by
                  obtain ⟨rest, f1, _, _⟩ := hT.out.pre i iN
                  have f2 : rows.getD i [] = r ++ [y] := hr
                  exact tgt_mem.1 (by rw [f1, f2]; simp)
                have TP := hid (hT.out.push hr (OK.out.rg _ YL).2)
                have HU := hid hu
                have db : d ≤ 100 := by
                  obtain ⟨rest, f1, _, _⟩ := hT.out.pre i iN
                  have f2 : rows.getD i [] = r ++ [y] := hr
                  have f3 := tgt_le l i
                  rw [f1, f2, List.length_append, RL] at f3
                  omega
                have OW := hid (STK.alloc (.cells #[.int .i64 y] 3))
                have C1 := hid (cells_1 wr (.int .i64 y) 3 rfl)
                have SLL := hid SL
                clear ou hr STK SL hk hp RL hd hu YL
                go_wp2_with (at_builtin; refine wpList_app _ rfl (.tmp 66) (.tmp 75) 23 rfl w.heap.size 3 i0 (.int .i64 0) 1 8 Tryd.underlying23 hi hz0 hz1 hz2 rfl (by decide) _ _ _ rfl OW.out _ _ 1 _ rfl C1.out (by intro u hu; simp at hu; subst hu; rfl) (by unfold maxLen; omega) (by omega) (by simp; omega) ?_; intro v6 w6 hown6 hgrow6 hat6; have M6 := hid (hM.out.pushS (by rw [SLL.out]; exact hown6) hgrow6 hat6); have B6 : Hid (Below w.heap.size w w6) := (hB.out.alloc sB _).grown hgrow6 (by simp; omega) (own_ge OW.out); have g6 : w6.cell? ⟨G, i, none⟩ = some (.slice (some ⟨ug, 0, none⟩) (d + 1) cu) := ((Has.cell M6.out.fam.row i).trans (by simpa using HU.out)); have f6 := M6.out.fam.froz i; have SL6 := hid (own_sl hown6); clear hown6 hgrow6 hat6)
                obtain ⟨A6, c6, rfl, _, _⟩ := SL6.out
                have M7 := hid (M6.out.cut iR.out HU.out HR.out HD.out)
                have B7 := hid (B6.out.setCell (p := ⟨G, i, none⟩) gge (.slice (some ⟨ug, 0, none⟩) d cu))
                go_wp2_with fail
                go_roundw
                case rel => exact ⟨_, _, _, out, M7, TP, B7⟩
                case measure => simp only [lenV]; omega
  · have HC := hid hc
    clear hc
    go_enter Tryd.func21, Tryd.ntmps21
    go_wp2_with fail
    refine (toff_any n l F _ w HF.out HV.out).mono ?_
    rintro e w1 ⟨hb, ⟨_, rfl⟩ | ⟨h0, _⟩⟩
    case inr => exact absurd h0 HC.out
    have B1 := hid hb
    clear hb
    rw [errV_no HC.out]
    go_wp2_with fail
    go_ret2
    exact ⟨B1.out, .inl ⟨HC.out, by rw [errV_no HC.out]; rfl⟩⟩
end Go.Proofs.YtkiljnggphlomaaDoor
