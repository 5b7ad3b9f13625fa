/- The law GramOwn: it returns true, and all that the call was given reads as before. Condition: errors.errorType holds its handle. -/
import Derived.Test.YtbnannlpebggjaaDoorGrc
import Derived.Test.YtbnannlpebggjaaDoorSmr
import Derived.Test.YtbnannlpebggjaaDoorIna
import Derived.Test.YtbnannlpebggjaaDoorAst
import Derived.Deep.QuietTactic
import Derived.BigQuiet
namespace Go.Proofs.YtbnannlpebggjaaDoor
open Go.RowKit Go.Deep
def LawPost (W : World) (e : Ending) (w' : World) : Prop := e = .returned (.bool true) ∧ Below W.heap.size W w'
def exW (w : World) : World := ((w.alloc (.cells #[] 3)).alloc (.cells #[.slice (some ⟨w.heap.size, 0, none⟩) 0 0] 29)).alloc (.cells #[.slice (some ⟨w.heap.size + 1, 0, none⟩) 1 1] 23)
theorem ex_size (w : World) : (exW w).heap.size = w.heap.size + 3 := by simp [exW]
theorem ex_below (w : World) : Below w.heap.size w (exW w) := (((Below.refl _ _).alloc (Nat.le_refl _) _).alloc (by simp) _).alloc (by simp; omega) _
theorem ex_in (w : World) : GramIn (fun b => b < (exW w).heap.size) (exW w) (.slice (some ⟨w.heap.size + 1 + 1, 0, none⟩) 1 1) [[[]]] := by
  have k1 : (exW w).heap[w.heap.size + 1]? = some (.cells #[.slice (some ⟨w.heap.size, 0, none⟩) 0 0] 29 (0, 0)) := Has.alloc (Has.newAt _ _ (by simp)) _
  have k2 : (exW w).heap[w.heap.size + 1 + 1]? = some (.cells #[.slice (some ⟨w.heap.size + 1, 0, none⟩) 1 1] 23 (0, 0)) := Has.newAt _ _ (by simp)
  refine ⟨_, 1, rfl, ⟨Nat.le_refl _, by simp [maxLen]⟩, fun _ => ⟨w.heap.size + 1 + 1, 0, rfl, by rw [ex_size]; omega, fun i hi => ?_⟩⟩
  match i, hi with
  | 0, _ =>
    refine ⟨_, (Has.cell k2 0).trans rfl, _, 1, rfl, ⟨Nat.le_refl _, by simp [maxLen]⟩, fun _ => ⟨w.heap.size + 1, 0, rfl, by rw [ex_size]; omega, fun j hj => ?_⟩⟩
    match j, hj with
    | 0, _ => exact ⟨_, (Has.cell k1 0).trans rfl, _, 0, rfl, ⟨Nat.le_refl _, by simp [maxLen]⟩, fun z hz => (by cases hz), fun h => absurd h (by decide)⟩
set_option maxRecDepth 100000 in
set_option maxHeartbeats 8000000 in
theorem gramOwn_walk (g : Gr) (v : Value) (n x : Int) (W : World) (hL : Laid W) (hv : GramIn (fun b => b < W.heap.size) W v g) (hz : g.length * 24 ≤ 140737488351232) (hz2 : ∀ rows ∈ g, rows.length * 24 ≤ 140737488351232) (hz3 : ∀ rows ∈ g, ∀ r ∈ rows, r.length * 8 ≤ 140737488351232) :
    Calls Tryd.prog 3 #[v, .int .i64 n, .int .i64 x] W (LawPost W) := by
  have HL := hid hL
  obtain ⟨A, c, rfl, h1, h3⟩ := hv
  have H3 := hid h3
  have Z2 := hid hz2
  have Z3 := hid hz3
  unfold maxLen at h1
  have gl : g.length ≤ 5864062014634 := by omega
  clear hL h3 hz hz2 hz3
  have WA := hid (fun F v w => words_any g n F v w)
  have SA := hid (fun F v w => short_any g 0 F v w)
  have RL := words_facts g n
  obtain ⟨R, hR⟩ : ∃ R, R = wordsF g n := ⟨_, rfl⟩
  rw [← hR] at RL
  have HR := hid hR
  obtain ⟨r121, RO⟩ := RL
  have ROK := hid RO
  have QL := short_facts g 0
  obtain ⟨q, hq⟩ : ∃ q, q = shortF g 0 := ⟨_, rfl⟩
  rw [← hq] at QL
  have HQ := hid hq
  obtain ⟨q1000, QO⟩ := QL
  have QW : Hid (∀ z ∈ q, (Lit.int .i64 z).wf = true) := wf1000G QO
  obtain ⟨cW, hcW⟩ : ∃ cW, cW = wordsE g n := ⟨_, rfl⟩
  have HCW := hid hcW
  obtain ⟨cS, hcS⟩ : ∃ cS, cS = shortE g 0 := ⟨_, rfl⟩
  have HCS := hid hcS
  clear hR hq hcW hcS RO QO
  obtain ⟨i0, hi0, hz0, hz1, hz2⟩ := info_parts infoRowsG
  go_enter Tryd.func3, Tryd.ntmps3
  go_wp2_with fail
  go_loopw [7, 8] (fun ov ii wr => ∃ (i : Nat) (cs : List Value), i ≤ g.length ∧ ii = .int .i64 i ∧ Hid (GInv W.heap.size ov cs (g.take i) wr) ∧ Hid (Below W.heap.size W wr)) (fun _ ii _ => g.length - (intOf ii).toNat)
  case atStart => exact ⟨0, [], Nat.zero_le _, rfl, ⟨World.ownsRow_nil _ _ _ _, fun i hi => by simp at hi⟩, Below.refl _ _⟩
  case round =>
    obtain ⟨i, cs, hi1, rfl, hC, hB⟩ := hrel
    have sB := hB.out.size
    by_cases hlt : i < g.length
    · obtain ⟨b, o, rfl, hb, hcc⟩ := H3.out (by omega)
      obtain ⟨r, hr, hri⟩ := hcc i hlt
      have c1 := (hB.out.cell (p := ⟨b, o + i, none⟩) hb).trans hr
      have I1 := hid (hri.keep (Same.of_below hB.out fun b h => h))
      have RL2 := Z2.out _ (gAt_mem hlt)
      have RL3 := hid (Z3.out _ (gAt_mem hlt))
      have i1 : (i : Int) < (g.length : Int) := by omega
      have TK : Hid (g.take (i + 1) = g.take i ++ [gAt g i]) := take_gram hlt
      have LT : Hid ((g.take i).length = i) := by show _ = _; rw [List.length_take]; omega
      have sB2 := hid sB
      clear hcc hr hri
      go_wp2_with fail
      refine (rcopy_any (gAt g i) (fun b => b < W.heap.size) r wr (fun b h => by have := sB2.out; omega) I1.out (by omega) (fun y hy => by have := RL3.out y hy; omega)).mono ?_
      rintro e w1 ⟨r1, rfl, hO1, hb1⟩
      have H1 := hid hb1
      have O1 := hid hO1
      obtain ⟨A5, c5, rfl, _, _⟩ := hO1
      have OW := hid ((own_below hC.out.own hb1).alloc (.cells #[.slice A5 (gAt g i).length c5] 23))
      have C1 := hid (cells_1 w1 (.slice A5 (gAt g i).length c5) 23 rfl)
      have s1 := hb1.size
      clear hb1
      rw [LT.out] at OW
      go_wp2_with (at_builtin; refine wpList_app _ rfl (.tmp 34) (.tmp 40) 22 rfl W.heap.size 23 i0 (.slice none 0 0) 1 24 Tryd.underlying22 hi0 hz0 hz1 hz2 rfl (by decide) _ _ _ rfl OW.out _ _ 1 _ rfl C1.out (by intro u hu; simp at hu; subst hu; rfl) (by unfold maxLen; omega) (by omega) (by have := sB2.out; simp; omega) ?_; intro v4 w4 hown4 hgrow4 hat4; have R4 := hid (hC.out.next sB2.out H1.out O1.out (by rw [LT.out]; exact hown4) hgrow4 hat4); rw [← TK.out] at R4; have B4 : Hid (Below W.heap.size W w4) := ((hB.out.trans (H1.out.mono sB2.out)).alloc (by have := sB2.out; omega) _).grown hgrow4 (by have := sB2.out; simp; omega) (own_ge OW.out); clear hown4 hgrow4 hat4)
      go_roundw
      case rel => exact ⟨i + 1, _, by omega, by go_num, R4, B4⟩
      case measure => simp [intOf]; omega
    · obtain rfl : i = g.length := by omega
      rw [List.take_length] at hC
      have G1 := hid (hC.out.gram.more (F' := fun b => b < wr.heap.size) fun b h => h.2)
      obtain ⟨Ao, co, rfl, _, _⟩ := own_sl hC.out.own
      have B1 := hid hB.out
      obtain ⟨w1, hw1⟩ : ∃ w1, w1 = wr := ⟨_, rfl⟩
      subst hw1
      clear hC hB
      go_wp2_with fail
      refine (WA.out (fun b => b < w1.heap.size) _ w1 (fun b h => h) G1.out).mono ?_
      rintro e w2 ⟨v2, cs2, rfl, hb, hO, hW⟩
      rw [← HR.out] at hO hW
      rw [← HCW.out]
      have s2 := hb.size
      have P2 := hid hb
      have O2 := hid hO
      have W2 := hid hW
      obtain ⟨A2, c2, rfl, _, _⟩ := own_sl hO
      clear hb hO hW
      go_wp2_with fail
      refine (SA.out (fun b => b < w1.heap.size) _ w2 (fun b h => by omega) (G1.out.keep (Same.of_below P2.out fun b h => h))).mono ?_
      rintro e w3 ⟨v3, rfl, hO, hb⟩
      rw [← HQ.out] at hO
      rw [← HCS.out]
      have s3 := hb.size
      have P3 := hid (P2.out.trans (hb.mono s2))
      have O3 := hid (own_below O2.out hb)
      have W3 := hid (W2.out.keep (w' := w3) fun b _ h _ => hb.block b h)
      have S3 := hid hO
      have LT3 : Hid (∀ b, (Value.slice A2 R.length c2).ownBlock = some b ∨ (∃ r ∈ cs2, r.ownBlock = some b) → b < w2.heap.size) := fun b h => by
        rcases h with h | ⟨r, hr, h⟩
        · exact own_lt O2.out b h
        · obtain ⟨i, hi, rfl⟩ := List.getElem_of_mem hr
          obtain ⟨row, _, h4, _⟩ := W2.out.get_ (List.getElem?_eq_getElem hi)
          exact own_lt h4 b h
      have LT9 : Hid (∀ b, v3.ownBlock = some b → b < w3.heap.size) := fun b h => own_lt hO b h
      obtain ⟨A3, c3, rfl, _, _⟩ := own_sl hO
      clear hb hO P2 O2 W2
      go_wp2_with fail
      refine (has_any [[[]]] [] (fun b => b < (exW w3).heap.size) _ _ (exW w3) (fun b h => h) (ex_in w3) IntsIn.nil_).mono ?_
      rintro e w4 ⟨rfl, hb⟩
      rw [fact_has.1, fact_has.2, errV_0]
      have b4 := hid ((ex_below w3).trans (hb.mono (by rw [ex_size]; omega)))
      have s4 := b4.out.size
      have P4 := hid (P3.out.trans (b4.out.mono (by omega)))
      have O4 := hid (own_below O3.out b4.out)
      have W4 := hid (W3.out.keep (w' := w4) fun b _ h _ => b4.out.block b h)
      have S4 := hid (own_below S3.out b4.out)
      clear hb b4 P3 O3 W3 S3
      have RI := hid ((W4.out.rowsIn O4.out ROK.out).more (F' := fun b => b < w4.heap.size) fun b h => h.2)
      go_wp2_with fail
      refine (rcopy_any R (fun b => b < w4.heap.size) _ w4 (fun b h => h) RI.out (by omega) (fun y hy => by have := (ROK.out y hy).1; omega)).mono ?_
      rintro e w5 ⟨v5, rfl, hV, hb⟩
      have s5 := hb.size
      have P5 := hid (P4.out.trans (hb.mono (by omega)))
      have O5 := hid (own_below O4.out hb)
      have W5 := hid (W4.out.keep (w' := w5) fun b _ h _ => hb.block b h)
      have S5 := hid (own_below S4.out hb)
      have V5 := hid hV
      obtain ⟨A5, c5, rfl, _, _⟩ := hV
      clear hb P4 O4 W4 S4 RI
      have IQ := hid ((ints_of_own S5.out QW.out).more (F' := fun b => b < w5.heap.size) fun b h => h.2)
      go_wp2_with fail
      refine (copy_any q (fun b => b < w5.heap.size) _ w5 (fun b h => h) IQ.out (by omega)).mono ?_
      rintro e w6 ⟨v6, rfl, hO, hb⟩
      have s6 := hb.size
      have P6 := hid (P5.out.trans (hb.mono (by omega)))
      have O6 := hid (own_below O5.out hb)
      have W6 := hid (W5.out.keep (w' := w6) fun b _ h _ => hb.block b h)
      have LS5 : Hid (∀ b, (Value.slice A3 q.length c3).ownBlock = some b → w2.heap.size ≤ b ∧ b < w5.heap.size) := fun b h => ⟨own_ge S5.out b h, own_lt S5.out b h⟩
      have LS3 : Hid (∀ b, (Value.slice A3 q.length c3).ownBlock = some b → b < w3.heap.size) := LT9.out
      have S6 := hid (own_below S5.out hb)
      have V6 := hid (V5.out.keep (Same.of_below hb fun b h => h.2))
      have U6 := hid (ints_of_own hO QW.out)
      obtain ⟨A6, c6, rfl, _, _⟩ := own_sl hO
      clear hb hO P5 O5 W5 S5 V5 IQ
      go_wp2_with fail
      refine (spoil_any x q w2.heap.size _ w6 S6.out (by omega)).mono ?_
      rintro e w7 ⟨rfl, _, hg⟩
      have s7 := hg.size
      have P7 := hid (P6.out.grown hg (by omega) (fun b hb => by have := (LS5.out b hb).1; omega))
      have O7 := hid (own_keep (w' := w7) O6.out fun k hk => hg.block k (by have := LT3.out k (.inl hk); omega) fun e => by have := (LS5.out k e.symm).1; have := LT3.out k (.inl hk); omega)
      have W7 : Hid (Wds w1.heap.size (fun b => (Value.slice A2 R.length c2).ownBlock = some b) w7 cs2 R) := W6.out.keepR fun r hr b hb => hg.block b (by have := LT3.out b (.inr ⟨r, hr, hb⟩); omega) fun e => by have := (LS5.out b e.symm).1; have := LT3.out b (.inr ⟨r, hr, hb⟩); omega
      have V7 := hid (V6.out.keep (w' := w7) fun b hb => hg.block b (by have := hb.2; omega) fun e => by have := LS3.out b e.symm; have := hb.1; omega)
      have U7 := hid (U6.out.keep (w' := w7) fun b hb => hg.block b hb.2 fun e => by have := LS3.out b e.symm; have := hb.1; omega)
      clear hg P6 O6 W6 S6 V6 U6
      have RB : Hid (∀ r ∈ evens cs2, ∀ b, r.ownBlock = some b → w1.heap.size ≤ b ∧ b < w2.heap.size) := fun r hr b hb => by
        obtain ⟨i, _, hi⟩ := of_evens hr
        obtain ⟨row, _, h4, _⟩ := W7.out.get_ hi
        exact ⟨own_ge h4 b hb, LT3.out b (.inr ⟨r, List.mem_of_getElem? hi, hb⟩)⟩
      have SP0 : Hid (∀ r ∈ evens cs2, SP w7 r) := fun r hr => by
        obtain ⟨i, _, hi⟩ := of_evens hr
        obtain ⟨row, h3, h4, _⟩ := W7.out.get_ hi
        exact SP.of_own h4 (by have := (ROK.out row (List.mem_of_getElem? h3)).1; omega)
      have CL : Hid (cs2.length = R.length) := W7.out.len
      go_wp2_with fail
      go_loopw [17] (fun iv wr => ∃ i : Nat, i % 2 = 0 ∧ i ≤ R.length + 1 ∧ iv = .int .i64 i ∧ Hid (SpI w7 (evens cs2) wr)) (fun iv _ => R.length + 1 - (intOf iv).toNat)
      case atStart => exact ⟨0, rfl, Nat.zero_le _, rfl, SpI.start SP0.out⟩
      case round =>
        obtain ⟨i, i2, hi, rfl, hS⟩ := hrel
        by_cases hlt : i < R.length
        · have hO := hS.out.row SP0.out O7.out
          obtain ⟨g2, cc, e1, _, _, _, _, hc⟩ := own_open hO (by omega)
          injection e1 with e1 _ e2
          subst e1 e2
          have q1 := hc i (by omega)
          have hic : i < cs2.length := by rw [CL.out]; exact hlt
          rw [List.getElem?_eq_getElem hic] at q1
          have ME := hid (mem_evens i2 (List.getElem?_eq_getElem hic))
          have SR := hid (spoil_sp x cs2[i] wr (hS.out.sp _ ME.out))
          have i1 : (i : Int) < (R.length : Int) := by omega
          obtain ⟨r, hr⟩ : ∃ r, r = cs2[i] := ⟨_, rfl⟩
          rw [← hr] at q1 ME SR
          have I2 := hid i2
          clear hc hO hr i2
          go_wp2_with fail
          refine SR.out.mono ?_
          rintro e w8 ⟨rfl, hg⟩
          have S8 := hid (hS.out.step ME.out hg)
          clear hg
          go_wp2_with fail
          go_roundw
          case rel => exact ⟨i + 2, by have := I2.out; omega, by omega, by go_num, S8⟩
          case measure => simp [intOf]; omega
        · have i1 : decide ((i : Int) < (R.length : Int)) = false := decide_eq_false (by omega)
          have i3 : ¬ (i : Int) < (R.length : Int) := by omega
          obtain ⟨w8, hw8⟩ : ∃ w8, w8 = wr := ⟨_, rfl⟩
          subst hw8
          clear i2
          go_wp2_with fail
          go_loopw [18] (fun iv wr => ∃ j p : Nat, j % 2 = 1 ∧ j ≤ R.length + 2 ∧ iv = .int .i64 j ∧ wr = w8.drewN p) (fun iv _ => R.length + 2 - (intOf iv).toNat)
          case atStart => exact ⟨1, 0, rfl, by omega, rfl, rfl⟩
          case round =>
            obtain ⟨j, p, j2, hj, rfl, hq⟩ := hrel
            have HP := hid hq
            by_cases hlt : j < R.length
            · have hO := hS.out.row SP0.out O7.out
              obtain ⟨g2, cc, e1, _, _, _, _, hc⟩ := own_open hO (by omega)
              injection e1 with e1 _ e2
              subst e1 e2
              have q1 := hc j (by omega)
              have hic : j < cs2.length := by rw [CL.out]; exact hlt
              rw [List.getElem?_eq_getElem hic] at q1
              have hk := (W7.out.at_ j cs2[j] (R[j]'hlt) (List.getElem?_eq_getElem hic) (List.getElem?_eq_getElem hlt)).1
              have eR : rowAt R j = R[j]'hlt := by unfold rowAt; rw [List.getD_eq_getElem?_getD, List.getElem?_eq_getElem hlt]; rfl
              have m1 : IntsIn .i64 (fun b => (cs2[j]).ownBlock = some b) w8 cs2[j] (rowAt R j) := by
                rw [eR]
                refine (ints_blockC hk (wf1000G (ROK.out _ (List.getElem_mem hlt)).2)).keep fun b hb => hS.out.keep b (own_lt hk b hb) fun r hr e => ?_
                obtain ⟨i', h1, h2⟩ := of_evens hr
                exact W7.out.ap i' j r cs2[j] b (fun e => by omega) h2 (List.getElem?_eq_getElem hic) e hb
              have m2 : RowsIn (fun b => w4.heap.size ≤ b ∧ b < w5.heap.size) w8 (.slice A5 R.length c5) R := V7.out.keep fun b hb => hS.out.keep b (by have := hb.2; omega) fun r hr e => by have := (RB.out r hr b e).2; have := hb.1; omega
              obtain ⟨Ax, cx, e3, _, hv3⟩ := m2
              injection e3 with e3 _ e4
              subst e3 e4
              obtain ⟨g3, o3, e5, _, hc2⟩ := hv3 (by omega)
              subst e5
              obtain ⟨r2, n1, n2⟩ := hc2 j hlt
              obtain ⟨r, hr⟩ : ∃ r, r = cs2[j] := ⟨_, rfl⟩
              rw [← hr] at q1 m1
              have J1 : Hid (IntsIn .i64 (fun _ => True) wr r (rowAt R j)) := by show IntsIn _ _ _ _ _; rw [hq]; exact (m1.keep (fun _ _ => rfl)).more fun _ _ => trivial
              have J2 : Hid (IntsIn .i64 (fun _ => True) wr r2 (rowAt R j)) := by show IntsIn _ _ _ _ _; rw [hq]; exact (n2.keep (fun _ _ => rfl)).more fun _ _ => trivial
              have t1 : wr.cell? ⟨g2, j, none⟩ = some r := by rw [hq]; exact q1
              have t2 : wr.cell? ⟨g3, o3 + j, none⟩ = some r2 := by rw [hq]; exact n1
              have i4 : (j : Int) < (R.length : Int) := by omega
              clear hk eR m1 n1 n2 hc2 hv3 hq hc hO hr q1
              go_upto_region 19 with fail
              go_quiet ((go_at_call 10; exact Calls.quiet_of (ints_any (rowAt R j) (rowAt R j) (fun _ => True) _ _ _ (J1.out.keep fun _ _ => rfl) (J2.out.keep fun _ _ => rfl))))
              rw [show decide (rowAt R j = rowAt R j) = true from decide_eq_true rfl]
              go_wp2_with fail
              go_roundw
              case rel => exact ⟨j + 2, p + nq, by omega, by omega, by go_num, by rw [HP.out]; simp only [World.drewN_drewN]⟩
              case measure => simp [intOf]; omega
            · have j1 : decide ((j : Int) < (R.length : Int)) = false := decide_eq_false (by omega)
              have j3 : ¬ (j : Int) < (R.length : Int) := by omega
              have BS : Hid (Below w1.heap.size w7 w8) := hS.out.below (by omega) fun r hr b hb => (RB.out r hr b hb).1
              have B8 : Hid (Below w1.heap.size w1 wr) := by show Below _ _ _; rw [hq]; exact below_drewN (P7.out.trans BS.out) p
              have V8 : Hid (RowsIn (fun b => w4.heap.size ≤ b ∧ b < w5.heap.size) wr (.slice A5 R.length c5) R) := by
                show RowsIn _ _ _ _
                rw [hq]
                exact (V7.out.keep fun b hb => hS.out.keep b (by have := hb.2; omega) fun r hr e => by have := (RB.out r hr b e).2; have := hb.1; omega).keep (fun _ _ => rfl)
              have U8 : Hid (IntsIn .i64 (fun b => w5.heap.size ≤ b ∧ b < w6.heap.size) wr (.slice A6 q.length c6) q) := by
                show IntsIn _ _ _ _ _
                rw [hq]
                exact (U7.out.keep fun b hb => hS.out.keep b (by have := hb.2; omega) fun r hr e => by have := (RB.out r hr b e).2; have := hb.1; omega).keep (fun _ _ => rfl)
              have sw : w7.heap.size ≤ wr.heap.size := by rw [hq]; exact hS.out.size
              obtain ⟨wo, hwo⟩ : ∃ wo, wo = wr := ⟨_, rfl⟩
              subst hwo
              have s8 := B8.out.size
              clear hq j2
              go_wp2_with fail
              refine (WA.out (fun b => b < w1.heap.size) _ wo (fun b h => by omega) (G1.out.keep (Same.of_below B8.out fun b h => h))).mono ?_
              rintro e w9 ⟨v9, cs9, rfl, hb, hO, hW⟩
              rw [← HR.out] at hO hW
              rw [← HCW.out]
              have s9 := hb.size
              have B9 := hid (B8.out.trans (hb.mono s8))
              have N9 := hid ((hW.rowsIn hO ROK.out).more (F' := fun b => b < w9.heap.size) fun b h => h.2)
              have V9 := hid (V8.out.keep (Same.of_below hb fun b h => by have := h.2; omega))
              have U9 := hid (U8.out.keep (Same.of_below hb fun b h => by have := h.2; omega))
              obtain ⟨A9, c9, rfl, _, _⟩ := own_sl hO
              clear hb hO hW
              go_wp2_with fail
              refine (SA.out (fun b => b < w1.heap.size) _ w9 (fun b h => by omega) (G1.out.keep (Same.of_below B9.out fun b h => h))).mono ?_
              rintro e w10 ⟨v10, rfl, hO, hb⟩
              rw [← HQ.out] at hO
              rw [← HCS.out]
              have s10 := hb.size
              have B10 := hid (B9.out.trans (hb.mono (by omega)))
              have N10 := hid (N9.out.keep (Same.of_below hb fun b h => h))
              have V10 := hid (V9.out.keep (Same.of_below hb fun b h => by have := h.2; omega))
              have U10 := hid (U9.out.keep (Same.of_below hb fun b h => by have := h.2; omega))
              have M10 := hid (ints_of_own hO QW.out)
              obtain ⟨A10, c10, rfl, _, _⟩ := own_sl hO
              clear hb hO
              go_wp2_with fail
              refine (rows_any R R (fun _ => True) _ _ w10 (N10.out.more fun _ _ => trivial) (V10.out.more fun _ _ => trivial)).mono ?_
              rintro e w11 ⟨rfl, p11, rfl⟩
              rw [show decide (R = R) = true from decide_eq_true rfl]
              have B11 := hid (below_drewN B10.out p11)
              have U11 := hid (U10.out.keep (w' := w10.drewN p11) fun _ _ => rfl)
              have M11 := hid (M10.out.keep (w' := w10.drewN p11) fun _ _ => rfl)
              generalize w10.drewN p11 = w11 at *
              go_wp2_with fail
              refine (ints_any q q (fun _ => True) _ _ w11 (M11.out.more fun _ _ => trivial) (U11.out.more fun _ _ => trivial)).mono ?_
              rintro e w12 ⟨rfl, p12, rfl⟩
              rw [show decide (q = q) = true from decide_eq_true rfl]
              have B12 := hid (B1.out.trans ((below_drewN B11.out p12).mono B1.out.size))
              generalize w11.drewN p12 = w12 at *
              go_wp2_with fail
              refine (stold_any cW cW w12 (HL.out.below B12.out)).mono ?_
              rintro e w13 ⟨rfl, hb⟩
              rw [show decide (cW = cW) = true from decide_eq_true rfl]
              have B13 := hid (B12.out.trans (hb.mono (by have := B12.out.size; omega)))
              clear hb
              go_wp2_with fail
              refine (stold_any cS cS w13 (HL.out.below B13.out)).mono ?_
              rintro e w14 ⟨rfl, hb⟩
              rw [show decide (cS = cS) = true from decide_eq_true rfl]
              have B14 := hid (B13.out.trans (hb.mono (by have := B13.out.size; omega)))
              clear hb
              go_wp2_with fail
              go_ret
              exact ⟨rfl, B14.out⟩
end Go.Proofs.YtbnannlpebggjaaDoor
