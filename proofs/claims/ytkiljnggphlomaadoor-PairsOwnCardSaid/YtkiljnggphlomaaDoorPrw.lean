/- What pairs.Rows returns: rows of its own, each in a block of its own. No conditions. -/
import Derived.Test.YtkiljnggphlomaaDoorPri
namespace Go.Proofs.YtkiljnggphlomaaDoor
open Go.RowKit Go.Deep
def RowsPost (W : World) (l : List Int) (e : Ending) (w' : World) : Prop :=
  Below W.heap.size W w' ∧ ((pairsC l ≠ 0 ∧ e = .returned (.tuple #[.slice none 0 0, errV (pairsC l)])) ∨
    (pairsC l = 0 ∧ ∃ r bs, e = .returned (.tuple #[r, .nilIface]) ∧ RInv W.heap.size l.length r bs (rowsP l) w'))
set_option maxRecDepth 100000 in
set_option maxHeartbeats 4000000 in
theorem prows_any (l : List Int) (F : Nat → Prop) (v : Value) (w : World) (hF : ∀ b, F b → b < w.heap.size) (hv : IntsIn .i64 F w v l) :
    Calls Tryd.prog 17 #[v] w (RowsPost w l) := by
  have HF := hid hF
  have HV := hid hv
  obtain ⟨A, c, rfl, hl1, _, _⟩ := hv
  clear hF
  by_cases hc : pairsC l = 0
  · have OK := hid (pairsC_ok hc)
    have HC := hid hc
    have ln := OK.out.len
    obtain ⟨i0, hi, hz0, hz1, hz2⟩ := info_parts infoRow
    clear hc
    go_enter Tryd.func17, Tryd.ntmps17
    go_wp2_with fail
    refine (pcheck_any l F _ w HF.out HV.out).mono ?_
    rintro e w0 ⟨rfl, rfl⟩
    rw [HC.out, errV_0]
    go_wp2_with fail
    refine (all_any l F _ w0 HF.out HV.out OK.out).mono ?_
    rintro e w1 ⟨ov, rfl, hO, hB⟩
    have O1 := hid hO
    have B1 := hid hB
    have al := allP_le OK.out
    have O2 : Hid (w1.ownsRow w0.heap.size 118 4 ov (missP l []).length (qcells (missP l []))) := by
      show World.ownsRow _ _ _ _ _ _ _
      rw [missP_nil]; exact O1.out
    have RI0 : Hid (RInv w0.heap.size l.length (.slice none 0 0) [] [] w1) := ⟨World.ownsRow_nil _ _ _ _, RowsAt.nil_, by simp⟩
    clear hO hB O1
    go_wp2_with fail
    go_loopw [5, 6] (fun rv ov wr => ∃ bs ll, Hid (RInv w0.heap.size l.length rv bs ll wr) ∧ Hid (wr.ownsRow w0.heap.size 118 4 ov (missP l ll).length (qcells (missP l ll))) ∧ Hid (grown l ll = grown l []) ∧ ll.length + (missP l ll).length ≤ 3600 ∧ Hid (Below w0.heap.size w0 wr)) (fun _ ov _ => lenV ov)
    case atStart => exact ⟨[], [], RI0, O2, rfl, by rw [missP_nil]; simpa using al, B1⟩
    case round =>
      clear RI0 O2 B1
      obtain ⟨bs, ll, hR, hO, hG, hlen, hB⟩ := hrel
      obtain ⟨A2, c2, rfl, _, _⟩ := own_sl hO.out
      obtain ⟨m, hm⟩ : ∃ m, m = missP l ll := ⟨_, rfl⟩
      have HM := hid hm
      rw [← hm] at hO hlen ⊢
      have sB := hB.out.size
      clear hm
      by_cases h0 : 0 < m.length
      · have i1 : (0 : Int) < (m.length : Int) := by omega
        have i2 : decide ((0 : Int) < (m.length : Int)) = true := by simpa using h0
        have MQ : Hid (∀ p ∈ m, p ∈ allP l) := by show ∀ p ∈ m, _; rw [HM.out]; exact miss_mem
        have QI := hid ((quads_of_own hO.out).more (F' := fun b => b < wr.heap.size) fun b h => h.2)
        have VI := hid ((HV.out.keep (Same.of_below hB.out HF.out)).more (F' := fun b => b < wr.heap.size) fun b h => by have := HF.out b h; omega)
        clear hO
        go_wp2_with fail
        refine (next_any l m (fun b => b < wr.heap.size) _ _ wr (fun b h => h) VI.out QI.out OK.out h0 (by omega) MQ.out).mono ?_
        rintro e w3 ⟨r, rfl, hr, hRow, hb3⟩
        have s3 := hb3.size
        have hrlt := hRow.lt
        have H3 := hid hb3
        have ROW := hid hRow
        have OW := hid ((own_below hR.out.own hb3).alloc (.cells #[.slice (some ⟨r, 0, none⟩) l.length l.length] 23))
        have C1 := hid (cells_1 w3 (.slice (some ⟨r, 0, none⟩) l.length l.length) 23 rfl)
        have RL : Hid ((nextP l m).length = l.length) := nextP_length l m
        have RO : Hid (rowOk (nextP l m)) := nextP_ok OK.out h0 MQ.out
        have ML : Hid ((missP l (ll ++ [nextP l m])).length < m.length) := by
          show _ < _
          have := missP_lt (levels := l) (rows := ll) (by rw [← HM.out]; exact h0)
          rwa [← HM.out] at this
        have GN : Hid (grown l (ll ++ [nextP l m]) = grown l []) := by
          show _ = _
          rw [← hG.out, grown_next (rows := ll) (by rw [← HM.out]; exact h0), ← HM.out]
        clear hb3 hRow
        go_wp2_with (at_builtin; refine wpList_app _ rfl (.tmp 22) (.tmp 26) 37 rfl w0.heap.size 23 i0 (.slice none 0 0) 1 24 Tryd.underlying37 hi hz0 hz1 hz2 rfl (by decide) _ _ _ rfl OW.out _ _ 1 _ rfl C1.out (by intro u hu; simp at hu; subst hu; rfl) (by unfold maxLen; omega) (by omega) (by simp; omega) ?_; intro v4 w4 hown4 hgrow4 hat4; have R4 : Hid (RInv w0.heap.size l.length v4 (bs ++ [r]) (ll ++ [nextP l m]) w4) := hR.out.next H3.out sB hr ROW.out RL.out RO.out hown4 hgrow4 hat4; have B4 : Hid (Below w0.heap.size w0 w4) := ((hB.out.trans (H3.out.mono sB)).alloc (by omega) _).grown hgrow4 (by simp; omega) (own_ge OW.out); clear hown4 hgrow4 hat4)
        have s4 := B4.out.size
        have RR := hid (R4.out.rows (by unfold maxLen; omega))
        have LL := hid R4.out.at_.lens
        have VI4 := hid ((HV.out.keep (Same.of_below B4.out HF.out)).more (F' := fun b => b < w4.heap.size) fun b h => by have := HF.out b h; omega)
        refine (miss_any l (ll ++ [nextP l m]) (fun b => b < w4.heap.size) _ _ w4 (fun b h => h) VI4.out RR.out OK.out LL.out).mono ?_
        rintro e w5 ⟨ov5, rfl, hO5, hb5⟩
        have O5 := hid (own_lo hO5 s4)
        have R5 := hid (R4.out.below hb5)
        have B5 := hid (B4.out.trans (hb5.mono s4))
        obtain ⟨A5, c5, rfl, _, _⟩ := own_sl hO5
        clear hO5 hb5
        go_wp2_with fail
        go_roundw
        case rel => exact ⟨bs ++ [r], ll ++ [nextP l m], R5, O5, GN, by rw [List.length_append, List.length_singleton]; have h9 : (missP l (ll ++ [nextP l m])).length < m.length := ML.out; omega, B5⟩
        case measure => exact ML.out
      · have m0 : m.length = 0 := by omega
        have i2 : decide ((0 : Int) < (m.length : Int)) = false := by rw [m0]; decide
        have GE : Hid (ll = grown l []) := by
          show _ = _
          rw [← hG.out, grown_done (by rw [← HM.out]; exact m0)]
        have lle : ll.length ≤ 3600 := by omega
        obtain ⟨A3, c3, rfl, _, _⟩ := own_sl hR.out.own
        rw [m0]
        clear hO i2 m0 h0 hlen
        go_wp2_with fail
        go_loopw [5, 7] (fun rv iv wr => ∃ (i : Nat) (bs : List Nat) (ll : List (List Int)), iv = .int .i64 ((i : Int) - 1) ∧ i ≤ ll.length ∧ ll.length ≤ 3600 ∧ Hid (RInv w0.heap.size l.length rv bs ll wr) ∧ Hid (pruneP l i ll = rowsP l) ∧ Hid (Below w0.heap.size w0 wr)) (fun _ iv _ => oneUp iv)
        case atStart => exact ⟨ll.length, bs, ll, by go_num, Nat.le_refl _, lle, hR, by show _ = _; rw [rowsP_grown, ← GE.out], hB⟩
        case round =>
          clear hR hB hG GE
          obtain ⟨i, bs, ll, rfl, hil, hlen, hR, hP, hB⟩ := hrel
          have sB := hB.out.size
          by_cases hi0 : 0 < i
          · obtain ⟨i, rfl⟩ : ∃ j, i = j + 1 := ⟨i - 1, by omega⟩
            have hlt : i < ll.length := by omega
            obtain ⟨g, cc, rfl, gb, glt, gc1, gc2, _⟩ := own_open hR.out.own (by omega)
            have PT := hid (hR.out.part hlt)
            obtain ⟨hp1, hp2, hp3⟩ := PT.out
            have ii : (((i + 1 : Nat) : Int) - 1) = (i : Int) := by omega
            rw [ii]
            have i2 : (i : Int) ≤ (cc : Int) := by omega
            have i3 : ((i : Int) + 1) ≤ (ll.length : Int) := by omega
            have i4 : IntKind.i64.wrap ((i : Int) + 1) = (i : Int) + 1 := by rw [IntKind.wrap_i64]; omega
            have i5 : (0 : Int) ≤ (i : Int) := by omega
            have i6 : (0 : Int) ≤ (i : Int) + 1 := by omega
            have i7 : ((i : Int) + 1).toNat = i + 1 := by omega
            clear hp1 hp2 hp3
            by_cases hcc : cc = i + 1
            · subst hcc
              have LLN : ll.length = i + 1 := (PT.out.2.2 rfl).2
              have i8 : (i : Int) ≤ (i : Int) + 1 := by omega
              have u1 : (ll.length : Int) = (i : Int) + 1 := by omega
              have LW := hid (Has.new wr (.cells #[.slice (some ⟨g, 0, none⟩) i (i + 1), .slice (some ⟨g, 0, none⟩) 0 0] 37))
              have BW := hid (((Below.refl wr.heap.size wr).alloc (Nat.le_refl _) (.cells #[.slice (some ⟨g, 0, none⟩) i (i + 1), .slice (some ⟨g, 0, none⟩) 0 0] 37)).drew)
              have PB := hid ((PT.out.2.2 rfl).1)
              go_upto_region 12 with fail
              go_region_law (first
                | (go_simp; go_at_call 48; go_loud (refine (rconcat_two (fun b => b = g) wr.heap.size 2 (.slice (some ⟨g, 0, none⟩) i (i + 1)) (.slice (some ⟨g, 0, none⟩) 0 0) i (0) ((rowVs l.length bs).take i) ((rowVs l.length bs).drop (i + 1)) ((wr.alloc (.cells #[.slice (some ⟨g, 0, none⟩) i (i + 1), .slice (some ⟨g, 0, none⟩) 0 0] 37)).drew) (fun b hb => by rw [hb]; have := BW.out.size; omega) ((Has.cell LW.out 0).trans rfl) ((Has.cell LW.out 1).trans rfl) (PT.out.1.keep (Same.of_below BW.out fun b hb => by rw [hb]; exact glt)) (PB.out.keep (Same.of_below BW.out fun b hb => by rw [hb]; exact glt)) (fun u hu => rowVs_one _ _ u (List.mem_of_mem_take hu)) (fun u hu => rowVs_one _ _ u (List.mem_of_mem_drop hu)) (by omega)).mono ?_); rintro e w5 ⟨rv5, rfl, hO5, hb5⟩; have s5 : wr.heap.size ≤ wr.heap.size + 1 := Nat.le_succ _; have B5 := hid (BW.out.trans (hb5.mono (by show wr.heap.size ≤ (wr.alloc _).heap.size; simp))); have O5 : Hid (w5.ownsRow wr.heap.size 23 1 rv5 (i + (ll.length - (i + 1))) ((rowVs l.length bs).take i ++ (rowVs l.length bs).drop (i + 1))) := own_lo (by first | exact hO5 | (rw [show ll.length - (i + 1) = 0 by omega]; exact hO5)) (by show wr.heap.size ≤ (wr.alloc _).heap.size; simp); clear hO5 hb5))
              have R5 := hid (hR.out.del hlt B5.out sB O5.out)
              have R6 := hid (hR.out.below B5.out)
              have BA5 := hid (hB.out.trans (B5.out.mono sB))
              clear LW BW PB O5
              obtain ⟨less, hless⟩ : ∃ less, less = ll.take i ++ ll.drop (i + 1) := ⟨_, rfl⟩
              have HLE := hid hless
              have lel : less.length + 1 ≤ ll.length ∧ ll.length ≤ less.length + 1 := by rw [hless]; simp; omega
              rw [← hless] at R5
              have R5s := hid (own_sl R5.out.own)
              obtain ⟨A5, c5, rfl, _, _⟩ := R5s.out
              clear hless R5s
              have s5 := BA5.out.size
              have RR := hid (R5.out.rows (by unfold maxLen; omega))
              have LL := hid R5.out.at_.lens
              have VI5 := hid ((HV.out.keep (Same.of_below BA5.out HF.out)).more (F' := fun b => b < w5.heap.size) fun b h => by have := HF.out b h; omega)
              go_wp2_with fail
              refine (miss_any l less (fun b => b < w5.heap.size) _ _ w5 (fun b h => h) VI5.out RR.out OK.out LL.out).mono ?_
              rintro e w6 ⟨ov6, rfl, hO6, hb6⟩
              have B7 := hid (BA5.out.trans (hb6.mono s5))
              have R7 := hid (R5.out.below hb6)
              have R8 := hid (R6.out.below hb6)
              obtain ⟨A6, c6, rfl, _, _⟩ := own_sl hO6
              have PS : Hid (rowsP l = pruneP l i (if (missP l less).length = 0 then less else ll)) := by show _ = _; rw [← hP.out, pruneP_step, HLE.out]
              rw [LLN] at R8
              clear hO6 hb6 R6
              by_cases hz : (missP l less).length = 0
              · rw [if_pos hz] at PS
                rw [hz]
                clear hz
                go_wp2_with fail
                go_roundw
                case rel => exact ⟨i, _, less, by go_num, by omega, by omega, R7, PS.out.symm, B7⟩
                case measure => simp [oneUp]
              · rw [if_neg hz] at PS
                have z1 : (((missP l less).length : Int) == 0) = false := by rw [beq_eq_false_iff_ne]; omega
                have z2 : decide (((missP l less).length : Int) = 0) = false := decide_eq_false (by omega)
                have z3 : ¬ (missP l less).length = 0 := hz
                clear hz
                go_wp2_with fail
                go_roundw
                case rel => exact ⟨i, _, ll, by go_num, by omega, by omega, R8, PS.out.symm, B7⟩
                case measure => simp [oneUp]
            · have u1 : ¬ cc = i + 1 := hcc
              have LW := hid (Has.new wr (.cells #[.slice (some ⟨g, 0, none⟩) i cc, .slice (some ⟨g, i + 1, none⟩) (ll.length - (i + 1)) (cc - (i + 1))] 37))
              have BW := hid (((Below.refl wr.heap.size wr).alloc (Nat.le_refl _) (.cells #[.slice (some ⟨g, 0, none⟩) i cc, .slice (some ⟨g, i + 1, none⟩) (ll.length - (i + 1)) (cc - (i + 1))] 37)).drew)
              have PB := hid (PT.out.2.1 hcc)
              go_upto_region 12 with fail
              go_region_law (first
                | (go_simp; go_at_call 48; go_loud (refine (rconcat_two (fun b => b = g) wr.heap.size 2 (.slice (some ⟨g, 0, none⟩) i cc) (.slice (some ⟨g, i + 1, none⟩) (ll.length - (i + 1)) (cc - (i + 1))) i (ll.length - (i + 1)) ((rowVs l.length bs).take i) ((rowVs l.length bs).drop (i + 1)) ((wr.alloc (.cells #[.slice (some ⟨g, 0, none⟩) i cc, .slice (some ⟨g, i + 1, none⟩) (ll.length - (i + 1)) (cc - (i + 1))] 37)).drew) (fun b hb => by rw [hb]; have := BW.out.size; omega) ((Has.cell LW.out 0).trans rfl) ((Has.cell LW.out 1).trans rfl) (PT.out.1.keep (Same.of_below BW.out fun b hb => by rw [hb]; exact glt)) (PB.out.keep (Same.of_below BW.out fun b hb => by rw [hb]; exact glt)) (fun u hu => rowVs_one _ _ u (List.mem_of_mem_take hu)) (fun u hu => rowVs_one _ _ u (List.mem_of_mem_drop hu)) (by omega)).mono ?_); rintro e w5 ⟨rv5, rfl, hO5, hb5⟩; have s5 : wr.heap.size ≤ wr.heap.size + 1 := Nat.le_succ _; have B5 := hid (BW.out.trans (hb5.mono (by show wr.heap.size ≤ (wr.alloc _).heap.size; simp))); have O5 : Hid (w5.ownsRow wr.heap.size 23 1 rv5 (i + (ll.length - (i + 1))) ((rowVs l.length bs).take i ++ (rowVs l.length bs).drop (i + 1))) := own_lo (by first | exact hO5 | (rw [show ll.length - (i + 1) = 0 by omega]; exact hO5)) (by show wr.heap.size ≤ (wr.alloc _).heap.size; simp); clear hO5 hb5))
              have R5 := hid (hR.out.del hlt B5.out sB O5.out)
              have R6 := hid (hR.out.below B5.out)
              have BA5 := hid (hB.out.trans (B5.out.mono sB))
              clear LW BW PB O5
              obtain ⟨less, hless⟩ : ∃ less, less = ll.take i ++ ll.drop (i + 1) := ⟨_, rfl⟩
              have HLE := hid hless
              have lel : less.length + 1 ≤ ll.length ∧ ll.length ≤ less.length + 1 := by rw [hless]; simp; omega
              rw [← hless] at R5
              have R5s := hid (own_sl R5.out.own)
              obtain ⟨A5, c5, rfl, _, _⟩ := R5s.out
              clear hless R5s
              have s5 := BA5.out.size
              have RR := hid (R5.out.rows (by unfold maxLen; omega))
              have LL := hid R5.out.at_.lens
              have VI5 := hid ((HV.out.keep (Same.of_below BA5.out HF.out)).more (F' := fun b => b < w5.heap.size) fun b h => by have := HF.out b h; omega)
              go_wp2_with fail
              refine (miss_any l less (fun b => b < w5.heap.size) _ _ w5 (fun b h => h) VI5.out RR.out OK.out LL.out).mono ?_
              rintro e w6 ⟨ov6, rfl, hO6, hb6⟩
              have B7 := hid (BA5.out.trans (hb6.mono s5))
              have R7 := hid (R5.out.below hb6)
              have R8 := hid (R6.out.below hb6)
              obtain ⟨A6, c6, rfl, _, _⟩ := own_sl hO6
              have PS : Hid (rowsP l = pruneP l i (if (missP l less).length = 0 then less else ll)) := by show _ = _; rw [← hP.out, pruneP_step, HLE.out]
              clear hO6 hb6 R6
              by_cases hz : (missP l less).length = 0
              · rw [if_pos hz] at PS
                rw [hz]
                clear hz
                go_wp2_with fail
                go_roundw
                case rel => exact ⟨i, _, less, by go_num, by omega, by omega, R7, PS.out.symm, B7⟩
                case measure => simp [oneUp]
              · rw [if_neg hz] at PS
                have z1 : (((missP l less).length : Int) == 0) = false := by rw [beq_eq_false_iff_ne]; omega
                have z2 : decide (((missP l less).length : Int) = 0) = false := decide_eq_false (by omega)
                have z3 : ¬ (missP l less).length = 0 := hz
                clear hz
                go_wp2_with fail
                go_roundw
                case rel => exact ⟨i, _, ll, by go_num, by omega, by omega, R8, PS.out.symm, B7⟩
                case measure => simp [oneUp]
          · obtain rfl : i = 0 := by omega
            have RF : Hid (RInv w0.heap.size l.length _ bs (rowsP l) wr) := hid (by have := hP.out; have e : ll = rowsP l := this; rw [← e]; exact hR.out)
            obtain ⟨A9, c9, rfl, _, _⟩ := own_sl hR.out.own
            clear hR
            go_wp2_with fail
            go_ret2
            exact ⟨hB.out, .inr ⟨HC.out, _, _, rfl, RF.out⟩⟩
  · have HC := hid hc
    clear hc
    go_enter Tryd.func17, Tryd.ntmps17
    go_wp2_with fail
    refine (pcheck_any l F _ w HF.out HV.out).mono ?_
    rintro e w0 ⟨rfl, rfl⟩
    rw [errV_no HC.out]
    go_wp2_with fail
    go_ret2
    exact ⟨Below.refl _ _, .inl ⟨HC.out, by rw [errV_no HC.out]; rfl⟩⟩
end Go.Proofs.YtkiljnggphlomaaDoor
