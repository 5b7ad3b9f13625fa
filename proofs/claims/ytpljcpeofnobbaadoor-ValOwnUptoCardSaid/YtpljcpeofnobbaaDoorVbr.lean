/- The law ValBrackets: it returns true, and all that the call was given reads as before. Conditions: the library's variables hold what they are laid with; at most 4 * 10^9 parts. -/
import Derived.Test.YtpljcpeofnobbaaDoorVbl
import Derived.Test.YtpljcpeofnobbaaDoorVpp
namespace Go.Proofs.YtpljcpeofnobbaaDoor
open Go.RowKit Go.Deep
def LawPost (W : World) (e : Ending) (w' : World) : Prop := e = .returned (.bool true) ∧ Below W.heap.size W w'
/-- what the doors' variables hold, for all worlds behind -/
structure LaidV (W : World) : Prop where
  tab : ∀ w', Below W.heap.size W w' → Tab w'
  errs : ErrsL W
  l1 : 3 < W.heap.size
  l2 : 2 < W.heap.size
theorem meas_step {n i : Nat} (h : i + 1 ≤ n) : n - (intOf (.int .i64 ((i + 1 : Nat) : Int))).toNat < n - (intOf (.int .i64 (i : Int))).toNat := by simp [intOf]; omega
def AsciiS (t : List UInt8) : Prop := t.length ≤ 1000000 ∧ ∀ b ∈ t, b.toNat < 128
theorem ix_ascii : IxOk AsciiS where
  drop t k h := ⟨by rw [List.length_drop]; have := h.1; omega, fun b hb => h.2 b (List.mem_of_mem_drop hb)⟩
  ix t w h := by
    refine (Tryd.strings_IndexAny_laid (strB t) ⟨#[32, 41]⟩ w (by rw [strB_size]; have := h.1; omega) (by decide) (fun j b hb => h.2 b (List.mem_of_getElem? (by rw [strB_data] at hb; exact hb))) (fun j b hb => ?_)).mono ?_
    · match j, hb with
      | 0, hb => simp at hb; subst hb; decide
      | 1, hb => simp at hb; subst hb; decide
    · rintro e w' ⟨rfl, hb⟩
      exact ⟨by rw [strB_data], hb⟩
theorem itoa5 : Lib.itoa 5 = [53] := by
  unfold Lib.itoa
  rw [if_neg (by decide), Lib.decDigits]
  simp
theorem fact_val : valF 7 [40, 53, 41] = some (.mk true 0 [.mk false 5 []], []) := by rfl
theorem fact_parse : parseF [40, 53, 41] = some (.mk true 0 [.mk false 5 []]) := by
  unfold parseF
  rw [fact_val]
  refine if_pos ?_
  unfold parseB
  simp only [Va.text, Vas.texts, itoa5]
  decide
set_option maxRecDepth 100000 in
set_option maxHeartbeats 8000000 in
theorem valBrackets_walk (v : Va) (vv : Value) (W : World) (hL : LaidV W) (hv : VaV (fun b => b < W.heap.size) W vv v) (hs : v.size ≤ 4000000000) :
    Calls Tryd.prog 3 #[vv] W (LawPost W) := by
  obtain ⟨a, b, c, rfl, hx⟩ := hv
  have HL := hid hL
  have HX := hid hx
  have HS := hid hs
  have VC := hid (vcheck_any v)
  have VT := hid (vtext_any v)
  have VL := hid (lists_any v)
  have TB := hid (text_bal v 0)
  have TL : Hid (v.text.length ≤ 96000000000) := by have := text_le v (VaIn.wfs v hx); show _ ≤ _; omega
  have LL : Hid (v.lists ≤ 4000000000) := by have := lists_le v; show _ ≤ _; omega
  have CK : Hid (chkV v = v.err 0) := rfl
  generalize hG : v = V at HX HS VC VT VL TB TL LL CK
  obtain ⟨l, n, s⟩ := v
  obtain ⟨A, cp, rfl, rfl, rfl, _, _, _⟩ := hx.box
  have B0 : Hid (Below W.heap.size W (W.alloc (.cells #[.bool l, .int .i64 n, .slice A s.length cp] 24))) := (Below.refl _ _).alloc (Nat.le_refl _) _
  have X0 := hid (Has.new W (.cells #[.bool l, .int .i64 n, .slice A s.length cp] 24))
  clear hL hx hs hG
  go_enter Tryd.func3, Tryd.ntmps3
  go_wp2_with fail
  refine (parse_any AsciiS [40, 53, 41] _ ix_ascii ⟨by decide, by decide⟩ (by decide) (by have := HL.out.l1; simp; omega) (by have := HL.out.l2; simp; omega) (HL.out.errs.below B0.out HL.out.l2 HL.out.l1) (fun w' h => HL.out.tab w' (B0.out.trans (h.mono (by simp))))).mono ?_
  rintro e w1 ⟨hb, hp⟩
  rw [fact_parse] at hp
  obtain ⟨c1, rfl, hrow, _⟩ := hp
  obtain ⟨A1, cc1, rfl⟩ := hrow.slice
  have B1 := hid (B0.out.trans (hb.mono (by simp)))
  have X1 := hid (Has.below X0.out hb (by simp))
  have x0 := Has.cell X1.out 0
  have x1 := Has.cell X1.out 1
  have x2 := Has.cell X1.out 2
  simp at x0 x1 x2
  have lw : W.heap.size < w1.heap.size := by have := hb.size; simp at this; omega
  have W2 : Hid (Below W.heap.size W (w1.alloc (.cells #[.bool true, .int .i64 0, .slice A1 1 cc1] 24))) := B1.out.alloc (by omega) _
  clear hrow hb
  go_wp2_with fail
  refine (VC.out (fun b => b < W.heap.size) _ _ _ (w1.alloc (.cells #[.bool true, .int .i64 0, .slice A1 1 cc1] 24)) (fun b h => by simp; omega) (VaIn.keep (Same.of_below W2.out fun b h => h) _ HX.out)).mono ?_
  rintro e w3 ⟨rfl, hb⟩
  have X3 := hid (Has.below (Has.alloc X1.out (.cells #[.bool true, .int .i64 0, .slice A1 1 cc1] 24)) hb (by simp; omega))
  have B3 := hid (W2.out.trans (hb.mono (by simp; omega)))
  have lw3 : W.heap.size < w3.heap.size := by have := hb.size; simp at this; omega
  clear hb x0 x1 x2
  have x0 := Has.cell X3.out 0
  have x1 := Has.cell X3.out 1
  have x2 := Has.cell X3.out 2
  simp at x0 x1 x2
  by_cases hc : chkV V = 0
  case neg =>
    rw [errV_no hc]
    clear hc
    go_wp2_with fail
    go_ret
    exact ⟨rfl, B3.out⟩
  obtain ⟨BL, BC⟩ := TB.out (by rw [← CK.out]; exact hc)
  rw [hc, errV_0]
  clear hc
  go_wp2_with fail
  refine (VT.out (fun b => b < W.heap.size) _ _ _ w3 (fun b h => by omega) (VaIn.keep (Same.of_below B3.out fun b h => h) _ HX.out) HS.out (fun w' h => HL.out.tab w' (B3.out.trans (h.mono (by omega))))).mono ?_
  rintro e w4 ⟨rfl, hb⟩
  have X4 := hid (Has.below X3.out hb lw3)
  have B4 := hid (B3.out.trans (hb.mono (by omega)))
  have lw4 : W.heap.size < w4.heap.size := by have := hb.size; omega
  clear hb x0 x1 x2
  obtain ⟨t, ht⟩ : ∃ t, t = V.text := ⟨_, rfl⟩
  rw [← ht] at BL BC TL ⊢
  have HB := hid BL
  have HC := hid BC
  have tl := TL.out
  clear ht BL BC
  go_wp2_with fail
  go_loopw [6, 7, 8] (fun ov sv iv wr => ∃ i : Nat, i ≤ t.length ∧ iv = .int .i64 i ∧ ov = .int .i64 (((t.take i).count 40 : Nat) : Int) ∧ sv = .int .i64 (((t.take i).count 41 : Nat) : Int) ∧ wr = w4) (fun _ _ iv _ => t.length - (intOf iv).toNat)
  case atStart => exact ⟨0, Nat.zero_le _, rfl, rfl, rfl, rfl⟩
  case round =>
    obtain ⟨i, hi, rfl, rfl, rfl, rfl⟩ := hrel
    by_cases hlt : i < t.length
    · have i1 : (i : Int) < ((strB t).size : Int) := by rw [strB_size]; omega
      have i2 : i < (strB t).size := by rw [strB_size]; exact hlt
      obtain ⟨zn, hz⟩ : ∃ zn, ((strB t)[i]'i2).toNat = zn := ⟨_, rfl⟩
      have ST := bal_step HB.out hlt hz
      have HLT := hid (Nat.succ_le_of_lt hlt)
      have ol : (t.take i).count 40 ≤ i := Nat.le_trans List.count_le_length (by rw [List.length_take]; omega)
      have ql : (t.take i).count 41 ≤ i := Nat.le_trans List.count_le_length (by rw [List.length_take]; omega)
      obtain ⟨o, ho⟩ : ∃ o, o = (t.take i).count 40 := ⟨_, rfl⟩
      obtain ⟨q, hq⟩ : ∃ q, q = (t.take i).count 41 := ⟨_, rfl⟩
      rw [← ho] at ST ol ⊢
      rw [← hq] at ST ql ⊢
      have ow := wrap_small o (Nat.le_trans ol (Nat.le_trans (Nat.le_of_lt hlt) (Nat.le_trans tl (by decide))))
      have qw := wrap_small q (Nat.le_trans ql (Nat.le_trans (Nat.le_of_lt hlt) (Nat.le_trans tl (by decide))))
      have iw := wrap_small i (Nat.le_trans (Nat.le_of_lt hlt) (Nat.le_trans tl (by decide)))
      clear ho hq ol ql
      rcases ST with ⟨rfl, E1', E2', p1⟩ | ⟨rfl, E1', E2', p1⟩ | ⟨hob, E1', E2', p1⟩
      · have p2 : ¬ (((o + 1 : Nat) : Int) < (q : Int)) := by omega
        have E1 := hid E1'
        have E2 := hid E2'
        clear E1' E2' p1 tl
        go_wp2_with fail
        go_roundw
        case rel => exact ⟨i + 1, HLT.out, by rw [iw], by rw [E1.out, ow], by rw [E2.out], trivial⟩
        case measure => rw [iw]; exact meas_step HLT.out
      · have p2 : ¬ ((o : Int) < ((q + 1 : Nat) : Int)) := by omega
        have E1 := hid E1'
        have E2 := hid E2'
        clear E1' E2' p1 tl
        go_wp2_with fail
        go_roundw
        case rel => exact ⟨i + 1, HLT.out, by rw [iw], by rw [E1.out], by rw [E2.out, qw], trivial⟩
        case measure => rw [iw]; exact meas_step HLT.out
      · rcases hob with rfl | rfl | hd
        · have p2 : ¬ ((o : Int) < (q : Int)) := by omega
          have E1 := hid E1'
          have E2 := hid E2'
          clear E1' E2' p1 tl
          go_wp2_with fail
          go_roundw
          case rel => exact ⟨i + 1, HLT.out, by rw [iw], by rw [E1.out], by rw [E2.out], trivial⟩
          case measure => rw [iw]; exact meas_step HLT.out
        · have p2 : ¬ ((o : Int) < (q : Int)) := by omega
          have E1 := hid E1'
          have E2 := hid E2'
          clear E1' E2' p1 tl
          go_wp2_with fail
          go_roundw
          case rel => exact ⟨i + 1, HLT.out, by rw [iw], by rw [E1.out], by rw [E2.out], trivial⟩
          case measure => rw [iw]; exact meas_step HLT.out
        · have p2 : ¬ ((o : Int) < (q : Int)) := by omega
          have E1 := hid E1'
          have E2 := hid E2'
          clear E1' E2' p1 tl
          have hd1 : ((zn : Int) == 40) = false := by simp; omega
          have hd2 : ((zn : Int) == 41) = false := by simp; omega
          have hd3 : ¬ (zn : Int) = 40 := by omega
          have hd4 : ¬ (zn : Int) = 41 := by omega
          have hd5 : ¬ (zn : Int) = 32 := by omega
          have hd6 : ¬ (zn : Int) = 45 := by omega
          have hd7 : ¬ (zn : Int) < 48 := by omega
          have hd8 : ¬ 57 < (zn : Int) := by omega
          have hd9 : ((zn : Int) != 32) = true := by simp; omega
          have hd10 : ((zn : Int) != 45) = true := by simp; omega
          have hd11 : decide ((zn : Int) < 48) = false := by simp; omega
          have hd12 : decide (57 < (zn : Int)) = false := by simp; omega
          have hd13 : ((zn : Int) != 40) = true := by simp; omega
          have hd14 : ((zn : Int) != 41) = true := by simp; omega
          clear hd
          go_wp2_with fail
          go_roundw
          case rel => exact ⟨i + 1, HLT.out, by rw [iw], by rw [E1.out], by rw [E2.out], trivial⟩
          case measure => rw [iw]; exact meas_step HLT.out
    · have i1 : ¬ (i : Int) < ((strB t).size : Int) := by rw [strB_size]; omega
      have x0 := Has.cell X4.out 0
      have x1 := Has.cell X4.out 1
      have x2 := Has.cell X4.out 2
      simp at x0 x1 x2
      obtain rfl : i = t.length := by omega
      rw [List.take_length]
      have c40 : t.count 40 = V.lists := HC.out
      have c41 : t.count 41 = V.lists := HB.out.same.symm.trans HC.out
      rw [c40, c41]
      have CL := hid c40
      clear c40 c41
      have ll := LL.out
      have LG := hid ll
      go_wp2_with fail
      refine (VL.out (fun b => b < W.heap.size) _ _ _ wr (fun b h => by omega) (VaIn.keep (Same.of_below B4.out fun b h => h) _ HX.out) HS.out).mono ?_
      rintro e w5 ⟨rfl, hb⟩
      have B5 := hid (B4.out.trans (hb.mono (by omega)))
      clear hb
      have q1 : ((V.lists : Int) == (V.lists : Int)) = true := by simp
      go_wp2_with fail
      go_ret
      exact ⟨rfl, B5.out⟩
end Go.Proofs.YtpljcpeofnobbaaDoor
