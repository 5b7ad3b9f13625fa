/- suite.Greedy: a row of the call's own; or what is wrong with the tests. hit.Least: the least sets; or what is wrong with the sets. Condition: the search's table is laid (Greedy). -/
import Derived.Test.YtfkklhmamhcbhaaDoorStm
import Derived.Test.YtfkklhmamhcbhaaDoorOnc
namespace Go.Proofs.YtfkklhmamhcbhaaDoor
open Go.RowKit Go.Deep
def Inv0 (w : World) (v : Value) (q : List Int) (w' : World) : Prop := w'.ownsRow w.heap.size 3 1 v q.length (q.map (Value.int .i64)) ∧ Below w.heap.size w w'
def leastS (l : List Nat) : List Nat := if hitC l = 0 then leastN l else []
theorem hleast_any (l : List Nat) (F : Nat → Prop) (v : Value) (w : World) (hF : ∀ b, F b → b < w.heap.size) (hv : IntsIn .u32 F w v (ofN l)) :
    Calls Tryd.prog 8 #[v] w fun e w' => ∃ r, e = .returned (.tuple #[r, errV (hitC l)]) ∧ HInv w r (leastS l) w' := by
  have HF := hid hF
  have H := hid hv
  obtain ⟨A, c, rfl, _, _, _⟩ := hv
  rw [ofN_len] at H ⊢
  clear hF
  by_cases hg : hitC l = 0
  · have HG := hid hg
    have R : leastS l = leastN l := if_pos hg
    rw [R]
    have l20 := (hitC_good hg).1
    clear R hg
    go_enter Tryd.func8, Tryd.ntmps8
    go_wp2_with fail
    refine (hcheck_any l F _ w H.out).mono ?_
    rintro e w1 ⟨rfl, rfl⟩
    rw [HG.out, errV_0]
    go_wp2_with fail
    refine (least_any (ofN l) F _ w1 HF.out H.out (by rw [ofN_len]; omega)).mono ?_
    rintro e w2 ⟨r, rfl, hown, hb⟩
    rw [leastN_cast, ofN_len] at hown
    have O := hid hown
    have B := hid hb
    obtain ⟨A2, c2, rfl, _, _⟩ := own_sl hown
    clear hown hb
    go_wp2_with fail
    go_ret2
    exact ⟨_, by rw [HG.out]; rfl, O.out, B.out⟩
  · have R : leastS l = [] := if_neg hg
    have E : errV (hitC l) = .iface 43 (.int .i64 (hitC l)) := errV_no hg
    rw [R, E]
    have HE := hid E
    clear R E hg
    go_enter Tryd.func8, Tryd.ntmps8
    go_wp2_with fail
    refine (hcheck_any l F _ w H.out).mono ?_
    rintro e w1 ⟨rfl, rfl⟩
    rw [HE.out]
    go_wp2_with fail
    go_ret2
    exact ⟨_, rfl, World.ownsRow_nil _ _ _ _, Below.refl _ _⟩
theorem minus_less {o t : Nat} (ho : o < 4294967296) (ht : t < 4294967296) (h : t &&& o ≠ 0) : minusN o t < o := by
  have h1 : minusN o t ≤ o := by unfold minusN; exact Nat.and_le_left
  rcases Nat.lt_or_ge (minusN o t) o with h2 | h2
  · exact h2
  · have e : minusN o t = o := by omega
    obtain ⟨i, i1, i2⟩ := meet_iff.1 h
    have := minusN_bit ho ht i
    rw [e, i1, i2] at this
    simp at this
theorem minus_sub {o t u : Nat} (ho : o < 4294967296) (ht : t < 4294967296) (h : sub o u) : sub (minusN o t) u := sub_iff.2 fun i hi => by
  rw [minusN_bit ho ht, Bool.and_eq_true] at hi
  exact sub_iff.1 h i hi.1
theorem meets_one {l : List Nat} {o : Nat} (h0 : o ≠ 0) (h : sub o (unionN l)) : ∃ k, k < l.length ∧ l.getD k 0 &&& o ≠ 0 := by
  obtain ⟨i, hi⟩ := bit_of_pos h0
  obtain ⟨s, hs, hb⟩ := unionN_bit.1 (sub_iff.1 h i hi)
  obtain ⟨k, hk, rfl⟩ := List.getElem_of_mem hs
  refine ⟨k, hk, meet_iff.2 ⟨i, ?_, hi⟩⟩
  rw [List.getD_eq_getElem?_getD, List.getElem?_eq_getElem hk]; exact hb
set_option maxRecDepth 100000 in
set_option maxHeartbeats 4000000 in
theorem greedy_any (n : Int) (l : List Nat) (F : Nat → Prop) (v : Value) (w : World) (hF : ∀ b, F b → b < w.heap.size) (hT : Tz w) (hv : IntsIn .u32 F w v (ofN l)) :
    Calls Tryd.prog 7 #[.int .i64 n, v] w fun e w' => ∃ r q, e = .returned (.tuple #[r, errV (stC n l)]) ∧ Inv0 w r q w' ∧ q.length ≤ 4294967296 := by
  have HF := hid hF
  have HT := hid hT
  have H := hid hv
  have NW := hid (nwf hv)
  obtain ⟨A, c, rfl, ⟨h1, h2⟩, _, _⟩ := hv
  rw [ofN_len] at h1 H ⊢
  unfold maxLen at h2
  obtain ⟨i0, hi, hz0, hz1, hz2⟩ := info_parts infoInt
  clear hF hT
  by_cases hg : stC n l = 0
  · have HG := hid hg
    obtain ⟨n0, n32, l12, _⟩ := stC_good hg
    have p12 := pow_le12 l12
    have p1 : 1 ≤ 2 ^ l.length := Nat.one_le_two_pow
    have eP : ((2 ^ l.length - 1 : Nat) : Int) = (2 : Int) ^ l.length - 1 := by rw [Int.natCast_sub p1]; push_cast; rfl
    have QC : Calls Tryd.prog 14 #[.slice A l.length c, .int .u64 ((2 : Int) ^ l.length - 1)] w fun e w' => e = .returned (.int .u32 (unionN l : Nat)) ∧ w' = w := by
      rw [← eP]
      exact passed_any l F _ w HT.out H.out l12
    have HQC := hid QC
    have U0 := hid (unionN_lt NW.out)
    clear QC hg
    go_enter Tryd.func7, Tryd.ntmps7
    go_wp2_with fail
    refine (scheck_any n l F _ w H.out).mono ?_
    rintro e w1 ⟨rfl, rfl⟩
    rw [HG.out, errV_0]
    go_wp2_with fail
    refine HQC.out.mono ?_
    rintro e w2 ⟨rfl, rfl⟩
    clear eP p12 p1
    go_wp2_with fail
    go_loopw [7, 8] (fun ov rv wr => ∃ (o : Nat) (q : List Int), ov = .int .u32 (o : Int) ∧ o < 4294967296 ∧ q.length + o ≤ 4294967295 ∧ Hid (sub o (unionN l)) ∧ Hid (Inv0 w2 rv q wr)) (fun ov _ _ => (intOf ov).toNat)
    case atStart => exact ⟨unionN l, [], rfl, U0.out, by have := U0.out; simp; omega, sub_refl _, World.ownsRow_nil _ _ _ _, Below.refl _ _⟩
    case round =>
      obtain ⟨o, q, rfl, ho, hq, hU, hI⟩ := hrel
      have sI := hI.out.2.size
      obtain ⟨wo, hwo⟩ : ∃ wo, wo = wr := ⟨_, rfl⟩
      subst hwo
      obtain ⟨Ar, cr, rfl, kr, kr2⟩ := own_sl hI.out.1
      unfold maxLen at kr2
      by_cases h0 : o = 0
      · subst h0
        go_wp2_with fail
        go_ret2
        exact ⟨_, q, by rw [HG.out]; rfl, hI.out, by omega⟩
      · have z1 : ((o : Int) != 0) = true := by rw [bne_iff_ne]; omega
        obtain ⟨km, km1, km2⟩ := meets_one h0 hU.out
        have KM := hid km2
        have lpos : 0 < l.length := by omega
        clear h0 km2
        go_wp2_with fail
        go_loopw [9, 28] (fun bv iv wr => ∃ (j b : Nat), j ≤ l.length ∧ b < l.length ∧ iv = .int .i64 j ∧ bv = .int .i64 b ∧ Hid (∀ k, k < j → ones (l.getD k 0 &&& o) ≤ ones (l.getD b 0 &&& o)) ∧ Hid (Below wo.heap.size wo wr)) (fun _ iv _ => l.length - (intOf iv).toNat)
        case atStart => exact ⟨0, 0, Nat.zero_le _, lpos, rfl, rfl, fun k hk => by omega, Below.refl _ _⟩
        case round =>
          obtain ⟨j, b, hj, hb, rfl, rfl, hold, hB⟩ := hrel
          have BW := hid (hI.out.2.trans (hB.out.mono sI))
          by_cases hjt : j < l.length
          · obtain ⟨g, og, rfl, hgF, hc1⟩ := nat_cell H.out hjt
            obtain ⟨g', og', e1, _, hc2⟩ := nat_cell H.out hb
            injection e1 with e1
            injection e1 with e1 e2 _
            subst e1 e2
            have d1 := (BW.out.cell (p := ⟨g, og + j, none⟩) (HF.out g hgF)).trans hc1
            have d2 := (BW.out.cell (p := ⟨g, og + b, none⟩) (HF.out g hgF)).trans hc2
            have i1 : (j : Int) < (l.length : Int) := by omega
            have i2 : (b : Int) < (l.length : Int) := by omega
            have t32 := NW.out _ (getD_mem hjt)
            have s32 := NW.out _ (getD_mem hb)
            have eA := u32_and_nat _ o t32 ho
            have eB := u32_and_nat _ o s32 ho
            have ha : l.getD j 0 &&& o < 4294967296 := Nat.lt_of_le_of_lt Nat.and_le_right ho
            have hb' : l.getD b 0 &&& o < 4294967296 := Nat.lt_of_le_of_lt Nat.and_le_right ho
            generalize hx : l.getD j 0 = x at d1 t32 eA ha
            generalize hy : l.getD b 0 = y at d2 s32 eB hb'
            have HX := hid hx
            have HY := hid hy
            have HA : Hid (x &&& o = l.getD j 0 &&& o) := by show _ = _; rw [hx]
            have HBq : Hid (y &&& o = l.getD b 0 &&& o) := by show _ = _; rw [hy]
            generalize x &&& o = p at eA ha HA
            generalize y &&& o = r at eB hb' HBq
            have F1 : Hid (∀ m, Calls Tryd.prog 18 #[.int .u32 (p : Int)] (wr.drewN m) fun e w' => e = .returned (.int .i64 (ones p : Nat)) ∧ ∃ n, w' = wr.drewN n) := fun m => (ones_any p ha (wr.drewN m)).mono (by rintro e w' ⟨h1, n, rfl⟩; exact ⟨h1, _, World.drewN_drewN _ _ _⟩)
            have F2 : Hid (∀ m, Calls Tryd.prog 18 #[.int .u32 (r : Int)] (wr.drewN m) fun e w' => e = .returned (.int .i64 (ones r : Nat)) ∧ ∃ n, w' = wr.drewN n) := fun m => (ones_any r hb' (wr.drewN m)).mono (by rintro e w' ⟨h1, n, rfl⟩; exact ⟨h1, _, World.drewN_drewN _ _ _⟩)
            obtain ⟨op, hop'⟩ : ∃ op, op = ones p := ⟨_, rfl⟩
            obtain ⟨oq, hoq'⟩ : ∃ oq, oq = ones r := ⟨_, rfl⟩
            rw [← hop'] at F1
            rw [← hoq'] at F2
            have OP := hid hop'
            have OQ := hid hoq'
            clear hc1 hc2 hx hy ha hb' hop' hoq'
            go_wp2_with fail
            go_upto_region 11 with fail
            go_quiet (first | (go_at_call 18; first | with_reducible exact F1.out _ | with_reducible exact F2.out _))
            have B8 := hid (below_drewN hB.out nq)
            have HOLD : Hid (∀ k, k < j → ones (l.getD k 0 &&& o) ≤ oq) := fun k hk => by rw [OQ.out, HBq.out]; exact hold.out k hk
            by_cases hop : oq < op
            · have N' : Hid (∀ k, k < j + 1 → ones (l.getD k 0 &&& o) ≤ ones (l.getD j 0 &&& o)) := fun k hk => by
                rw [← HA.out, ← OP.out]
                by_cases e : k = j
                · subst e; rw [OP.out, HA.out]; exact Nat.le_refl _
                · have := HOLD.out k (by omega); omega
              clear eA eB d1 d2
              go_wp2_with fail
              go_roundw
              case rel => exact ⟨j + 1, j, by omega, hjt, by go_num, rfl, N', B8⟩
              case measure => simp [intOf]; omega
            · have N' : Hid (∀ k, k < j + 1 → ones (l.getD k 0 &&& o) ≤ ones (l.getD b 0 &&& o)) := fun k hk => by
                by_cases e : k = j
                · subst e; rw [← HA.out, ← HBq.out, ← OP.out, ← OQ.out]; omega
                · exact hold.out k (by omega)
              clear eA eB d1 d2
              go_wp2_with fail
              go_roundw
              case rel => exact ⟨j + 1, b, by omega, hb, by go_num, rfl, N', B8⟩
              case measure => simp [intOf]; omega
          · obtain rfl : j = l.length := by omega
            obtain ⟨g, og, rfl, hgF, hc1⟩ := nat_cell H.out hb
            have s32 := NW.out _ (getD_mem hb)
            have i2 : (b : Int) < (l.length : Int) := by omega
            have MEET : Hid (l.getD b 0 &&& o ≠ 0) := fun h => by
              have h1 := hold.out km km1
              rw [h] at h1
              have h2 : ones (l.getD km 0 &&& o) = 0 := by
                have : ones 0 = 0 := (ones_pos (by omega)).2 rfl
                omega
              exact KM.out ((ones_pos (Nat.lt_of_le_of_lt Nat.and_le_right ho)).1 h2)
            have LESS : Hid (minusN o (l.getD b 0) < o) := minus_less ho s32 MEET.out
            have SUB : Hid (sub (minusN o (l.getD b 0)) (unionN l)) := minus_sub ho s32 hU.out
            have eN := u32_andNot_nat o _ ho s32
            have MN : Hid (minusN o (l.getD b 0) = o &&& (4294967295 - l.getD b 0)) := rfl
            generalize l.getD b 0 = s at hc1 s32 LESS SUB eN MN
            generalize minusN o s = m at LESS SUB MN
            rw [← MN.out] at eN
            have OI := hid (own_below hI.out.1 hB.out)
            have sW := hB.out.size
            go_wp2_with (at_builtin; refine wpList_app _ rfl _ _ 23 rfl w2.heap.size 3 i0 (.int .i64 0) 1 8 Tryd.underlying23 hi hz0 hz1 hz2 rfl (by decide) _ _ _ rfl (OI.out.alloc _) _ _ 1 [.int .i64 b] rfl (cells_1 _ _ _ (by simp)) (by intro u hu; simp at hu; subst hu; rfl) (by unfold maxLen; omega) (by omega) (by simp; omega) ?_; intro v5 w5 hown5 hgrow5 _; have B5 : Hid (Below w2.heap.size w2 w5) := ((BW.out.alloc (Nat.le_trans sI sW) _).grown hgrow5 (by simp; omega) (fun k hk => own_ge OI.out k hk)); have O5 := hid hown5; have d3 := (B5.out.cell (p := ⟨g, og + b, none⟩) (HF.out g hgF)).trans hc1; clear hown5 hgrow5)
            go_roundw
            case rel =>
              refine ⟨m, q ++ [(b : Int)], rfl, by have := LESS.out; omega, by have := LESS.out; simp; omega, SUB, ?_, B5.out⟩
              have := O5.out
              rw [show q.map (Value.int .i64) ++ [Value.int .i64 (b : Int)] = (q ++ [(b : Int)]).map (Value.int .i64) by simp, show q.length + 1 = (q ++ [(b : Int)]).length by simp] at this
              exact this
            case measure => simp only [intOf]; have := LESS.out; omega
  · have E : errV (stC n l) = .iface 43 (.int .i64 (stC n l)) := errV_no hg
    rw [E]
    have HE := hid E
    clear E hg
    go_enter Tryd.func7, Tryd.ntmps7
    go_wp2_with fail
    refine (scheck_any n l F _ w H.out).mono ?_
    rintro e w2 ⟨rfl, rfl⟩
    rw [HE.out]
    go_wp2_with fail
    go_ret2
    exact ⟨_, [], rfl, ⟨World.ownsRow_nil _ _ _ _, Below.refl _ _⟩, by simp⟩
end Go.Proofs.YtfkklhmamhcbhaaDoor
