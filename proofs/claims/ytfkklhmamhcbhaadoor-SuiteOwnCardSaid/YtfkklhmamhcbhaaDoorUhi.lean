/- hit.Hits: the least hitting sets, in order; or what is wrong with the sets. No conditions. -/
import Derived.Test.YtfkklhmamhcbhaaDoorUhc
namespace Go.Proofs.YtfkklhmamhcbhaaDoor
open Go.RowKit Go.Deep
def hitR (l : List Nat) : List Nat := if hitC l = 0 then hitsN l else []
theorem take_snocN {l : List Nat} {j : Nat} (hj : j < l.length) : l.take (j + 1) = l.take j ++ [l.getD j 0] := by
  rw [List.getD_eq_getElem?_getD, List.getElem?_eq_getElem hj]; exact List.take_succ_eq_append_getElem hj
theorem vcell (n : Nat) : ∀ u ∈ [Value.int .u32 (n : Int)], u.oneCell' = true := by intro u hu; simp at hu; subst hu; rfl
theorem ofN_map (a : List Nat) (x : Nat) : (ofN a).map (Value.int .u32) ++ [Value.int .u32 (x : Int)] = (ofN (a ++ [x])).map (Value.int .u32) := by rw [ofN_app, List.map_append]; rfl
theorem and_bit {s j : Nat} : (s &&& 2 ^ j = 0) ↔ s.testBit j = false := by
  constructor
  · intro h
    have := congrArg (fun n => n.testBit j) h
    simpa [Nat.testBit_and, Nat.testBit_two_pow] using this
  · intro h
    apply Nat.eq_of_testBit_eq
    intro i
    rw [Nat.testBit_and, Nat.testBit_two_pow, Nat.zero_testBit]
    by_cases e : j = i
    · subst e; simp [h]
    · simp [e]
theorem nextN_small {s : Nat} (hs : s < 4096) {out : List Nat} (ho : ∀ h ∈ out, h < 4096) : ∀ y ∈ nextN s out, y < 4294967296 := by
  intro y hy
  rcases nextN_mem hs |>.1 hy with ⟨h1, _⟩ | ⟨h, h1, _, i, h3, rfl⟩
  · have := ho y h1; omega
  · have hi : i < 12 := by
      apply Classical.byContradiction
      intro hn
      have : s < 2 ^ i := Nat.lt_of_lt_of_le hs (show 2 ^ 12 ≤ 2 ^ i from Nat.pow_le_pow_right (by omega) (by omega))
      rw [Nat.testBit_lt_two_pow this] at h3
      cases h3
    have : h ||| 2 ^ i < 2 ^ 12 := Nat.or_lt_two_pow (ho h h1) (Nat.pow_lt_pow_right (by omega) hi)
    omega
def HInv (w : World) (v : Value) (l : List Nat) (wr : World) : Prop := wr.ownsRow w.heap.size 30 1 v l.length ((ofN l).map (Value.int .u32)) ∧ Below w.heap.size w wr
theorem HInv.len {w wr : World} {v : Value} {l : List Nat} (h : HInv w v l wr) : ∃ A c, v = .slice A l.length c ∧ l.length ≤ c ∧ c ≤ maxLen := own_sl h.1
theorem HInv.ints {w wr : World} {v : Value} {l : List Nat} (h : HInv w v l wr) (hl : ∀ x ∈ l, x < 4294967296) : IntsIn .u32 (fun b => b < wr.heap.size) wr v (ofN l) := by
  have h1 := h.1
  rw [show l.length = (ofN l).length from (ofN_len l).symm] at h1
  exact (ints_of_own h1 (ofN_wf hl)).more fun b hb => hb.2
theorem HInv.app {w wr w5 : World} {v v5 : Value} {l : List Nat} {x : Nat} {o : Obj} (h : HInv w v l wr) (h5 : w5.ownsRow w.heap.size 30 1 v5 (l.length + 1) ((ofN l).map (Value.int .u32) ++ [Value.int .u32 (x : Int)])) (hg : (wr.alloc o).grownBy w5 v.ownBlock) : HInv w v5 (l ++ [x]) w5 := by
  refine ⟨?_, (h.2.alloc h.2.size _).grown hg (by simp; have := h.2.size; omega) (fun k hk => own_ge h.1 k hk)⟩
  rw [ofN_map] at h5
  rw [show (l ++ [x]).length = l.length + 1 by simp]
  exact h5
set_option maxRecDepth 100000 in
set_option maxHeartbeats 4000000 in
theorem hits_any (l : List Nat) (F : Nat → Prop) (v : Value) (w : World) (hF : ∀ b, F b → b < w.heap.size) (hv : IntsIn .u32 F w v (ofN l)) :
    Calls Tryd.prog 6 #[v] w fun e w' => ∃ r, e = .returned (.tuple #[r, errV (hitC l)]) ∧ HInv w r (hitR l) w' := by
  have HF := hid hF
  have H := hid hv
  have NW := hid (nwf hv)
  obtain ⟨i0, hi, hz0, hz1, hz2⟩ := info_parts infoU32
  obtain ⟨A, c, rfl, ⟨h1, h2⟩, _, h3⟩ := hv
  have H3 := hid h3
  unfold maxLen at h2
  clear h3 hF
  by_cases hg : hitC l = 0
  · have HG := hid hg
    have R : hitR l = hitsN l := if_pos hg
    rw [R]
    clear R
    obtain ⟨l20, lsm⟩ := hitC_good hg
    have LS := hid lsm
    have OL := hid (ofN_len l)
    clear hg lsm
    go_enter Tryd.func6, Tryd.ntmps6
    go_wp2_with fail
    refine (hcheck_any l F _ w H.out).mono ?_
    rintro e w1 ⟨rfl, rfl⟩
    rw [HG.out, errV_0]
    go_wp2_with fail
    rw [OL.out] at *
    go_loopw [5, 20] (fun ov iv wr => ∃ j : Nat, j ≤ l.length ∧ iv = .int .i64 j ∧ Hid (HInv w1 ov (hitsN (l.take j)) wr)) (fun _ iv _ => l.length - (intOf iv).toNat)
    case atStart => exact ⟨0, Nat.zero_le _, rfl, World.ownsRow_lit (e := 30) (size := 1) (base := w1.heap.size) w1 #[.int .u32 0] 1 (Nat.le_refl _) (by unfold maxLen; omega) rfl, (Below.refl _ _).alloc (Nat.le_refl _) _⟩
    case round =>
      obtain ⟨j, hj, rfl, hO⟩ := hrel
      have sB := hO.out.2.size
      by_cases hlt : j < l.length
      · obtain ⟨b, o, rfl, hb, hc⟩ := H3.out (by rw [OL.out]; omega)
        have c1 := (hO.out.2.cell (p := ⟨b, o + j, none⟩) (HF.out b hb)).trans (hc j (by rw [OL.out]; exact hlt))
        rw [show (ofN l).getD j 0 = ((l.getD j 0 : Nat) : Int) from ofN_at l j] at c1
        have i2 : (j : Int) < (l.length : Int) := by omega
        have s12 := LS.out _ (getD_mem hlt)
        have TS := hid (take_snocN hlt)
        clear hc
        generalize l.getD j 0 = s at c1 s12 TS
        have LT : ∀ y ∈ l.take j, y < 4096 := fun y hy => LS.out y (List.mem_of_mem_take hy)
        obtain ⟨os, ol⟩ := hitsN_small LT
        have ES := hid (hitsN_snoc (l.take j) s)
        clear LT
        generalize hitsN (l.take j) = out at hO os ol ES
        have OS := hid os
        obtain ⟨A5, c5, rfl, k1, k2⟩ := hO.out.len
        unfold maxLen at k2
        clear os
        obtain ⟨wo, hwo⟩ : ∃ wo, wo = wr := ⟨_, rfl⟩
        subst hwo
        go_wp2_with fail
        go_loopw [8, 26] (fun nv kv wr => ∃ k : Nat, k ≤ out.length ∧ kv = .int .i64 k ∧ Hid (HInv wo nv (nextN s (out.take k)) wr)) (fun _ kv _ => out.length - (intOf kv).toNat)
        case atStart => exact ⟨0, Nat.zero_le _, rfl, World.ownsRow_nil _ _ _ _, Below.refl _ _⟩
        case round =>
          obtain ⟨k, hk, rfl, hN⟩ := hrel
          have sN := hN.out.2.size
          have nl : (nextN s (out.take k)).length ≤ 49152 := by have := nextN_len s (out.take k); rw [List.length_take] at this; omega
          by_cases hkt : k < out.length
          · obtain ⟨g, c', e1, hgb, hgl, _, _, hcell⟩ := own_open hO.out.1 (by omega)
            injection e1 with e1 _ e2
            subst e1 e2
            have c2 := (hN.out.2.cell (p := ⟨g, k, none⟩) hgl).trans ((hcell k (by omega)).trans (ucell_at (m := ofN out) (i := k) (by rw [ofN_len]; exact hkt)))
            rw [ofN_at] at c2
            have i3 : (k : Int) < (out.length : Int) := by omega
            have h12 := OS.out _ (getD_mem hkt)
            have TK := hid (take_snocN hkt)
            clear hcell
            generalize out.getD k 0 = h at c2 h12 TK
            have EN := hid (nextN_snoc s (out.take k) h)
            generalize nextN s (out.take k) = nx at hN nl EN
            obtain ⟨A8, c8, rfl, k3, k4⟩ := hN.out.len
            unfold maxLen at k4
            have eA := u32_and_nat h s (by omega) (by omega)
            by_cases e : h &&& s = 0
            · have ON : Hid (oneN s h = bitsN s h 12) := if_pos e
              rw [e] at eA
              clear e c1
              obtain ⟨wp, hwp⟩ : ∃ wp, wp = wr := ⟨_, rfl⟩
              subst hwp
              go_wp2_with fail
              go_loopw [8, 11] (fun nv bv wr => ∃ i : Nat, i ≤ 12 ∧ bv = .int .u32 ((2 ^ i : Nat) : Int) ∧ Hid (HInv wo nv (nx ++ bitsN s h i) wr)) (fun _ bv _ => 8192 - (intOf bv).toNat)
              case atStart => exact ⟨0, by omega, rfl, by show HInv _ _ _ _; rw [bitsN_zero, List.append_nil]; exact hN.out⟩
              case round =>
                obtain ⟨i, hi12, rfl, hT⟩ := hrel
                have sT := hT.out.2.size
                obtain ⟨p, hp⟩ : ∃ p, p = 2 ^ i := ⟨_, rfl⟩
                have p1 : 1 ≤ p := by rw [hp]; exact Nat.one_le_two_pow
                have p2 : p ≤ 4096 := by rw [hp]; exact (Nat.pow_le_pow_right (by omega) hi12 : 2 ^ i ≤ 2 ^ 12)
                have tl : (nx ++ bitsN s h i).length ≤ 49164 := by have := bitsN_len s h i; rw [List.length_append]; omega
                rw [← hp]
                have HP := hid hp
                by_cases hps : p ≤ s
                · have ps1 : (p : Int) ≤ (s : Int) := by omega
                  have i11 : i < 12 := by
                    apply Classical.byContradiction
                    intro hn
                    obtain rfl : i = 12 := by omega
                    simp at hp; omega
                  have eB := u32_and_nat s p (by omega) (by omega)
                  have eO := u32_or_nat h p (by omega) (by omega)
                  have M : Hid (2 ^ (i + 1) = p * 2) := by show _ = _; rw [hp, Nat.pow_succ]
                  cases hb : s.testBit i with
                  | true =>
                    have E := hid (bitsN_yes (h := h) hb)
                    have q1 : ¬ ((s &&& p : Nat) : Int) = 0 := by
                      intro h0
                      have : s &&& 2 ^ i = 0 := by rw [← hp]; exact_mod_cast h0
                      rw [and_bit.1 this] at hb; cases hb
                    rw [← hp] at E
                    generalize s &&& p = q at eB q1
                    generalize hx : h ||| p = x at eO E
                    generalize hL : nx ++ bitsN s h i = L at hT tl
                    obtain ⟨A9, c9, rfl, k5, k6⟩ := hT.out.len
                    unfold maxLen at k6
                    have HL := hid hL
                    clear hb hp hL hx
                    go_wp2_with (at_builtin; refine wpList_app _ rfl _ _ 22 rfl wo.heap.size 30 i0 (.int .u32 0) 1 4 Tryd.underlying22 hi hz0 hz1 hz2 rfl (by decide) _ _ _ rfl (hT.out.1.alloc _) _ _ 1 [.int .u32 x] rfl (cells_1 _ _ _ (by simp)) (vcell x) (by unfold maxLen; omega) (by omega) (by simp; omega) ?_; intro v5 w5 hown5 hgrow5 _; have O5 := hid (hT.out.app hown5 hgrow5); clear hown5 hgrow5)
                    go_roundw
                    case rel => exact ⟨i + 1, by omega, by rw [M.out]; push_cast; rfl, by show HInv _ _ _ _; rw [E.out, ← List.append_assoc, HL.out]; exact O5.out⟩
                    case measure => simp only [intOf]; omega
                  | false =>
                    have E := hid (bitsN_no (h := h) hb)
                    have q1 : ((s &&& p : Nat) : Int) = 0 := by
                      have : s &&& p = 0 := by rw [hp]; exact and_bit.2 hb
                      exact_mod_cast this
                    generalize s &&& p = q at eB q1
                    clear hb hp
                    go_wp2_with fail
                    go_roundw
                    case rel => exact ⟨i + 1, by omega, by rw [M.out]; push_cast; rfl, by show HInv _ _ _ _; rw [E.out]; exact hT.out⟩
                    case measure => simp only [intOf]; omega
                · have ps1 : ¬ (p : Int) ≤ (s : Int) := by omega
                  have E := hid (bitsN_end (s := s) (h := h) (j := i) (by rw [← hp]; omega) 12 hi12)
                  clear hp
                  go_wp2_with fail
                  go_roundw
                  case rel => exact ⟨k + 1, by omega, by go_num, by show HInv _ _ _ _; rw [TK.out, EN.out, ON.out, E.out]; exact hT.out⟩
                  case measure => simp [intOf]; omega
            · have ON : Hid (oneN s h = [h]) := if_neg e
              have q1 : ¬ ((h &&& s : Nat) : Int) = 0 := by omega
              generalize h &&& s = q at eA q1
              clear e
              go_wp2_with (at_builtin; refine wpList_app _ rfl _ _ 22 rfl wo.heap.size 30 i0 (.int .u32 0) 1 4 Tryd.underlying22 hi hz0 hz1 hz2 rfl (by decide) _ _ _ rfl (hN.out.1.alloc _) _ _ 1 [.int .u32 h] rfl (cells_1 _ _ _ (by simp)) (vcell h) (by unfold maxLen; omega) (by omega) (by simp; omega) ?_; intro v5 w5 hown5 hgrow5 _; have O5 := hid (hN.out.app hown5 hgrow5); clear hown5 hgrow5)
              go_roundw
              case rel => exact ⟨k + 1, by omega, by go_num, by show HInv _ _ _ _; rw [TK.out, EN.out, ON.out]; exact O5.out⟩
              case measure => simp [intOf]; omega
          · obtain rfl : k = out.length := by omega
            rw [List.take_length] at hN nl
            have SM : Hid (∀ y ∈ nextN s out, y < 4294967296) := fun y hy => nextN_small s12 OS.out y hy
            generalize nextN s out = nx at hN nl ES SM
            have CA := hid (leastN_cast nx)
            have LN := hid (leastN_len nx)
            obtain ⟨A8, c8, rfl, k3, k4⟩ := hN.out.len
            have NI := hid (hN.out.ints SM.out)
            have NL := hid (ofN_len nx)
            clear c1 SM
            go_wp2_with fail
            refine (least_any (ofN nx) _ _ wr (fun b h => h) NI.out (by rw [NL.out]; omega)).mono ?_
            rintro e w6 ⟨r6, rfl, hown, hb6⟩
            rw [CA.out, ofN_len] at hown
            have O6 : Hid (HInv w1 r6 (leastN nx) w6) := ⟨own_lo hown (Nat.le_trans sB sN), (hO.out.2.trans (hN.out.2.mono sB)).trans (hb6.mono (Nat.le_trans sB sN))⟩
            clear hown hb6
            obtain ⟨A9, c9, rfl, _, _⟩ := O6.out.len
            go_wp2_with fail
            go_roundw
            case rel => exact ⟨j + 1, by omega, by go_num, by show HInv _ _ _ _; rw [TS.out, ES.out]; exact O6.out⟩
            case measure => simp [intOf]; omega
      · obtain rfl : j = l.length := by omega
        rw [List.take_length] at hO
        obtain ⟨A5, c5, rfl, _, _⟩ := hO.out.len
        go_wp2_with fail
        go_ret2
        exact ⟨_, by rw [HG.out]; rfl, hO.out⟩
  · have R : hitR l = [] := if_neg hg
    have E : errV (hitC l) = .iface 43 (.int .i64 (hitC l)) := errV_no hg
    rw [R, E]
    have HE := hid E
    clear R E hg
    go_enter Tryd.func6, Tryd.ntmps6
    go_wp2_with fail
    refine (hcheck_any l F _ w H.out).mono ?_
    rintro e w1 ⟨rfl, rfl⟩
    rw [HE.out]
    go_wp2_with fail
    go_ret2
    exact ⟨_, rfl, World.ownsRow_nil _ _ _ _, Below.refl _ _⟩
end Go.Proofs.YtfkklhmamhcbhaaDoor
