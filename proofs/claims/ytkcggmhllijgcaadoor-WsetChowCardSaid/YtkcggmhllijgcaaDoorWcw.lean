/- The law WsetChow: it returns true, and all that the call was given reads as before. Condition: errors.errorType holds its handle. -/
import Derived.Test.YtkcggmhllijgcaaDoorWcm
import Derived.Test.YtkcggmhllijgcaaDoorAs
import Derived.Test.YtkcggmhllijgcaaDoorBad
import Derived.Test.YtkcggmhllijgcaaDoorApt
import Derived.Test.YtkcggmhllijgcaaDoorHle
namespace Go.Proofs.YtkcggmhllijgcaaDoor
open Go.RowKit Go.Deep
def LawPost (W : World) (e : Ending) (w' : World) : Prop := e = .returned (.bool true) ∧ Below W.heap.size W w'
set_option maxRecDepth 100000 in
set_option maxHeartbeats 4000000 in
theorem wsetChow_walk (m : MachD) (u : Value) (o : MachD) (v : Value) (x : Int) (W : World) (hL : Laid W) (hu : MachIn (fun b => b < W.heap.size) W u m) (hv : MachIn (fun b => b < W.heap.size) W v o) :
    Calls Tryd.prog 5 #[u, v, .int .i64 x] W (LawPost W) := by
  have HL := hid hL
  have HU := hid hu
  have HV := hid hv
  obtain ⟨o1, n1, rfl, ⟨A1, c1, rfl, -, -⟩, ⟨A2, c2, rfl, -, -⟩⟩ := hu
  obtain ⟨o2, n2, rfl, ⟨A3, c3, rfl, -, hr3⟩, ⟨A4, c4, rfl, -, -⟩⟩ := hv
  have HR3 := hid hr3
  clear hL hr3
  obtain ⟨w1, hw1⟩ : ∃ w1, w1 = W.alloc (.cells #[.slice A1 m.out.length c1, .slice A2 m.next.length c2] 24) := ⟨_, rfl⟩
  obtain ⟨w2, hw2⟩ : ∃ w2, w2 = w1.alloc (.cells #[.slice A3 o.out.length c3, .slice A4 o.next.length c4] 24) := ⟨_, rfl⟩
  obtain ⟨b1, hb1⟩ : ∃ b1, b1 = W.heap.size := ⟨_, rfl⟩
  obtain ⟨b2, hb2⟩ : ∃ b2, b2 = W.heap.size + 1 := ⟨_, rfl⟩
  have SZ : Hid (b1 = W.heap.size ∧ b2 = W.heap.size + 1 ∧ w2.heap.size = W.heap.size + 2) := by
    show _ ∧ _
    exact ⟨hb1, hb2, by rw [hw2, hw1]; simp⟩
  have B2 : Hid (Below W.heap.size W w2) := by show Below _ _ _; rw [hw2, hw1]; exact ((Below.refl _ _).alloc (Nat.le_refl _) _).alloc (by simp) _
  have X1 : Hid (w2.heap[b1]? = some (.cells #[.slice A1 m.out.length c1, .slice A2 m.next.length c2] 24 (0, 0))) := by show _ = _; rw [hw2, hw1, hb1]; exact Has.alloc (Has.new W _) _
  have X2 : Hid (w2.heap[b2]? = some (.cells #[.slice A3 o.out.length c3, .slice A4 o.next.length c4] 24 (0, 0))) := by show _ = _; rw [hw2, hw1]; exact Has.newAt _ _ (by simp; omega)
  go_enter Tryd.func5, Tryd.ntmps5
  go_upto_region 1 with fail
  rw [← hw1, ← hw2, ← hb1]
  have e1 : b1 + 1 = b2 := by rw [hb1, hb2]
  rw [e1]
  clear e1 hw1 hw2 hb1 hb2
  go_wp2_with fail
  refine (lit_any _).mono ?_
  rintro e w3 ⟨rfl, hb⟩
  have s3 := hb.size
  have B3 := hid (B2.out.trans (hb.mono (by have := SZ.out; omega)))
  have X13 := hid (Has.below X1.out hb (Has.lt X1.out))
  have X23 := hid (Has.below X2.out hb (Has.lt X2.out))
  have x0 := (Has.cell X13.out 0).trans rfl
  have x1 := (Has.cell X13.out 1).trans rfl
  have VM3 : Hid (MachIn (fun b => b < W.heap.size) w3 (.agg #[.slice A1 m.out.length c1, .slice A2 m.next.length c2]) m) := HU.out.keep (Same.of_below B3.out fun b h => h)
  clear hb
  by_cases hc : chk m = 0
  · have GM := hid (chk_good hc)
    clear hc
    go_wp2_with fail
    refine (least_ok m (fun b => b < W.heap.size) _ w3 (fun b h => by have := SZ.out; omega) VM3.out GM.out).mono ?_
    rintro e w4 ⟨v4, cc, l, rfl, hco, hld, hm4, hb4⟩
    have CO := hid hco
    have LD := hid hld
    have s4 := hb4.size
    have B4 := hid (B3.out.trans (hb4.mono (by have := SZ.out; omega)))
    have X24 := hid (Has.below X23.out hb4 (Has.lt X23.out))
    have L4 := hid hm4
    have LP : Hid (Good l ∧ ins l = ins m) := by
      have := least_props GM.out CO.out LD.out
      exact ⟨this.1, this.2.1⟩
    obtain ⟨oo, nn, rfl, ⟨A5, c5, rfl, -, hr5⟩, ⟨A6, c6, rfl, -, -⟩⟩ := hm4
    have HR5 := hid hr5
    clear hco hld hb4 x0 x1 hr5
    obtain ⟨w5, hw5⟩ : ∃ z, z = w4.alloc (.cells #[.slice A5 l.out.length c5, .slice A6 l.next.length c6] 24) := ⟨_, rfl⟩
    obtain ⟨bl, hbl⟩ : ∃ b, b = w4.heap.size := ⟨_, rfl⟩
    have HS : Hid (bl = w4.heap.size ∧ w5.heap.size = w4.heap.size + 1) := by show _ ∧ _; exact ⟨hbl, by rw [hw5]; simp⟩
    have Q45 : Hid (Below w4.heap.size w4 w5) := by show Below _ _ _; rw [hw5]; exact (Below.refl _ _).alloc (Nat.le_refl _) _
    have XL5 : Hid (w5.heap[bl]? = some (.cells #[.slice A5 l.out.length c5, .slice A6 l.next.length c6] 24 (0, 0))) := by show _ = _; rw [hw5, hbl]; exact Has.new w4 _
    have X25 := hid (Has.below X24.out Q45.out (Has.lt X24.out))
    have B5 := hid (B4.out.trans (Q45.out.mono (by have := B4.out.size; omega)))
    have s5 := B5.out.size
    have L5 := hid ((L4.out.keep (w' := w5) fun b hb => Q45.out.block b hb.2).more (F' := fun b => b < w5.heap.size) fun b hb => by have := hb.2; have := HS.out; omega)
    have VO5 := hid ((HV.out.keep (Same.of_below B5.out fun b h => h)).more (F' := fun b => b < w5.heap.size) fun b h => by omega)
    have y0 := (Has.cell XL5.out 0).trans rfl
    have y1 := (Has.cell XL5.out 1).trans rfl
    go_upto_region 5 with fail
    rw [← hw5, ← hbl]
    clear hw5 hbl
    by_cases hx : 0 ≤ x ∧ x ≤ 2
    · obtain ⟨e0, rfl⟩ : ∃ e : Nat, x = e := ⟨x.toNat, by omega⟩
      have he : e0 ≤ 2 := by omega
      have HE := hid he
      clear hx
      go_wp2_with fail
      refine (suite_ok l e0 (fun b => b < w5.heap.size) _ w5 (fun b h => h) L5.out LP.out.1 he).mono ?_
      rintro e w6 ⟨r6, seen, reach, rfl, hRe, hr6, hb6⟩
      have RE := hid hRe
      obtain ⟨ws, hws⟩ : ∃ ws, ws = suiteL l e0 reach := ⟨_, rfl⟩
      have WS := hid hws
      have SW : Hid (∀ w ∈ ws, word l w ∧ w.length ≤ 19) := fun w h => by
        rw [WS.out] at h
        have := suite_word LP.out.1 RE.out h
        exact ⟨this.1, by have := HE.out; omega⟩
      have wp : ((ws.length : Int) == 0) = false := by have := suite_pos (e := e0) hRe; rw [← hws] at this; rw [beq_eq_false_iff_ne]; omega
      have wp1 : ¬ ws.length = 0 := by have := suite_pos (e := e0) hRe; rw [← hws] at this; omega
      have wl : ¬ (20000 : Int) < (ws.length : Int) := by have := suite_len LP.out.1 he hRe; rw [← hws] at this; omega
      rw [← hws] at hr6
      have Q6 := hid hb6
      have s6 := hb6.size
      have R6 := hid (hr6.more (F' := fun b => b < w6.heap.size) fun b hb => hb.2)
      have L6 := hid ((L5.out.keep (Same.of_below Q6.out fun b h => h)).more (F' := fun b => b < w6.heap.size) fun b h => by omega)
      have VO6 := hid ((VO5.out.keep (Same.of_below Q6.out fun b h => h)).more (F' := fun b => b < w6.heap.size) fun b h => by omega)
      have XL6 := hid (Has.below XL5.out Q6.out (Has.lt XL5.out))
      have X26 := hid (Has.below X25.out Q6.out (Has.lt X25.out))
      have B6 := hid (B5.out.trans (Q6.out.mono s5))
      obtain ⟨A7, c7, rfl, -, -⟩ := hr6
      clear hb6 hRe y0 y1 hws
      have y0 := (Has.cell XL6.out 0).trans rfl
      have y1 := (Has.cell XL6.out 1).trans rfl
      have y2 := (Has.cell X26.out 0).trans rfl
      have y3 := (Has.cell X26.out 1).trans rfl
      go_wp2_with fail
      refine (passes_one l o ws (fun b => b < w6.heap.size) _ _ _ w6 (fun b h => h) L6.out VO6.out R6.out (fun w h => by have := (SW.out w h).2; omega)).mono ?_
      rintro e w7 ⟨rfl, hb7⟩
      have Q7 := hid hb7
      have s7 := hb7.size
      have L7 := hid ((L6.out.keep (Same.of_below Q7.out fun b h => h)).more (F' := fun b => b < w7.heap.size) fun b h => by omega)
      have VO7 := hid ((VO6.out.keep (Same.of_below Q7.out fun b h => h)).more (F' := fun b => b < w7.heap.size) fun b h => by omega)
      have XL7 := hid (Has.below XL6.out Q7.out (Has.lt XL6.out))
      have X27 := hid (Has.below X26.out Q7.out (Has.lt X26.out))
      have B7 := hid (B6.out.trans (Q7.out.mono (by have := B6.out.size; omega)))
      have W7 := B7.out.size
      have LL := hid (Has.lt XL7.out)
      have L2 := hid (Has.lt X27.out)
      clear hb7 y0 y1 y2 y3
      have y0 := (Has.cell XL7.out 0).trans rfl
      have y1 := (Has.cell XL7.out 1).trans rfl
      have y2 := (Has.cell X27.out 0).trans rfl
      have y3 := (Has.cell X27.out 1).trans rfl
      by_cases h2 : chk o = 0
      · have GO := hid (chk_good h2)
        have H2 : Hid (errV (chk o) = .nilIface) := by show _ = _; rw [h2]; rfl
        clear h2
        obtain ⟨nl, hnl⟩ : ∃ n, n = ins l := ⟨_, rfl⟩
        obtain ⟨no, hno⟩ : ∃ n, n = ins o := ⟨_, rfl⟩
        have HNL := hid hnl
        have HNO := hid hno
        clear hnl hno
        by_cases hne : nl = no
        · subst hne
          have CP := hid (chow_pass GM.out CO.out LD.out GO.out (HNL.out.symm.trans HNO.out) (e := e0) RE.out)
          rw [← WS.out] at CP
          rw [CP.out.1, errV_ok]
          obtain ⟨pp, hpp⟩ : ∃ p, p = passB l o ws := ⟨_, rfl⟩
          rw [← hpp] at CP
          rw [← hpp]
          clear hpp
          go_wp2_with fail
          refine (apart_ok l o (fun b => b < w7.heap.size) _ _ w7 (fun b h => h) L7.out VO7.out LP.out.1 GO.out (HNL.out.symm.trans HNO.out)).mono ?_
          rintro e w8 ⟨r8, rfl, hr8, hb8⟩
          obtain ⟨A9, c9, rfl, -, -, -⟩ := hr8
          have Q8 := hid hb8
          have s8 := hb8.size
          have B8 := hid (B7.out.trans (hb8.mono W7))
          have XL8 := hid (Has.below XL7.out hb8 LL.out)
          have X28 := hid (Has.below X27.out hb8 L2.out)
          clear hb8 y0 y1 y2 y3
          go_wp2_with fail
          refine (serror_any (apC l o) 2 w8 (Laid.below HL.out B8.out)).mono ?_
          rintro e w9 ⟨rfl, hb9⟩
          obtain ⟨bb, hbb⟩ : ∃ b, b = decide (apC l o = 2) := ⟨_, rfl⟩
          have P1 : Hid (bb = true → pp = true) := fun h => CP.out.2.1 (of_decide_eq_true (by rw [← hbb]; exact h))
          have P2 : Hid (o.out.length ≤ l.out.length + e0 → pp = true → bb = true) := fun h1 h2 => by rw [hbb]; exact decide_eq_true (CP.out.2.2 h1 h2)
          rw [← hbb]
          clear hbb
          have XL9 := hid (Has.below XL8.out hb9 (Has.lt XL8.out))
          have X29 := hid (Has.below X28.out hb9 (Has.lt X28.out))
          have B9 := hid (B8.out.trans (hb9.mono (by have := B8.out.size; omega)))
          clear hb9
          have y0 := (Has.cell XL9.out 0).trans rfl
          have y2 := (Has.cell X29.out 0).trans rfl
          have bo := GO.out.le
          have bl6 := LP.out.1.le
          by_cases hlen : l.out.length + e0 < o.out.length
          · have hlen' : (l.out.length : Int) + (e0 : Int) < (o.out.length : Int) := by omega
            cases bb with
            | true =>
              have hp := P1.out rfl
              subst hp
              clear hlen
              go_wp2_with fail
              go_ret
              exact ⟨rfl, B9.out⟩
            | false =>
              clear hlen
              go_wp2_with fail
              go_ret
              exact ⟨rfl, B9.out⟩
          · have hlen' : ¬ (l.out.length : Int) + (e0 : Int) < (o.out.length : Int) := by omega
            have hpb : pp = bb := by
              have h1 := P1.out
              have h2 := P2.out (by omega)
              cases pp <;> cases bb <;> simp_all
            subst hpb
            clear hlen
            go_wp2_with fail
            go_ret
            refine ⟨?_, B9.out⟩
            cases pp <;> rfl
        · have PF : Hid (errV (passFault l o ws) = .iface 33 (.int .i64 3)) := by
            show _ = _
            have : passFault l o ws = 3 := by
              unfold passFault
              rw [if_neg (by simp [good_chk LP.out.1]), if_neg (by simp [good_chk GO.out]), if_pos (by rw [← HNL.out, ← HNO.out]; exact hne)]
            rw [this]; exact errV_no (by decide)
          rw [PF.out]
          have hne' : ¬ (no : Int) = (nl : Int) := by omega
          have g3 : 0 < o.out.length := GO.out.pos
          have g5 : 0 < l.out.length := LP.out.1.pos
          obtain ⟨d3, f3, rfl, hd3, h3⟩ := HR3.out g3
          obtain ⟨r3, q3, hr3⟩ := h3 0 g3
          have z3 := (B7.out.cell (p := ⟨d3, f3 + 0, none⟩) hd3).trans q3
          rw [Nat.add_zero] at z3
          obtain ⟨G3, k3, rfl, -, -, -⟩ := hr3
          obtain ⟨d5, f5, rfl, hd5, h5⟩ := HR5.out g5
          obtain ⟨r5, q5, hr5⟩ := h5 0 g5
          have Q47 := hid (Q45.out.trans ((Q6.out.trans (Q7.out.mono s6)).mono (by have := HS.out; omega)))
          have z5 := (Q47.out.cell (p := ⟨d5, f5 + 0, none⟩) hd5.2).trans q5
          rw [Nat.add_zero] at z5
          obtain ⟨G5, k5, rfl, -, -, -⟩ := hr5
          have IN3 : Hid ((rowAt o.out 0).length = no) := HNO.out.symm
          have IN5 : Hid ((rowAt l.out 0).length = nl) := HNL.out.symm
          rw [IN3.out] at z3
          rw [IN5.out] at z5
          have LD3 : Hid (d3 < w7.heap.size) := by show _ < _; omega
          have LD5 : Hid (d5 < w7.heap.size) := by show _ < _; have := hd5.2; have := Q47.out.size; omega
          clear hne h3 h5 q3 q5 hd3 hd5
          go_upto_region 13 with fail
          have Q8 := hid ((Below.refl w7.heap.size w7).drew)
          refine wp_region_l (S := (fun w' => w'.cell? ⟨b2, 0, none⟩ = some (.slice (some ⟨d3, f3, none⟩) o.out.length c3) ∧ w'.cell? ⟨b2, 1, none⟩ = some (.slice A4 o.next.length c4) ∧ w'.cell? ⟨bl, 0, none⟩ = some (.slice (some ⟨d5, f5, none⟩) l.out.length c5) ∧ w'.cell? ⟨d3, f3, none⟩ = some (.slice G3 no k3) ∧ w'.cell? ⟨d5, f5, none⟩ = some (.slice G5 nl k5))) (Ls := [16]) (by kernel_rfl) ⟨y2, y3, y0, z3, z5⟩ (fun hHeld => ?_)
          refine takeL [16] (i := 0) (d := 67) (oi := _) (v := ?_) rfl rfl (by kernel_rfl) (by kernel_rfl) (by kernel_rfl) (by kernel_rfl) (by kernel_rfl) (fun _ _ _ h => h) (Or.inl ⟨by rfl, ?_⟩) (by assumption) ?_
          rotate_left
          · intro wz hSw; (try dsimp only at hSw); go_simp; (try with_reducible rfl)
          try simp only [Act.put, List.setIfInBounds_toArray, List.set_cons_zero, List.set_cons_succ]
          refine nxtL (i := 1) (o := _) (by kernel_rfl) rfl (fun K' hK => ?_)
          go_simp
          refine (check_any o (fun b => b < w7.heap.size) _ w7.drew (fun b h => by simpa using h) (VO7.out.keep fun _ _ => rfl)).mono ?_
          rintro e w9 ⟨he, hb⟩
          rw [H2.out] at he
          subst he
          have Q9 := hid (Q8.out.trans (hb.mono Q8.out.size))
          clear hb hHeld
          have hHeld : (fun w' => w'.cell? ⟨b2, 0, none⟩ = some (.slice (some ⟨d3, f3, none⟩) o.out.length c3) ∧ w'.cell? ⟨b2, 1, none⟩ = some (.slice A4 o.next.length c4) ∧ w'.cell? ⟨bl, 0, none⟩ = some (.slice (some ⟨d5, f5, none⟩) l.out.length c5) ∧ w'.cell? ⟨d3, f3, none⟩ = some (.slice G3 no k3) ∧ w'.cell? ⟨d5, f5, none⟩ = some (.slice G5 nl k5)) w9 := ⟨(Q9.out.cell (p := ⟨b2, 0, none⟩) L2.out).trans y2, (Q9.out.cell (p := ⟨b2, 1, none⟩) L2.out).trans y3, (Q9.out.cell (p := ⟨bl, 0, none⟩) LL.out).trans y0, (Q9.out.cell (p := ⟨d3, f3, none⟩) LD3.out).trans z3, (Q9.out.cell (p := ⟨d5, f5, none⟩) LD5.out).trans z5⟩
          refine hK.out _ _ (Or.inl hHeld) ?_
          clear hK K'
          try simp only [Act.put, List.setIfInBounds_toArray, List.set_cons_zero, List.set_cons_succ]
          refine takeL [16] (i := 2) (d := 69) (oi := _) (v := ?_) rfl rfl (by kernel_rfl) (by kernel_rfl) (by kernel_rfl) (by kernel_rfl) (by kernel_rfl) (fun _ _ _ h => h) (Or.inl ⟨by rfl, ?_⟩) (by assumption) ?_
          rotate_left
          · intro wz hSw; (try dsimp only at hSw); go_simp; (try with_reducible rfl)
          try simp only [Act.put, List.setIfInBounds_toArray, List.set_cons_zero, List.set_cons_succ]
          refine takeL [16] (i := 3) (d := 70) (oi := _) (v := ?_) rfl rfl (by kernel_rfl) (by kernel_rfl) (by kernel_rfl) (by kernel_rfl) (by kernel_rfl) (fun _ _ _ h => h) (Or.inl ⟨by rfl, ?_⟩) (by assumption) ?_
          rotate_left
          · intro wz hSw; (try dsimp only at hSw); go_simp; (try with_reducible rfl)
          try simp only [Act.put, List.setIfInBounds_toArray, List.set_cons_zero, List.set_cons_succ]
          refine takeL [16] (i := 4) (d := 71) (oi := _) (v := ?_) rfl rfl (by kernel_rfl) (by kernel_rfl) (by kernel_rfl) (by kernel_rfl) (by kernel_rfl) (fun _ _ _ h => h) (Or.inl ⟨by rfl, ?_⟩) (by assumption) ?_
          rotate_left
          · intro wz hSw; (try dsimp only at hSw); go_simp; (try with_reducible rfl)
          try simp only [Act.put, List.setIfInBounds_toArray, List.set_cons_zero, List.set_cons_succ]
          refine takeL [16] (i := 5) (d := 72) (oi := _) (v := ?_) rfl rfl (by kernel_rfl) (by kernel_rfl) (by kernel_rfl) (by kernel_rfl) (by kernel_rfl) (fun _ _ _ h => h) (Or.inl ⟨by rfl, ?_⟩) (by assumption) ?_
          rotate_left
          · intro wz hSw; (try dsimp only at hSw); go_simp; (try with_reducible rfl)
          try simp only [Act.put, List.setIfInBounds_toArray, List.set_cons_zero, List.set_cons_succ]
          refine takeL [16] (i := 6) (d := 73) (oi := _) (v := ?_) rfl rfl (by kernel_rfl) (by kernel_rfl) (by kernel_rfl) (by kernel_rfl) (by kernel_rfl) (fun _ _ _ h => h) (Or.inl ⟨by rfl, ?_⟩) (by assumption) ?_
          rotate_left
          · intro wz hSw; (try dsimp only at hSw); go_simp; (try with_reducible rfl)
          try simp only [Act.put, List.setIfInBounds_toArray, List.set_cons_zero, List.set_cons_succ]
          refine takeL [16] (i := 7) (d := 74) (oi := _) (v := ?_) rfl rfl (by kernel_rfl) (by kernel_rfl) (by kernel_rfl) (by kernel_rfl) (by kernel_rfl) (fun _ _ _ h => h) (Or.inl ⟨by rfl, ?_⟩) (by assumption) ?_
          rotate_left
          · intro wz hSw; (try dsimp only at hSw); go_simp; (try with_reducible rfl)
          try simp only [Act.put, List.setIfInBounds_toArray, List.set_cons_zero, List.set_cons_succ]
          refine takeL [16] (i := 8) (d := 75) (oi := _) (v := ?_) rfl rfl (by kernel_rfl) (by kernel_rfl) (by kernel_rfl) (by kernel_rfl) (by kernel_rfl) (fun _ _ _ h => h) (Or.inl ⟨by rfl, ?_⟩) (by assumption) ?_
          rotate_left
          · intro wz hSw; (try dsimp only at hSw); go_simp; (try with_reducible rfl)
          try simp only [Act.put, List.setIfInBounds_toArray, List.set_cons_zero, List.set_cons_succ]
          refine takeL [16] (i := 9) (d := 76) (oi := _) (v := ?_) rfl rfl (by kernel_rfl) (by kernel_rfl) (by kernel_rfl) (by kernel_rfl) (by kernel_rfl) (fun _ _ _ h => h) (Or.inl ⟨by rfl, ?_⟩) (by assumption) ?_
          rotate_left
          · intro wz hSw; (try dsimp only at hSw); go_simp; (try with_reducible rfl)
          try simp only [Act.put, List.setIfInBounds_toArray, List.set_cons_zero, List.set_cons_succ]
          refine takeL [16] (i := 10) (d := 77) (oi := _) (v := ?_) rfl rfl (by kernel_rfl) (by kernel_rfl) (by kernel_rfl) (by kernel_rfl) (by kernel_rfl) (fun _ _ _ h => h) (Or.inl ⟨by rfl, ?_⟩) (by assumption) ?_
          rotate_left
          · intro wz hSw; (try dsimp only at hSw); go_simp; (try with_reducible rfl)
          try simp only [Act.put, List.setIfInBounds_toArray, List.set_cons_zero, List.set_cons_succ]
          refine takeL [16] (i := 11) (d := 78) (oi := _) (v := ?_) rfl rfl (by kernel_rfl) (by kernel_rfl) (by kernel_rfl) (by kernel_rfl) (by kernel_rfl) (fun _ _ _ h => h) (Or.inl ⟨by rfl, ?_⟩) (by assumption) ?_
          rotate_left
          · intro wz hSw; (try dsimp only at hSw); go_simp; (try with_reducible rfl)
          try simp only [Act.put, List.setIfInBounds_toArray, List.set_cons_zero, List.set_cons_succ]
          refine takeL [16] (i := 12) (d := 79) (oi := _) (v := ?_) rfl rfl (by kernel_rfl) (by kernel_rfl) (by kernel_rfl) (by kernel_rfl) (by kernel_rfl) (fun _ _ _ h => h) (Or.inl ⟨by rfl, ?_⟩) (by assumption) ?_
          rotate_left
          · intro wz hSw; (try dsimp only at hSw); go_simp; (try with_reducible rfl)
          try simp only [Act.put, List.setIfInBounds_toArray, List.set_cons_zero, List.set_cons_succ]
          refine takeL [16] (i := 13) (d := 80) (oi := _) (v := ?_) rfl rfl (by kernel_rfl) (by kernel_rfl) (by kernel_rfl) (by kernel_rfl) (by kernel_rfl) (fun _ _ _ h => h) (Or.inl ⟨by rfl, ?_⟩) (by assumption) ?_
          rotate_left
          · intro wz hSw; (try dsimp only at hSw); go_simp; (try with_reducible rfl)
          try simp only [Act.put, List.setIfInBounds_toArray, List.set_cons_zero, List.set_cons_succ]
          refine takeL [16] (i := 14) (d := 81) (oi := _) (v := ?_) rfl rfl (by kernel_rfl) (by kernel_rfl) (by kernel_rfl) (by kernel_rfl) (by kernel_rfl) (fun _ _ _ h => h) (Or.inl ⟨by rfl, ?_⟩) (by assumption) ?_
          rotate_left
          · intro wz hSw; (try dsimp only at hSw); go_simp; (try with_reducible rfl)
          try simp only [Act.put, List.setIfInBounds_toArray, List.set_cons_zero, List.set_cons_succ]
          refine takeL [16] (i := 15) (d := 82) (oi := _) (v := ?_) rfl rfl (by kernel_rfl) (by kernel_rfl) (by kernel_rfl) (by kernel_rfl) (by kernel_rfl) (fun _ _ _ h => h) (Or.inl ⟨by rfl, ?_⟩) (by assumption) ?_
          rotate_left
          · intro wz hSw; (try dsimp only at hSw); go_simp; (try with_reducible rfl)
          try simp only [Act.put, List.setIfInBounds_toArray, List.set_cons_zero, List.set_cons_succ]
          refine nxtL (i := 16) (o := _) (by kernel_rfl) rfl (fun K' hK => ?_)
          go_simp
          refine hK.out _ _ (Or.inr (by simp)) ?_
          clear hK K'
          try simp only [Act.put, List.setIfInBounds_toArray, List.set_cons_zero, List.set_cons_succ]
          refine doneL (by kernel_rfl) ?_ _
          clear hHeld
          have B9 := hid (B7.out.trans (Q9.out.mono W7))
          go_wp2_with fail
          go_ret
          refine ⟨?_, B9.out⟩
          have hb : ((no : Int) != (nl : Int)) = true := by rw [bne_iff_ne]; exact hne'
          show Ending.returned (.bool ((no : Int) != (nl : Int))) = _
          rw [hb]
      · have PF : Hid (errV (passFault l o ws) = .iface 33 (.int .i64 (chk o))) := by
          show _ = _
          have : passFault l o ws = chk o := by
            unfold passFault
            rw [if_neg (by simp [good_chk LP.out.1]), if_pos h2]
          rw [this]; exact errV_no h2
        rw [PF.out]
        have H2 := hid (errV_no h2)
        clear h2
        go_upto_region 13 with fail
        have Q8 := hid ((Below.refl w7.heap.size w7).drew)
        refine wp_region_l (S := (fun w' => w'.cell? ⟨b2, 0, none⟩ = some (.slice A3 o.out.length c3) ∧ w'.cell? ⟨b2, 1, none⟩ = some (.slice A4 o.next.length c4))) (Ls := [16]) (by kernel_rfl) ⟨y2, y3⟩ (fun hHeld => ?_)
        refine takeL [16] (i := 0) (d := 67) (oi := _) (v := ?_) rfl rfl (by kernel_rfl) (by kernel_rfl) (by kernel_rfl) (by kernel_rfl) (by kernel_rfl) (fun _ _ _ h => h) (Or.inl ⟨by rfl, ?_⟩) (by assumption) ?_
        rotate_left
        · intro wz hSw; (try dsimp only at hSw); go_simp; (try with_reducible rfl)
        try simp only [Act.put, List.setIfInBounds_toArray, List.set_cons_zero, List.set_cons_succ]
        refine nxtL (i := 1) (o := _) (by kernel_rfl) rfl (fun K' hK => ?_)
        go_simp
        refine (check_any o (fun b => b < w7.heap.size) _ w7.drew (fun b h => by simpa using h) (VO7.out.keep fun _ _ => rfl)).mono ?_
        rintro e w9 ⟨he, hb⟩
        rw [H2.out] at he
        subst he
        have Q9 := hid (Q8.out.trans (hb.mono Q8.out.size))
        clear hb hHeld
        have hHeld : (fun w' => w'.cell? ⟨b2, 0, none⟩ = some (.slice A3 o.out.length c3) ∧ w'.cell? ⟨b2, 1, none⟩ = some (.slice A4 o.next.length c4)) w9 := ⟨(Q9.out.cell (p := ⟨b2, 0, none⟩) L2.out).trans y2, (Q9.out.cell (p := ⟨b2, 1, none⟩) L2.out).trans y3⟩
        refine hK.out _ _ (Or.inl hHeld) ?_
        clear hK K'
        try simp only [Act.put, List.setIfInBounds_toArray, List.set_cons_zero, List.set_cons_succ]
        refine takeL [16] (i := 2) (d := 69) (oi := _) (v := ?_) rfl rfl (by kernel_rfl) (by kernel_rfl) (by kernel_rfl) (by kernel_rfl) (by kernel_rfl) (fun _ _ _ h => h) (Or.inl ⟨by rfl, ?_⟩) (by assumption) ?_
        rotate_left
        · intro wz hSw; (try dsimp only at hSw); go_simp; (try with_reducible rfl)
        try simp only [Act.put, List.setIfInBounds_toArray, List.set_cons_zero, List.set_cons_succ]
        refine takeL [16] (i := 3) (d := 70) (oi := _) (v := ?_) rfl rfl (by kernel_rfl) (by kernel_rfl) (by kernel_rfl) (by kernel_rfl) (by kernel_rfl) (fun _ _ _ h => h) (Or.inl ⟨by rfl, ?_⟩) (by assumption) ?_
        rotate_left
        · intro wz hSw; (try dsimp only at hSw); go_simp; (try with_reducible rfl)
        try simp only [Act.put, List.setIfInBounds_toArray, List.set_cons_zero, List.set_cons_succ]
        refine takeL [16] (i := 4) (d := 71) (oi := _) (v := undef) rfl rfl (by kernel_rfl) (by kernel_rfl) (by kernel_rfl) (by kernel_rfl) (by kernel_rfl) (fun _ _ _ h => h) (Or.inr ⟨by rfl, rfl⟩) (by assumption) ?_
        try simp only [Act.put, List.setIfInBounds_toArray, List.set_cons_zero, List.set_cons_succ]
        refine takeL [16] (i := 5) (d := 72) (oi := _) (v := undef) rfl rfl (by kernel_rfl) (by kernel_rfl) (by kernel_rfl) (by kernel_rfl) (by kernel_rfl) (fun _ _ _ h => h) (Or.inr ⟨by rfl, rfl⟩) (by assumption) ?_
        try simp only [Act.put, List.setIfInBounds_toArray, List.set_cons_zero, List.set_cons_succ]
        refine takeL [16] (i := 6) (d := 73) (oi := _) (v := undef) rfl rfl (by kernel_rfl) (by kernel_rfl) (by kernel_rfl) (by kernel_rfl) (by kernel_rfl) (fun _ _ _ h => h) (Or.inr ⟨by rfl, rfl⟩) (by assumption) ?_
        try simp only [Act.put, List.setIfInBounds_toArray, List.set_cons_zero, List.set_cons_succ]
        refine takeL [16] (i := 7) (d := 74) (oi := _) (v := undef) rfl rfl (by kernel_rfl) (by kernel_rfl) (by kernel_rfl) (by kernel_rfl) (by kernel_rfl) (fun _ _ _ h => h) (Or.inr ⟨by rfl, rfl⟩) (by assumption) ?_
        try simp only [Act.put, List.setIfInBounds_toArray, List.set_cons_zero, List.set_cons_succ]
        refine takeL [16] (i := 8) (d := 75) (oi := _) (v := undef) rfl rfl (by kernel_rfl) (by kernel_rfl) (by kernel_rfl) (by kernel_rfl) (by kernel_rfl) (fun _ _ _ h => h) (Or.inr ⟨by rfl, rfl⟩) (by assumption) ?_
        try simp only [Act.put, List.setIfInBounds_toArray, List.set_cons_zero, List.set_cons_succ]
        refine takeL [16] (i := 9) (d := 76) (oi := _) (v := undef) rfl rfl (by kernel_rfl) (by kernel_rfl) (by kernel_rfl) (by kernel_rfl) (by kernel_rfl) (fun _ _ _ h => h) (Or.inr ⟨by rfl, rfl⟩) (by assumption) ?_
        try simp only [Act.put, List.setIfInBounds_toArray, List.set_cons_zero, List.set_cons_succ]
        refine takeL [16] (i := 10) (d := 77) (oi := _) (v := undef) rfl rfl (by kernel_rfl) (by kernel_rfl) (by kernel_rfl) (by kernel_rfl) (by kernel_rfl) (fun _ _ _ h => h) (Or.inr ⟨by rfl, rfl⟩) (by assumption) ?_
        try simp only [Act.put, List.setIfInBounds_toArray, List.set_cons_zero, List.set_cons_succ]
        refine takeL [16] (i := 11) (d := 78) (oi := _) (v := undef) rfl rfl (by kernel_rfl) (by kernel_rfl) (by kernel_rfl) (by kernel_rfl) (by kernel_rfl) (fun _ _ _ h => h) (Or.inr ⟨by rfl, rfl⟩) (by assumption) ?_
        try simp only [Act.put, List.setIfInBounds_toArray, List.set_cons_zero, List.set_cons_succ]
        refine takeL [16] (i := 12) (d := 79) (oi := _) (v := undef) rfl rfl (by kernel_rfl) (by kernel_rfl) (by kernel_rfl) (by kernel_rfl) (by kernel_rfl) (fun _ _ _ h => h) (Or.inr ⟨by rfl, rfl⟩) (by assumption) ?_
        try simp only [Act.put, List.setIfInBounds_toArray, List.set_cons_zero, List.set_cons_succ]
        refine takeL [16] (i := 13) (d := 80) (oi := _) (v := undef) rfl rfl (by kernel_rfl) (by kernel_rfl) (by kernel_rfl) (by kernel_rfl) (by kernel_rfl) (fun _ _ _ h => h) (Or.inr ⟨by rfl, rfl⟩) (by assumption) ?_
        try simp only [Act.put, List.setIfInBounds_toArray, List.set_cons_zero, List.set_cons_succ]
        refine takeL [16] (i := 14) (d := 81) (oi := _) (v := undef) rfl rfl (by kernel_rfl) (by kernel_rfl) (by kernel_rfl) (by kernel_rfl) (by kernel_rfl) (fun _ _ _ h => h) (Or.inr ⟨by rfl, rfl⟩) (by assumption) ?_
        try simp only [Act.put, List.setIfInBounds_toArray, List.set_cons_zero, List.set_cons_succ]
        refine takeL [16] (i := 15) (d := 82) (oi := _) (v := ?_) rfl rfl (by kernel_rfl) (by kernel_rfl) (by kernel_rfl) (by kernel_rfl) (by kernel_rfl) (fun _ _ _ h => h) (Or.inl ⟨by rfl, ?_⟩) (by assumption) ?_
        rotate_left
        · intro wz hSw; (try dsimp only at hSw); go_simp; (try with_reducible rfl)
        try simp only [Act.put, List.setIfInBounds_toArray, List.set_cons_zero, List.set_cons_succ]
        refine nxtL (i := 16) (o := _) (by kernel_rfl) rfl (fun K' hK => ?_)
        go_simp
        refine hK.out _ _ (Or.inr (by simp)) ?_
        clear hK K'
        try simp only [Act.put, List.setIfInBounds_toArray, List.set_cons_zero, List.set_cons_succ]
        refine doneL (by kernel_rfl) ?_ _
        clear hHeld
        have B9 := hid (B7.out.trans (Q9.out.mono W7))
        go_wp2_with fail
        go_ret
        exact ⟨rfl, B9.out⟩
    · have hx' : x < 0 ∨ 2 < x := by omega
      have HX := hid hx'
      clear hx hx'
      go_wp2_with fail
      refine (suite_range l x (fun b => b < w5.heap.size) _ w5 (fun b h => h) L5.out LP.out.1 HX.out).mono ?_
      rintro e w6 ⟨rfl, hb6⟩
      have B6 := hid (B5.out.trans (hb6.mono s5))
      clear hb6 y0 y1
      go_wp2_with fail
      refine (serror_any 1 1 w6 (Laid.below HL.out B6.out)).mono ?_
      rintro e w7 ⟨rfl, hb7⟩
      have B7 := hid (B6.out.trans (hb7.mono (by have := B6.out.size; omega)))
      clear hb7
      by_cases h0 : x < 0
      · go_wp2_with fail
        go_ret
        exact ⟨rfl, B7.out⟩
      · have h2 : 2 < x := by have := HX.out; omega
        have h3 : 0 ≤ x := by omega
        go_wp2_with fail
        go_ret
        exact ⟨rfl, B7.out⟩
  · have HC := hid hc
    clear hc
    go_wp2_with fail
    refine (least_bad m (fun b => b < W.heap.size) _ w3 (fun b h => by have := SZ.out; omega) VM3.out HC.out).mono ?_
    rintro e w4 ⟨rfl, hb4⟩
    have B4 := hid (B3.out.trans (hb4.mono (by have := SZ.out; omega)))
    have B5 := hid (B4.out.alloc B4.out.size (.cells #[.slice none 0 0, .slice none 0 0] 24))
    clear hb4 x0 x1
    go_wp2_with fail
    go_ret
    exact ⟨rfl, B5.out⟩
end Go.Proofs.YtkcggmhllijgcaaDoor
