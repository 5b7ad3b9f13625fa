/- What the reference's ApartOf returns of states of two right machines with as many inputs: the first word that tells them apart, or none. No conditions beyond that. -/
import Derived.Test.YtfalbffpdgfepaaDoorAoh
namespace Go.Proofs.YtfalbffpdgfepaaDoor
open Go.RowKit Go.Deep
set_option maxRecDepth 100000 in
set_option maxHeartbeats 8000000 in
theorem apof_ok (a b : MachD) (i k : Nat) (F : Nat → Prop) (u v : Value) (w : World) (hF : ∀ b, F b → b < w.heap.size) (hu : MachIn F w u a) (hv : MachIn F w v b) (ga : Good a) (gb : Good b) (hab : ins a = ins b) (hi : i < a.out.length) (hk : k < b.out.length) :
    Calls Tryd.prog 18 #[u, v, .int .i64 i, .int .i64 k] w (AofPost a b i k w) := by
  have HF := hid hF
  have HA := hid hu
  have HB := hid hv
  have GA := hid ga
  have GB := hid gb
  have HI := hid hab
  obtain ⟨ao, an, rfl, ⟨A1, c1, rfl, _, k1⟩, ⟨A2, c2, rfl, _, k2⟩⟩ := hu
  obtain ⟨bo, bn, rfl, ⟨A3, c3, rfl, _, k3⟩, ⟨A4, c4, rfl, _, k4⟩⟩ := hv
  have ga0 : 0 < a.out.length := ga.pos
  have gb0 : 0 < b.out.length := gb.pos
  have ga2 := ga.le
  have gb2 := gb.le
  obtain ⟨b1, o1, rfl, f1, R1⟩ := k1 ga0
  obtain ⟨b2, o2, rfl, f2, R2⟩ := k2 (by rw [ga.next]; exact ga0)
  obtain ⟨b3, o3, rfl, f3, R3⟩ := k3 gb0
  obtain ⟨b4, o4, rfl, f4, R4⟩ := k4 (by rw [gb.next]; exact gb0)
  replace R1 := hid R1
  replace R2 := hid R2
  replace R3 := hid R3
  replace R4 := hid R4
  have l1 := hF b1 f1
  have l2 := hF b2 f2
  have l3 := hF b3 f3
  have l4 := hF b4 f4
  obtain ⟨n1, hn1⟩ : ∃ n1, n1 = a.out.length := ⟨_, rfl⟩
  obtain ⟨m, hm⟩ : ∃ m, m = b.out.length := ⟨_, rfl⟩
  have N1 := hid hn1
  have M1 := hid hm
  rw [← hn1] at ga0 ga2 hi
  rw [← hm] at gb0 gb2 hk
  rw [← hn1, ← hm]
  obtain ⟨i0, hi0, hz0, hz1, hz2⟩ := info_parts infoInt
  have II := hid hi
  have KK := hid hk
  have VA : Hid (MachIn F w (.agg #[.slice (some ⟨b1, o1, none⟩) n1 c1, .slice (some ⟨b2, o2, none⟩) a.next.length c2]) a) := by rw [N1.out]; exact HA.out
  have VB : Hid (MachIn F w (.agg #[.slice (some ⟨b3, o3, none⟩) m c3, .slice (some ⟨b4, o4, none⟩) b.next.length c4]) b) := by rw [M1.out]; exact HB.out
  clear hF ga gb hab k1 k2 k3 k4 hn1 hm HA HB
  go_enter Tryd.func18, Tryd.ntmps18
  go_wp2_with fail
  go_loopw [10] (fun nv wr => ∃ n : Nat, n ≤ 41 ∧ nv = .int .i64 n ∧ Hid (∀ t, t < n → df a b t i k = false) ∧ Hid (Below w.heap.size w wr) ∧ Hid (w.heap.size + 2 ≤ wr.heap.size) ∧ Hid (Bxs w.heap.size #[.slice (some ⟨b1, o1, none⟩) n1 c1, .slice (some ⟨b2, o2, none⟩) a.next.length c2] #[.slice (some ⟨b3, o3, none⟩) m c3, .slice (some ⟨b4, o4, none⟩) b.next.length c4] wr)) (fun nv _ => 41 - (intOf nv).toNat)
  case atStart => exact ⟨0, by omega, rfl, fun t ht => by omega, ((Below.refl _ _).alloc (Nat.le_refl _) _).alloc (by simp) _, by show _ ≤ _; simp, ⟨Has.alloc (Has.new w _) _, Has.newAt (w.alloc _) _ (by simp)⟩⟩
  case round =>
    obtain ⟨n, hn, rfl, hD, hB, hS, hX⟩ := hrel
    obtain ⟨wo, rfl⟩ : ∃ wo : World, wo = wr := ⟨_, rfl⟩
    have x0 := Has.cell hX.out.a 0
    have x1 := Has.cell hX.out.a 1
    have y0 := Has.cell hX.out.b 0
    have y1 := Has.cell hX.out.b 1
    simp at x0 x1 y0 y1
    have sS := hS.out
    by_cases hlt : n ≤ 40
    · go_wp2_with fail
      refine (differ_ok a b n F _ _ wo (fun b hb => by have := HF.out b hb; omega) (VA.out.keep (w' := wo) fun b hb => hB.out.block b (HF.out b hb)) (VB.out.keep (w' := wo) fun b hb => hB.out.block b (HF.out b hb)) GA.out GB.out HI.out (by omega)).mono ?_
      rintro e w5 ⟨r4, rfl, M4, hb4⟩
      rw [← N1.out, ← M1.out] at M4
      obtain ⟨g5, o5, c5, g6, o6, c6, rfl, f5, q5, f6, q6⟩ := M4.entry II.out KK.out
      have B4 := hid hb4
      have s5 := B4.out.size
      clear hb4 M4
      obtain ⟨dd, hdd⟩ : ∃ dd, dd = df a b n i k := ⟨_, rfl⟩
      rw [← hdd] at q6
      cases dd with
      | false =>
        have NX : Hid (∀ t, t < n + 1 → df a b t i k = false) := fun t ht => by
          by_cases htn : t = n
          · subst htn; exact hdd.symm
          · exact hD.out t (by omega)
        clear hdd
        go_wp2_with fail
        go_roundw
        case rel => exact ⟨n + 1, by omega, by go_num, NX, hB.out.trans (B4.out.mono (by omega)), by show _ ≤ _; omega, hX.out.below B4.out⟩
        case measure => simp [intOf]; omega
      | true =>
        obtain ⟨f, hf, hfl⟩ := df_first hdd.symm hD.out
        have FF := hid hf
        have FL := hid hfl
        have BB := hid (hB.out.trans (B4.out.mono (by omega)))
        have XX := hid (hX.out.below B4.out)
        clear hdd hf x0 x1 y0 y1 hfl hD hX hB
        have LB1 := hid l1
        go_wp2_with fail
        go_loopw [2, 3, 10, 11] (fun iv kv nv lv wr => ∃ (i' k' n' : Nat) (p g : List Int), iv = .int .i64 i' ∧ kv = .int .i64 k' ∧ nv = .int .i64 n' ∧ n' ≤ 40 ∧ i' < n1 ∧ k' < m ∧ Hid (f = p ++ g) ∧ Hid (First a b i' k' g) ∧ Hid (g.length = n') ∧ p.length + n' ≤ 40 ∧ Hid (wr.ownsRow (w.heap.size + 2) 3 1 lv p.length (p.map (Value.int .i64))) ∧ Hid (∀ z ∈ p, letter a z) ∧ Hid (Below w.heap.size w wr) ∧ Hid (w.heap.size + 2 ≤ wr.heap.size) ∧ Hid (Bxs w.heap.size #[.slice (some ⟨b1, o1, none⟩) n1 c1, .slice (some ⟨b2, o2, none⟩) a.next.length c2] #[.slice (some ⟨b3, o3, none⟩) m c3, .slice (some ⟨b4, o4, none⟩) b.next.length c4] wr)) (fun _ _ nv _ _ => (intOf nv).toNat)
        case atStart => exact ⟨i, k, n, [], f, rfl, rfl, rfl, by omega, II.out, KK.out, rfl, FF.out, FL.out, by simp; omega, World.ownsRow_nil _ _ _ _, fun z hz => by simp at hz, BB.out, by show _ ≤ _; omega, XX.out⟩
        case round =>
          obtain ⟨i', k', n', p, g, rfl, rfl, rfl, hn', hi', hk', hfg, hFi, hgl, hpl, hO, hPL, hBo, hSo, hXo⟩ := hrel
          obtain ⟨wp, rfl⟩ : ∃ wp : World, wp = wr := ⟨_, rfl⟩
          cases n' with
          | zero =>
            exfalso
            have : g = [] := List.eq_nil_of_length_eq_zero hgl.out
            subst this
            exact hFi.out.2.1 rfl
          | succ r' =>
            obtain ⟨X, r, hX, hgr, hold, hend⟩ := first_step hFi.out hgl.out
            have GR := hid hgr
            have HO := hid hold
            have HE := hid hend
            clear hgr hold hend
            have x0 := Has.cell hXo.out.a 0
            simp at x0
            have sSo := hSo.out
            go_wp2_with fail
            clear x0
            have cs : ((r' + 1 : Nat) : Int) = (r' : Int) + 1 := rfl
            simp only [cs]
            clear cs
            go_loopw [2, 3, 11, 12] (fun iv kv lv xv wr => ∃ x : Nat, x ≤ X ∧ iv = .int .i64 i' ∧ kv = .int .i64 k' ∧ lv = u11 ∧ xv = .int .i64 x ∧ Hid (Below wp.heap.size wp wr)) (fun _ _ _ xv _ => X - (intOf xv).toNat)
            case atStart => exact ⟨0, Nat.zero_le _, rfl, rfl, rfl, rfl, Below.refl _ _⟩
            case round =>
              obtain ⟨x, hx, rfl, rfl, rfl, rfl, hBi⟩ := hrel
              obtain ⟨wi, rfl⟩ : ∃ wi : World, wi = wr := ⟨_, rfl⟩
              have sBi := hBi.out.size
              have BW := hid (hBo.out.trans (hBi.out.mono (by omega)))
              have XW := hid (hXo.out.below hBi.out)
              have OW := hid (own_below hO.out hBi.out)
              have xl : x < ins a := by omega
              obtain ⟨e1, p1, d1, e2, p2, d2, le1, le2, MA⟩ := mr_all (s := i') (x := x) GA.out HF.out l1 l2 R1.out R2.out (by rw [← N1.out]; exact hi') rfl xl
              obtain ⟨e3, p3, d3, e4, p4, d4, le3, le4, MB⟩ := mr_all (s := k') (x := x) GB.out HF.out l3 l4 R3.out R4.out (by rw [← M1.out]; exact hk') HI.out.symm xl
              obtain ⟨e0, p0, d0, _, Z0⟩ := row_all (s := 0) (x := 0) HF.out l1 R1.out (by rw [← N1.out]; omega) (L := ins a) rfl (by omega)
              have z0 := (Z0 wi BW.out).1
              rw [Nat.add_zero] at z0
              have PN := nextAt_lt GA.out (s := i') (x := (x : Int)) (by rw [← N1.out]; exact hi') ⟨by omega, by omega⟩
              have QN := nextAt_lt GB.out (s := k') (x := (x : Int)) (by rw [← M1.out]; exact hk') ⟨by omega, by have := HI.out; omega⟩
              rw [← N1.out] at PN
              rw [← M1.out] at QN
              have MA := hid MA
              have MB := hid MB
              have ma := MA.out wi BW.out
              have mb := MB.out wi BW.out
              have c1' := ma.c1
              have c2' := ma.c2
              have u1' := ma.u1
              have u2' := ma.u2
              have c3' := mb.c1
              have c4' := mb.c2
              have u3' := mb.u1
              have u4' := mb.u2
              have x0 := Has.cell XW.out.a 0
              have x1 := Has.cell XW.out.a 1
              have y0 := Has.cell XW.out.b 0
              have y1 := Has.cell XW.out.b 1
              simp at x0 x1 y0 y1
              have ia : i' < a.next.length := by rw [GA.out.next, ← N1.out]; exact hi'
              have kb : k' < b.next.length := by rw [GB.out.next, ← M1.out]; exact hk'
              have i3 := GA.out.ins3
              clear ma mb Z0
              have VAi : Hid (MachIn F wi (.agg #[.slice (some ⟨b1, o1, none⟩) n1 c1, .slice (some ⟨b2, o2, none⟩) a.next.length c2]) a) := VA.out.keep (w' := wi) fun b hb => BW.out.block b (HF.out b hb)
              have VBi : Hid (MachIn F wi (.agg #[.slice (some ⟨b3, o3, none⟩) m c3, .slice (some ⟨b4, o4, none⟩) b.next.length c4]) b) := VB.out.keep (w' := wi) fun b hb => BW.out.block b (HF.out b hb)
              have T1 : Hid (outAt a i' x = outAt b k' x → df a b r' (nextAt a i' x) (nextAt b k' x) = false → x < X) := fun h1 h2 => by
                by_cases hxX : x < X
                · exact hxX
                · obtain rfl : x = X := by omega
                  rcases HE.out with h | h
                  · exact absurd h1 h.1
                  · rw [h2] at h; cases h.2.2.2
              have T2 : Hid (outAt a i' x = outAt b k' x → df a b r' (nextAt a i' x) (nextAt b k' x) = true → First a b (nextAt a i' x) (nextAt b k' x) r ∧ r.length = r' ∧ x = X) := fun h1 h2 => by
                by_cases hxX : x < X
                · rw [(HO.out x hxX).2] at h2; cases h2
                · obtain rfl : x = X := by omega
                  rcases HE.out with h | h
                  · exact absurd h1 h.1
                  · exact ⟨h.2.1, h.2.2.1, rfl⟩
              have T3 : Hid (outAt a i' x ≠ outAt b k' x → r = [] ∧ x = X) := fun h1 => by
                by_cases hxX : x < X
                · exact absurd (HO.out x hxX).1 h1
                · obtain rfl : x = X := by omega
                  rcases HE.out with h | h
                  · exact ⟨h.2, rfl⟩
                  · exact absurd h.1 h1
              have lp : p.length ≤ 40 := by omega
              have wfx : Hid (letter a (x : Int)) := ⟨by omega, by omega⟩
              generalize hP : nextAt a i' x = P at *
              generalize hQ : nextAt b k' x = Q at *
              generalize hO1 : outAt a i' x = O1 at *
              generalize hO2 : outAt b k' x = O2 at *
              clear hP hQ hO1 hO2
              by_cases hoe : O1 = O2
              · subst hoe
                have g1 : (O1 != O1) = false := by simp
                obtain ⟨dd, hdd⟩ : ∃ dd, dd = df a b r' P Q := ⟨_, rfl⟩
                have DE := hid hdd
                clear hdd
                have lg0 : w.heap.size < wi.heap.size := by omega
                have lg1 : w.heap.size + 1 < wi.heap.size := by omega
                have lb1 : b1 < wi.heap.size := by omega
                have lb3 : b3 < wi.heap.size := by omega
                have lee1 : e1 < wi.heap.size := by omega
                have lee3 : e3 < wi.heap.size := by omega
                go_wp2_with fail
                go_upto_region 14 with fail
                refine wp_region_held_drew (S := (fun w' => w'.cell? ⟨w.heap.size, 0, none⟩ = some (.slice (some ⟨b1, o1, none⟩) n1 c1) ∧ w'.cell? ⟨w.heap.size, 1, none⟩ = some (.slice (some ⟨b2, o2, none⟩) a.next.length c2) ∧ w'.cell? ⟨w.heap.size + 1, 0, none⟩ = some (.slice (some ⟨b3, o3, none⟩) m c3) ∧ w'.cell? ⟨w.heap.size + 1, 1, none⟩ = some (.slice (some ⟨b4, o4, none⟩) b.next.length c4) ∧ w'.cell? ⟨b1, o1 + i', none⟩ = some (.slice (some ⟨e1, p1, none⟩) (ins a) d1) ∧ w'.cell? ⟨e1, p1 + x, none⟩ = some (.int .i64 O1) ∧ w'.cell? ⟨b3, o3 + k', none⟩ = some (.slice (some ⟨e3, p3, none⟩) (ins a) d3) ∧ w'.cell? ⟨e3, p3 + x, none⟩ = some (.int .i64 O1))) (by kernel_rfl) ⟨x0, x1, y0, y1, c1', u1', c3', u3'⟩ (fun hHeld => ?_)
                refine takeH (i := 0) (d := 63) (oi := _) (v := ?_) rfl rfl (by kernel_rfl) (by kernel_rfl) (by kernel_rfl) (fun _ _ _ h => h) (Or.inl ⟨by rfl, ?_⟩) (by assumption) ?_
                rotate_left
                · intro wz hSw; (try dsimp only at hSw); go_simp; (try with_reducible rfl)
                try simp only [Act.put, List.setIfInBounds_toArray, List.set_cons_zero, List.set_cons_succ]
                refine takeH (i := 1) (d := 64) (oi := _) (v := ?_) rfl rfl (by kernel_rfl) (by kernel_rfl) (by kernel_rfl) (fun _ _ _ h => h) (Or.inl ⟨by rfl, ?_⟩) (by assumption) ?_
                rotate_left
                · intro wz hSw; (try dsimp only at hSw); go_simp; (try with_reducible rfl)
                try simp only [Act.put, List.setIfInBounds_toArray, List.set_cons_zero, List.set_cons_succ]
                refine takeH (i := 2) (d := 65) (oi := _) (v := ?_) rfl rfl (by kernel_rfl) (by kernel_rfl) (by kernel_rfl) (fun _ _ _ h => h) (Or.inl ⟨by rfl, ?_⟩) (by assumption) ?_
                rotate_left
                · intro wz hSw; (try dsimp only at hSw); go_simp; (try with_reducible rfl)
                try simp only [Act.put, List.setIfInBounds_toArray, List.set_cons_zero, List.set_cons_succ]
                refine takeH (i := 3) (d := 66) (oi := _) (v := ?_) rfl rfl (by kernel_rfl) (by kernel_rfl) (by kernel_rfl) (fun _ _ _ h => h) (Or.inl ⟨by rfl, ?_⟩) (by assumption) ?_
                rotate_left
                · intro wz hSw; (try dsimp only at hSw); go_simp; (try with_reducible rfl)
                try simp only [Act.put, List.setIfInBounds_toArray, List.set_cons_zero, List.set_cons_succ]
                refine takeH (i := 4) (d := 67) (oi := _) (v := ?_) rfl rfl (by kernel_rfl) (by kernel_rfl) (by kernel_rfl) (fun _ _ _ h => h) (Or.inl ⟨by rfl, ?_⟩) (by assumption) ?_
                rotate_left
                · intro wz hSw; (try dsimp only at hSw); go_simp; (try with_reducible rfl)
                try simp only [Act.put, List.setIfInBounds_toArray, List.set_cons_zero, List.set_cons_succ]
                refine takeH (i := 5) (d := 68) (oi := _) (v := ?_) rfl rfl (by kernel_rfl) (by kernel_rfl) (by kernel_rfl) (fun _ _ _ h => h) (Or.inl ⟨by rfl, ?_⟩) (by assumption) ?_
                rotate_left
                · intro wz hSw; (try dsimp only at hSw); go_simp; (try with_reducible rfl)
                try simp only [Act.put, List.setIfInBounds_toArray, List.set_cons_zero, List.set_cons_succ]
                refine takeH (i := 6) (d := 69) (oi := _) (v := ?_) rfl rfl (by kernel_rfl) (by kernel_rfl) (by kernel_rfl) (fun _ _ _ h => h) (Or.inl ⟨by rfl, ?_⟩) (by assumption) ?_
                rotate_left
                · intro wz hSw; (try dsimp only at hSw); go_simp; (try with_reducible rfl)
                try simp only [Act.put, List.setIfInBounds_toArray, List.set_cons_zero, List.set_cons_succ]
                refine takeH (i := 7) (d := 70) (oi := _) (v := ?_) rfl rfl (by kernel_rfl) (by kernel_rfl) (by kernel_rfl) (fun _ _ _ h => h) (Or.inl ⟨by rfl, ?_⟩) (by assumption) ?_
                rotate_left
                · intro wz hSw; (try dsimp only at hSw); go_simp; (try with_reducible rfl)
                try simp only [Act.put, List.setIfInBounds_toArray, List.set_cons_zero, List.set_cons_succ]
                refine takeH (i := 8) (d := 71) (oi := _) (v := ?_) rfl rfl (by kernel_rfl) (by kernel_rfl) (by kernel_rfl) (fun _ _ _ h => h) (Or.inl ⟨by rfl, ?_⟩) (by assumption) ?_
                rotate_left
                · intro wz hSw; (try dsimp only at hSw); go_simp; (try with_reducible rfl)
                try simp only [Act.put, List.setIfInBounds_toArray, List.set_cons_zero, List.set_cons_succ]
                refine takeH (i := 9) (d := 72) (oi := _) (v := ?_) rfl rfl (by kernel_rfl) (by kernel_rfl) (by kernel_rfl) (fun _ _ _ h => h) (Or.inl ⟨by rfl, ?_⟩) (by assumption) ?_
                rotate_left
                · intro wz hSw; (try dsimp only at hSw); go_simp; (try with_reducible rfl)
                try simp only [Act.put, List.setIfInBounds_toArray, List.set_cons_zero, List.set_cons_succ]
                refine takeH (i := 10) (d := 73) (oi := _) (v := ?_) rfl rfl (by kernel_rfl) (by kernel_rfl) (by kernel_rfl) (fun _ _ _ h => h) (Or.inl ⟨by rfl, ?_⟩) (by assumption) ?_
                rotate_left
                · intro wz hSw; (try dsimp only at hSw); go_simp; (try with_reducible rfl)
                try simp only [Act.put, List.setIfInBounds_toArray, List.set_cons_zero, List.set_cons_succ]
                refine takeH (i := 11) (d := 74) (oi := _) (v := ?_) rfl rfl (by kernel_rfl) (by kernel_rfl) (by kernel_rfl) (fun _ _ _ h => h) (Or.inl ⟨by rfl, ?_⟩) (by assumption) ?_
                rotate_left
                · intro wz hSw; (try dsimp only at hSw); go_simp; (try with_reducible rfl)
                try simp only [Act.put, List.setIfInBounds_toArray, List.set_cons_zero, List.set_cons_succ]
                refine takeH (i := 12) (d := 75) (oi := _) (v := ?_) rfl rfl (by kernel_rfl) (by kernel_rfl) (by kernel_rfl) (fun _ _ _ h => h) (Or.inl ⟨by rfl, ?_⟩) (by assumption) ?_
                rotate_left
                · intro wz hSw; (try dsimp only at hSw); go_simp; (try with_reducible rfl)
                try simp only [Act.put, List.setIfInBounds_toArray, List.set_cons_zero, List.set_cons_succ]
                refine takeH (i := 13) (d := 76) (oi := _) (v := ?_) rfl rfl (by kernel_rfl) (by kernel_rfl) (by kernel_rfl) (fun _ _ _ h => h) (Or.inl ⟨by rfl, ?_⟩) (by assumption) ?_
                rotate_left
                · intro wz hSw; (try dsimp only at hSw); go_simp; (try with_reducible rfl)
                try simp only [Act.put, List.setIfInBounds_toArray, List.set_cons_zero, List.set_cons_succ]
                refine takeH (i := 14) (d := 77) (oi := _) (v := ?_) rfl rfl (by kernel_rfl) (by kernel_rfl) (by kernel_rfl) (fun _ _ _ h => h) (Or.inl ⟨by rfl, ?_⟩) (by assumption) ?_
                rotate_left
                · intro wz hSw; (try dsimp only at hSw); go_simp; (try with_reducible rfl)
                try simp only [Act.put, List.setIfInBounds_toArray, List.set_cons_zero, List.set_cons_succ]
                refine takeH (i := 15) (d := 78) (oi := _) (v := ?_) rfl rfl (by kernel_rfl) (by kernel_rfl) (by kernel_rfl) (fun _ _ _ h => h) (Or.inl ⟨by rfl, ?_⟩) (by assumption) ?_
                rotate_left
                · intro wz hSw; (try dsimp only at hSw); go_simp; (try with_reducible rfl)
                try simp only [Act.put, List.setIfInBounds_toArray, List.set_cons_zero, List.set_cons_succ]
                refine takeH (i := 16) (d := 79) (oi := _) (v := ?_) rfl rfl (by kernel_rfl) (by kernel_rfl) (by kernel_rfl) (fun _ _ _ h => h) (Or.inl ⟨by rfl, ?_⟩) (by assumption) ?_
                rotate_left
                · intro wz hSw; (try dsimp only at hSw); go_simp; (try with_reducible rfl)
                try simp only [Act.put, List.setIfInBounds_toArray, List.set_cons_zero, List.set_cons_succ]
                refine takeH (i := 17) (d := 80) (oi := _) (v := ?_) rfl rfl (by kernel_rfl) (by kernel_rfl) (by kernel_rfl) (fun _ _ _ h => h) (Or.inl ⟨by rfl, ?_⟩) (by assumption) ?_
                rotate_left
                · intro wz hSw; (try dsimp only at hSw); go_simp; (try with_reducible rfl)
                try simp only [Act.put, List.setIfInBounds_toArray, List.set_cons_zero, List.set_cons_succ]
                refine takeH (i := 18) (d := 81) (oi := _) (v := ?_) rfl rfl (by kernel_rfl) (by kernel_rfl) (by kernel_rfl) (fun _ _ _ h => h) (Or.inl ⟨by rfl, ?_⟩) (by assumption) ?_
                rotate_left
                · intro wz hSw; (try dsimp only at hSw); go_simp; (try with_reducible rfl)
                try simp only [Act.put, List.setIfInBounds_toArray, List.set_cons_zero, List.set_cons_succ]
                refine takeH (i := 19) (d := 82) (oi := _) (v := ?_) rfl rfl (by kernel_rfl) (by kernel_rfl) (by kernel_rfl) (fun _ _ _ h => h) (Or.inl ⟨by rfl, ?_⟩) (by assumption) ?_
                rotate_left
                · intro wz hSw; (try dsimp only at hSw); go_simp; (try with_reducible rfl)
                try simp only [Act.put, List.setIfInBounds_toArray, List.set_cons_zero, List.set_cons_succ]
                refine takeH (i := 20) (d := 83) (oi := _) (v := ?_) rfl rfl (by kernel_rfl) (by kernel_rfl) (by kernel_rfl) (fun _ _ _ h => h) (Or.inl ⟨by rfl, ?_⟩) (by assumption) ?_
                rotate_left
                · intro wz hSw; (try dsimp only at hSw); go_simp; (try with_reducible rfl)
                try simp only [Act.put, List.setIfInBounds_toArray, List.set_cons_zero, List.set_cons_succ]
                refine takeH (i := 22) (d := 85) (oi := _) (v := ?_) rfl rfl (by kernel_rfl) (by kernel_rfl) (by kernel_rfl) (fun _ _ _ h => h) (Or.inl ⟨by rfl, ?_⟩) (by assumption) ?_
                rotate_left
                · intro wz hSw; (try dsimp only at hSw); go_simp; (try with_reducible rfl)
                try simp only [Act.put, List.setIfInBounds_toArray, List.set_cons_zero, List.set_cons_succ]
                refine takeH (i := 25) (d := 88) (oi := _) (v := ?_) rfl rfl (by kernel_rfl) (by kernel_rfl) (by kernel_rfl) (fun _ _ _ h => h) (Or.inl ⟨by rfl, ?_⟩) (by assumption) ?_
                rotate_left
                · intro wz hSw; (try dsimp only at hSw); go_simp; (try with_reducible rfl)
                try simp only [Act.put, List.setIfInBounds_toArray, List.set_cons_zero, List.set_cons_succ]
                refine wpAnyH_ready (rs := [21]) (by kernel_rfl) (by simp) ?_
                refine AllReadyH.cons (o := _) rfl (fun K hK => ?_) AllReadyH.nil
                go_simp
                go_at_call 36
                refine (differ_ok a b r' F _ _ wi.drew (fun b hb => by have := HF.out b hb; simp; omega) (VAi.out.keep (w' := wi.drew) fun _ _ => rfl) (VBi.out.keep (w' := wi.drew) fun _ _ => rfl) GA.out GB.out HI.out (by omega)).mono ?_
                rintro e w5 ⟨r4, rfl, M4, hb4⟩
                rw [← N1.out, ← M1.out] at M4
                obtain ⟨g5, o5, c5, g6, o6, c6, rfl, f5, q5, f6, q6⟩ := M4.entry PN QN
                rw [← DE.out] at q6
                have B5 : Below wi.heap.size wi w5 := (Below.refl _ _).drew.trans (hb4.mono (by simp))
                have s5 := hb4.size
                simp at s5
                clear hb4 M4
                go_wp2_with fail
                refine hK.out _ _ ⟨(B5.cell (p := ⟨w.heap.size, 0, none⟩) lg0).trans x0, (B5.cell (p := ⟨w.heap.size, 1, none⟩) lg0).trans x1, (B5.cell (p := ⟨w.heap.size + 1, 0, none⟩) lg1).trans y0, (B5.cell (p := ⟨w.heap.size + 1, 1, none⟩) lg1).trans y1, (B5.cell (p := ⟨b1, o1 + i', none⟩) lb1).trans c1', (B5.cell (p := ⟨e1, p1 + x, none⟩) lee1).trans u1', (B5.cell (p := ⟨b3, o3 + k', none⟩) lb3).trans c3', (B5.cell (p := ⟨e3, p3 + x, none⟩) lee3).trans u3'⟩ (fun hHeld2 => ?_)
                clear hK K hHeld
                refine wpAnyH_at (S' := fun w' => w' = w5) (fun w' h => by subst h; exact hHeld2) _ _ _ _ ?_
                have hHeld3 : (fun w' : World => w' = w5) w5 := rfl
                clear hHeld2
                refine takeH (i := 23) (d := 86) (oi := _) (v := ?_) rfl rfl (by kernel_rfl) (by kernel_rfl) (by kernel_rfl) (fun _ _ _ h => h) (Or.inl ⟨by rfl, ?_⟩) (by assumption) ?_
                rotate_left
                · intro wz hSw; (try dsimp only at hSw); subst hSw; go_simp; (try with_reducible rfl)
                try simp only [Act.put, List.setIfInBounds_toArray, List.set_cons_zero, List.set_cons_succ]
                refine takeH (i := 24) (d := 87) (oi := _) (v := ?_) rfl rfl (by kernel_rfl) (by kernel_rfl) (by kernel_rfl) (fun _ _ _ h => h) (Or.inl ⟨by rfl, ?_⟩) (by assumption) ?_
                rotate_left
                · intro wz hSw; (try dsimp only at hSw); subst hSw; go_simp; (try with_reducible rfl)
                try simp only [Act.put, List.setIfInBounds_toArray, List.set_cons_zero, List.set_cons_succ]
                refine takeH (i := 26) (d := 89) (oi := _) (v := ?_) rfl rfl (by kernel_rfl) (by kernel_rfl) (by kernel_rfl) (fun _ _ _ h => h) (Or.inl ⟨by rfl, ?_⟩) (by assumption) ?_
                rotate_left
                · intro wz hSw; (try dsimp only at hSw); subst hSw; go_simp; (try with_reducible rfl)
                try simp only [Act.put, List.setIfInBounds_toArray, List.set_cons_zero, List.set_cons_succ]
                refine takeH (i := 27) (d := 90) (oi := _) (v := ?_) rfl rfl (by kernel_rfl) (by kernel_rfl) (by kernel_rfl) (fun _ _ _ h => h) (Or.inl ⟨by rfl, ?_⟩) (by assumption) ?_
                rotate_left
                · intro wz hSw; (try dsimp only at hSw); subst hSw; go_simp; (try with_reducible rfl)
                try simp only [Act.put, List.setIfInBounds_toArray, List.set_cons_zero, List.set_cons_succ]
                refine takeH (i := 28) (d := 91) (oi := _) (v := ?_) rfl rfl (by kernel_rfl) (by kernel_rfl) (by kernel_rfl) (fun _ _ _ h => h) (Or.inl ⟨by rfl, ?_⟩) (by assumption) ?_
                rotate_left
                · intro wz hSw; (try dsimp only at hSw); subst hSw; go_simp; (try with_reducible rfl)
                try simp only [Act.put, List.setIfInBounds_toArray, List.set_cons_zero, List.set_cons_succ]
                refine wpAnyH_done (by kernel_rfl) ?_ _
                clear hHeld3
                have HB5 := hid B5
                have BB5 := hid (BW.out.trans (B5.mono (by omega)))
                have XX5 := hid (XW.out.below B5)
                have OW5 := hid (own_below OW.out B5)
                clear B5 x0 x1 y0 y1 c1' c2' u1' u2' c3' c4' u3' u4' z0 q5 q6
                cases dd with
                | false =>
                  have xX := T1.out (by trivial) DE.out.symm
                  go_wp2_with fail
                  go_roundw
                  case rel => exact ⟨x + 1, by omega, rfl, rfl, rfl, by go_num, hBi.out.trans (HB5.out.mono (by omega))⟩
                  case measure => simp [intOf]; omega
                | true =>
                  obtain ⟨t1, t2, t3⟩ := T2.out (by trivial) DE.out.symm
                  have TT := hid (And.intro t1 (And.intro t2 t3))
                  clear t1 t2 t3
                  go_wp2_with (at_builtin; refine wpList_append_own _ rfl _ _ 25 rfl (w.heap.size + 2) 3 i0 (.int .i64 0) 1 8 Tryd.underlying25 hi0 hz0 hz1 hz2 rfl (by decide) _ _ _ rfl (OW5.out.alloc _) ⟨w5.heap.size, 0, none⟩ 1 1 [.int .i64 (x : Nat)] rfl rfl (one_at _ _ _) (one_int _ _) (by unfold maxLen; omega) (by omega) (by simp; omega) ?_; intro v6 w6 hown6 hgrow6 _; have B6 : Below (w.heap.size + 2) w5 w6 := ((Below.refl _ _).alloc (by omega) _).grown hgrow6 (by simp; omega) (own_ge OW5.out); have BW6 : Below w.heap.size w w6 := BB5.out.trans (B6.mono (by omega)); have XW6 := (XX5.out).below' B6 (by omega); have O6 := hid hown6; have ma6 := MA.out w6 BW6; have mb6 := MB.out w6 BW6; have k1 := ma6.c1; have k2 := ma6.u1; have k3 := mb6.c1; have k4 := mb6.u1; have k5 := Has.cell XW6.a 0; have k6 := Has.cell XW6.b 0; have k7 := BW6.size; have k8 := B6.size; simp at k5 k6; have XH6 := hid XW6; have BH6 := hid BW6; clear hown6 hgrow6 ma6 mb6 XW6 BW6 B6)
                  go_quiet (fail)
                  go_wp2_with fail
                  go_roundw
                  case rel => exact ⟨P, Q, r', p ++ [(x : Int)], r, rfl, rfl, by go_num, by omega, PN, QN, by show f = _; rw [hfg.out, GR.out, TT.out.2.2]; simp, TT.out.1, TT.out.2.1, by simp; omega, by have := O6.out; simp at this ⊢; exact this, fun z hz => by
                    rcases List.mem_append.1 hz with hz | hz
                    · exact hPL.out z hz
                    · simp at hz; subst hz; exact wfx.out, below_drewN BH6.out _, by show _ ≤ _; simp; omega, XH6.out.drewN _⟩
                  case measure => simp [intOf]
              · obtain ⟨t1, t2⟩ := T3.out hoe
                have TT := hid (And.intro t1 t2)
                have g1 : (O1 != O2) = true := by simp [hoe]
                clear t1 t2 hoe
                go_wp2_with fail
                go_upto_region 14 with fail
                go_quiet (fail)
                clear x0 x1 y0 y1 c1' c2' u1' u2' c3' c4' u3' u4' z0
                have BBq := hid (below_drewN BW.out nq)
                have XXq := hid (XW.out.drewN nq)
                have OWq : Hid ((wi.drewN nq).ownsRow (w.heap.size + 2) 3 1 u11 p.length (p.map (Value.int .i64))) := OW.out
                have sq : wi.heap.size ≤ (wi.drewN nq).heap.size := by simp
                generalize wi.drewN nq = wq at *
                go_wp2_with (at_builtin; refine wpList_append_own _ rfl _ _ 25 rfl (w.heap.size + 2) 3 i0 (.int .i64 0) 1 8 Tryd.underlying25 hi0 hz0 hz1 hz2 rfl (by decide) _ _ _ rfl (OWq.out.alloc _) ⟨wq.heap.size, 0, none⟩ 1 1 [.int .i64 (x : Nat)] rfl rfl (one_at _ _ _) (one_int _ _) (by unfold maxLen; omega) (by omega) (by simp; omega) ?_; intro v6 w6 hown6 hgrow6 _; have B6 : Below (w.heap.size + 2) wq w6 := ((Below.refl _ _).alloc (by omega) _).grown hgrow6 (by simp; omega) (own_ge OWq.out); have BW6 : Below w.heap.size w w6 := BBq.out.trans (B6.mono (by omega)); have XW6 := (XXq.out).below' B6 (by omega); have O6 := hid hown6; have ma6 := MA.out w6 BW6; have mb6 := MB.out w6 BW6; have k1 := ma6.c1; have k2 := ma6.u1; have k3 := mb6.c1; have k4 := mb6.u1; have k5 := Has.cell XW6.a 0; have k6 := Has.cell XW6.b 0; have k7 := BW6.size; have k8 := B6.size; simp at k5 k6; have XH6 := hid XW6; have BH6 := hid BW6; clear hown6 hgrow6 ma6 mb6 XW6 BW6 B6)
                go_quiet (fail)
                have R : Hid (IntsIn .i64 (fun b => w.heap.size + 2 ≤ b ∧ b < w6.heap.size) w6 v6 f) := by
                  have h1 := word_ints O6.out hPL.out wfx.out GA.out.ins3
                  show IntsIn _ _ _ _ _
                  rw [hfg.out, GR.out, TT.out.1, ← TT.out.2]
                  exact h1
                go_wp2_with fail
                go_ret2
                exact AofPost.yes (below_drewN BH6.out _) FF.out ((R.out.keep (w' := w6.drewN _) fun _ _ => rfl).more fun b hb => ⟨by have := hb.1; omega, by simp; exact hb.2⟩)
    · have en : n = 41 := by omega
      subst en
      have XE := hid (df_none GA.out GB.out HI.out (by rw [← N1.out]; exact II.out) (by rw [← M1.out]; exact KK.out) (hD.out 40 (by omega)))
      go_wp2_with fail
      go_ret2
      exact AofPost.no hB.out XE.out
end Go.Proofs.YtfalbffpdgfepaaDoor
