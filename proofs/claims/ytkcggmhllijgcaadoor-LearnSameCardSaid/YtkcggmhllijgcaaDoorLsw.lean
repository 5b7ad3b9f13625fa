/- The law LearnSame: it returns true, and all that the call was given reads as before. Condition: errors.errorType holds its handle. -/
import Derived.Test.YtkcggmhllijgcaaDoorLsv
import Derived.Test.YtkcggmhllijgcaaDoorLsr
import Derived.Test.YtkcggmhllijgcaaDoorAs
import Derived.Test.YtkcggmhllijgcaaDoorSam
import Derived.Deep.DeepCutAuto
namespace Go.Proofs.YtkcggmhllijgcaaDoor
open Go.RowKit Go.Deep
def LawPost (W : World) (e : Ending) (w' : World) : Prop := e = .returned (.bool true) ∧ Below W.heap.size W w'
theorem chk_step (m : MachD) (v : Value) (w : World) (h : MachIn (fun b => b < w.heap.size) w v m) :
    Calls Tryd.prog 11 #[v] w.drew fun e w' => e = .returned (errV (chk m)) ∧ Below w.heap.size w w' := by
  refine (check_any m (fun b => b < w.heap.size) v w.drew (fun b h => by simpa using h) (h.keep (w' := w.drew) fun _ _ => rfl)).mono ?_
  rintro e w' ⟨h1, h2⟩
  exact ⟨h1, (Below.refl _ w).drew.trans (h2.mono (by simp))⟩
theorem infoMachine : (Tryd.prog.info? 24).map (fun i => (i.zero, i.size, i.bytes)) = some (some (.agg #[.slice none 0 0, .slice none 0 0]), 2, 48) := by kernel_rfl
theorem cells_two (w : World) (x y : Value) (t : TypeId) : CellsIn (fun b => b = w.heap.size) (w.alloc (.cells #[x, y] t)) 2 (.slice (some ⟨w.heap.size, 0, none⟩) 1 1) 1 [x, y] := by
  refine ⟨_, 1, rfl, rfl, fun _ => ⟨w.heap.size, 0, rfl, rfl, fun j u hj => ?_⟩⟩
  match j, hj with
  | 0, hj => simp at hj; subst hj; simp
  | 1, hj => simp at hj; subst hj; simp
/-- one of the two machines, as it lies in the row -/
structure At (bs : Nat) (n : Nat) (mm : MachD) (j : Nat) (w : World) (d f c : Nat) (A : Option Addr) (c' : Nat) (G : Option Addr) (k : Nat) : Prop where
  x0 : w.cell? ⟨bs, j * 2, none⟩ = some (.slice (some ⟨d, f, none⟩) mm.out.length c)
  x1 : w.cell? ⟨bs, j * 2 + 1, none⟩ = some (.slice A mm.next.length c')
  mi : MachIn (fun b => b < w.heap.size) w (.agg #[.slice (some ⟨d, f, none⟩) mm.out.length c, .slice A mm.next.length c']) mm
  good : Good mm
  ins : ins mm = n
  dl : d < w.heap.size
  y : w.cell? ⟨d, f, none⟩ = some (.slice G n k)
theorem At.below {bs n j d f c c' k : Nat} {mm : MachD} {w w' : World} {A G : Option Addr} (h : At bs n mm j w d f c A c' G k) (hl : bs < w.heap.size) (hb : Below w.heap.size w w') : At bs n mm j w' d f c A c' G k :=
  ⟨(hb.cell (p := ⟨bs, j * 2, none⟩) hl).trans h.x0, (hb.cell (p := ⟨bs, j * 2 + 1, none⟩) hl).trans h.x1, (h.mi.keep (Same.of_below hb fun b h => h)).more fun b hb' => Nat.lt_of_lt_of_le hb' hb.size, h.good, h.ins, Nat.lt_of_lt_of_le h.dl hb.size, (hb.cell (p := ⟨d, f, none⟩) h.dl).trans h.y⟩
/-- what has been learnt after j rounds -/
def LInvS (m l : MachD) (B : Nat) (lv : Value) (j : Nat) (w : World) : Prop := ∃ cs ls, ls.length = j ∧ LRow B lv cs ls w ∧ ∀ i, i < j → ∃ x, ls[i]? = some x ∧ Lrnt (if i = 0 then m else l) x
theorem LInvS.nil (m l : MachD) (B : Nat) (w : World) : LInvS m l B (.slice none 0 0) 0 w := ⟨[], [], rfl, LRow.nil B w, fun i h => by omega⟩
theorem lstep {m l mm l5 : MachD} {B j : Nat} {lv v9 o n : Value} {cs : List Value} {ls : List MachD} {w w' : World} (hls : ls.length = j) (hL : LRow B lv cs ls w) (hl : ∀ i, i < j → ∃ x, ls[i]? = some x ∧ Lrnt (if i = 0 then m else l) x) (hmm : mm = (if j = 0 then m else l)) (hr : Lrnt mm l5)
    (hm : MachIn (fun b => B ≤ b ∧ b < w.heap.size ∧ lv.ownBlock ≠ some b) w (.agg #[o, n]) l5) (hown : w'.ownsRow B 24 2 v9 (ls.length + 1) (cs ++ [o, n])) (hg : w.grownBy w' lv.ownBlock) (hat : v9.ownBlock = lv.ownBlock ∨ v9.ownBlock = some w.heap.size) : LInvS m l B v9 (j + 1) w' := by
  refine ⟨_, ls ++ [l5], by simp [hls], hL.app hown hg (hat.imp id fun e => ⟨_, e, Nat.le_refl _⟩) hm, fun i hi => ?_⟩
  by_cases e : i < j
  · obtain ⟨x, h1, h2⟩ := hl i e
    exact ⟨x, by rw [List.getElem?_append_left (by omega)]; exact h1, h2⟩
  · obtain rfl : i = j := by omega
    exact ⟨l5, by rw [← hls]; simp, hmm ▸ hr⟩
set_option maxRecDepth 100000 in
set_option maxHeartbeats 4000000 in
theorem learnSame_walk (m : MachD) (u : Value) (l : MachD) (v : Value) (W : World) (hL : Laid W) (hu : MachIn (fun b => b < W.heap.size) W u m) (hv : MachIn (fun b => b < W.heap.size) W v l) :
    Calls Tryd.prog 4 #[u, v] W (LawPost W) := by
  have HL := hid hL
  have HU := hid hu
  have HV := hid hv
  obtain ⟨o1, n1, rfl, ⟨A1, c1, rfl, -, hr1⟩, ⟨A2, c2, rfl, -, -⟩⟩ := hu
  have HR1 := hid hr1
  obtain ⟨o2, n2, rfl, ⟨A3, c3, rfl, -, hr3⟩, ⟨A4, c4, rfl, -, -⟩⟩ := hv
  have HR3 := hid hr3
  clear hL hr1 hr3
  obtain ⟨w1, hw1⟩ : ∃ w1, w1 = W.alloc (.cells #[.slice A1 m.out.length c1, .slice A2 m.next.length c2] 24) := ⟨_, rfl⟩
  obtain ⟨w2, hw2⟩ : ∃ w2, w2 = w1.alloc (.cells #[.slice A3 l.out.length c3, .slice A4 l.next.length c4] 24) := ⟨_, rfl⟩
  obtain ⟨b1, hb1⟩ : ∃ b1, b1 = W.heap.size := ⟨_, rfl⟩
  obtain ⟨b2, hb2⟩ : ∃ b2, b2 = W.heap.size + 1 := ⟨_, rfl⟩
  have SZ : Hid (b1 = W.heap.size ∧ b2 = W.heap.size + 1 ∧ w2.heap.size = W.heap.size + 2) := by
    show _ ∧ _
    exact ⟨hb1, hb2, by rw [hw2, hw1]; simp⟩
  have B2 : Hid (Below W.heap.size W w2) := by show Below _ _ _; rw [hw2, hw1]; exact ((Below.refl _ _).alloc (Nat.le_refl _) _).alloc (by simp) _
  have X1 : Hid (w2.heap[b1]? = some (.cells #[.slice A1 m.out.length c1, .slice A2 m.next.length c2] 24 (0, 0))) := by show _ = _; rw [hw2, hw1, hb1]; exact Has.alloc (Has.new W _) _
  have X2 : Hid (w2.heap[b2]? = some (.cells #[.slice A3 l.out.length c3, .slice A4 l.next.length c4] 24 (0, 0))) := by show _ = _; rw [hw2, hw1]; exact Has.newAt _ _ (by simp; omega)
  have VM2 : Hid (MachIn (fun b => b < w2.heap.size) w2 (.agg #[.slice A1 m.out.length c1, .slice A2 m.next.length c2]) m) := (HU.out.keep (Same.of_below B2.out fun b h => h)).more fun b h => by have := SZ.out; omega
  have VL2 : Hid (MachIn (fun b => b < w2.heap.size) w2 (.agg #[.slice A3 l.out.length c3, .slice A4 l.next.length c4]) l) := (HV.out.keep (Same.of_below B2.out fun b h => h)).more fun b h => by have := SZ.out; omega
  have x10 := (Has.cell X1.out 0).trans rfl
  have x11 := (Has.cell X1.out 1).trans rfl
  have x20 := (Has.cell X2.out 0).trans rfl
  have x21 := (Has.cell X2.out 1).trans rfl
  go_enter Tryd.func4, Tryd.ntmps4
  go_upto_region 1 with fail
  rw [← hw1, ← hw2, ← hb1]
  have e1 : b1 + 1 = b2 := by rw [hb1, hb2]
  rw [e1]
  clear e1 hw1 hw2 hb1 hb2
  have L1 : Hid (b1 < w2.heap.size) := by show _ < _; have := SZ.out; omega
  have L2 : Hid (b2 < w2.heap.size) := by show _ < _; have := SZ.out; omega
  have S9 : Hid (W.heap.size ≤ w2.heap.size) := by show _ ≤ _; have := SZ.out; omega
  by_cases h1 : chk m = 0
  · have H1 : Hid (errV (chk m) = .nilIface) := by show _ = _; rw [h1]; rfl
    by_cases h2 : chk l = 0
    · have H2 : Hid (errV (chk l) = .nilIface) := by show _ = _; rw [h2]; rfl
      have GM := hid (chk_good h1)
      have GL := hid (chk_good h2)
      clear h1 h2
      have g1 : 0 < m.out.length := GM.out.pos
      have g3 : 0 < l.out.length := GL.out.pos
      have i1 := GM.out.ins1
      have i3 := GM.out.ins3
      obtain ⟨d1, f1, rfl, hd1, h1⟩ := HR1.out g1
      obtain ⟨r1, q1, hr1⟩ := h1 0 g1
      have y1 := (B2.out.cell (p := ⟨d1, f1 + 0, none⟩) hd1).trans q1
      rw [Nat.add_zero] at y1
      obtain ⟨G1, k1, rfl, -, -, -⟩ := hr1
      obtain ⟨d3, f3, rfl, hd3, h3⟩ := HR3.out g3
      obtain ⟨r3, q3, hr3⟩ := h3 0 g3
      have y3 := (B2.out.cell (p := ⟨d3, f3 + 0, none⟩) hd3).trans q3
      rw [Nat.add_zero] at y3
      obtain ⟨G3, k3, rfl, -, -, -⟩ := hr3
      have LD1 : Hid (d1 < w2.heap.size) := by show _ < _; have := SZ.out; omega
      have LD3 : Hid (d3 < w2.heap.size) := by show _ < _; have := SZ.out; omega
      obtain ⟨nm, hnm⟩ : ∃ n, n = ins m := ⟨_, rfl⟩
      obtain ⟨nl, hnl⟩ : ∃ n, n = ins l := ⟨_, rfl⟩
      have IN1 : Hid ((rowAt m.out 0).length = nm) := hnm.symm
      have IN3 : Hid ((rowAt l.out 0).length = nl) := hnl.symm
      rw [IN1.out] at y1
      rw [IN3.out] at y3
      have HNM := hid hnm
      have HNL := hid hnl
      rw [← hnm] at i1 i3
      clear h1 h3 q1 q3 hd1 hd3 hnm hnl
      by_cases hne : nm = nl
      · subst hne
        have Q2 := hid ((Below.refl w2.heap.size w2).drew)
        refine wp_region_l (S := (fun w' => w'.cell? ⟨b1, 0, none⟩ = some (.slice (some ⟨d1, f1, none⟩) m.out.length c1) ∧ w'.cell? ⟨b1, 1, none⟩ = some (.slice A2 m.next.length c2) ∧ w'.cell? ⟨b2, 0, none⟩ = some (.slice (some ⟨d3, f3, none⟩) l.out.length c3) ∧ w'.cell? ⟨b2, 1, none⟩ = some (.slice A4 l.next.length c4) ∧ w'.cell? ⟨d1, f1, none⟩ = some (.slice G1 nm k1) ∧ w'.cell? ⟨d3, f3, none⟩ = some (.slice G3 nm k3))) (Ls := []) (by kernel_rfl) ⟨x10, x11, x20, x21, y1, y3⟩ (fun hHeld => ?_)
        refine takeL [] (i := 0) (d := 16) (oi := _) (v := ?_) rfl rfl (by kernel_rfl) (by kernel_rfl) (by kernel_rfl) (by kernel_rfl) (by kernel_rfl) (fun _ _ _ h => h) (Or.inl ⟨by rfl, ?_⟩) (by assumption) ?_
        rotate_left
        · intro wz hSw; (try dsimp only at hSw); go_simp; (try with_reducible rfl)
        try simp only [Act.put, List.setIfInBounds_toArray, List.set_cons_zero, List.set_cons_succ]
        refine nxtL (i := 1) (o := _) (by kernel_rfl) rfl (fun K' hK => ?_)
        go_simp
        refine (check_any m (fun b => b < w2.heap.size) _ w2.drew (fun b h => by have := Q2.out.size; omega) (VM2.out.keep (Same.of_below Q2.out fun b h => h))).mono ?_
        rintro e w3 ⟨he, hb⟩
        rw [H1.out] at he
        subst he
        have Q3 := hid (Q2.out.trans (hb.mono Q2.out.size))
        clear hb hHeld
        have hHeld : (fun w' => w'.cell? ⟨b1, 0, none⟩ = some (.slice (some ⟨d1, f1, none⟩) m.out.length c1) ∧ w'.cell? ⟨b1, 1, none⟩ = some (.slice A2 m.next.length c2) ∧ w'.cell? ⟨b2, 0, none⟩ = some (.slice (some ⟨d3, f3, none⟩) l.out.length c3) ∧ w'.cell? ⟨b2, 1, none⟩ = some (.slice A4 l.next.length c4) ∧ w'.cell? ⟨d1, f1, none⟩ = some (.slice G1 nm k1) ∧ w'.cell? ⟨d3, f3, none⟩ = some (.slice G3 nm k3)) w3 := ⟨(Q3.out.cell (p := ⟨b1, 0, none⟩) L1.out).trans x10, (Q3.out.cell (p := ⟨b1, 1, none⟩) L1.out).trans x11, (Q3.out.cell (p := ⟨b2, 0, none⟩) L2.out).trans x20, (Q3.out.cell (p := ⟨b2, 1, none⟩) L2.out).trans x21, (Q3.out.cell (p := ⟨d1, f1, none⟩) LD1.out).trans y1, (Q3.out.cell (p := ⟨d3, f3, none⟩) LD3.out).trans y3⟩
        refine hK.out _ _ (Or.inl hHeld) ?_
        clear hK K'
        try simp only [Act.put, List.setIfInBounds_toArray, List.set_cons_zero, List.set_cons_succ]
        refine takeL [] (i := 2) (d := 18) (oi := _) (v := ?_) rfl rfl (by kernel_rfl) (by kernel_rfl) (by kernel_rfl) (by kernel_rfl) (by kernel_rfl) (fun _ _ _ h => h) (Or.inl ⟨by rfl, ?_⟩) (by assumption) ?_
        rotate_left
        · intro wz hSw; (try dsimp only at hSw); go_simp; (try with_reducible rfl)
        try simp only [Act.put, List.setIfInBounds_toArray, List.set_cons_zero, List.set_cons_succ]
        refine takeL [] (i := 3) (d := 19) (oi := _) (v := ?_) rfl rfl (by kernel_rfl) (by kernel_rfl) (by kernel_rfl) (by kernel_rfl) (by kernel_rfl) (fun _ _ _ h => h) (Or.inl ⟨by rfl, ?_⟩) (by assumption) ?_
        rotate_left
        · intro wz hSw; (try dsimp only at hSw); go_simp; (try with_reducible rfl)
        try simp only [Act.put, List.setIfInBounds_toArray, List.set_cons_zero, List.set_cons_succ]
        refine takeL [] (i := 4) (d := 20) (oi := _) (v := ?_) rfl rfl (by kernel_rfl) (by kernel_rfl) (by kernel_rfl) (by kernel_rfl) (by kernel_rfl) (fun _ _ _ h => h) (Or.inl ⟨by rfl, ?_⟩) (by assumption) ?_
        rotate_left
        · intro wz hSw; (try dsimp only at hSw); go_simp; (try with_reducible rfl)
        try simp only [Act.put, List.setIfInBounds_toArray, List.set_cons_zero, List.set_cons_succ]
        refine nxtL (i := 5) (o := _) (by kernel_rfl) rfl (fun K' hK => ?_)
        go_simp
        refine (check_any l (fun b => b < w2.heap.size) _ w3 (fun b h => by have := Q3.out.size; omega) (VL2.out.keep (Same.of_below Q3.out fun b h => h))).mono ?_
        rintro e w4 ⟨he, hb⟩
        rw [H2.out] at he
        subst he
        have Q4 := hid (Q3.out.trans (hb.mono Q3.out.size))
        clear hb hHeld
        have hHeld : (fun w' => w'.cell? ⟨b1, 0, none⟩ = some (.slice (some ⟨d1, f1, none⟩) m.out.length c1) ∧ w'.cell? ⟨b1, 1, none⟩ = some (.slice A2 m.next.length c2) ∧ w'.cell? ⟨b2, 0, none⟩ = some (.slice (some ⟨d3, f3, none⟩) l.out.length c3) ∧ w'.cell? ⟨b2, 1, none⟩ = some (.slice A4 l.next.length c4) ∧ w'.cell? ⟨d1, f1, none⟩ = some (.slice G1 nm k1) ∧ w'.cell? ⟨d3, f3, none⟩ = some (.slice G3 nm k3)) w4 := ⟨(Q4.out.cell (p := ⟨b1, 0, none⟩) L1.out).trans x10, (Q4.out.cell (p := ⟨b1, 1, none⟩) L1.out).trans x11, (Q4.out.cell (p := ⟨b2, 0, none⟩) L2.out).trans x20, (Q4.out.cell (p := ⟨b2, 1, none⟩) L2.out).trans x21, (Q4.out.cell (p := ⟨d1, f1, none⟩) LD1.out).trans y1, (Q4.out.cell (p := ⟨d3, f3, none⟩) LD3.out).trans y3⟩
        refine hK.out _ _ (Or.inl hHeld) ?_
        clear hK K'
        try simp only [Act.put, List.setIfInBounds_toArray, List.set_cons_zero, List.set_cons_succ]
        refine takeL [] (i := 6) (d := 22) (oi := _) (v := ?_) rfl rfl (by kernel_rfl) (by kernel_rfl) (by kernel_rfl) (by kernel_rfl) (by kernel_rfl) (fun _ _ _ h => h) (Or.inl ⟨by rfl, ?_⟩) (by assumption) ?_
        rotate_left
        · intro wz hSw; (try dsimp only at hSw); go_simp; (try with_reducible rfl)
        try simp only [Act.put, List.setIfInBounds_toArray, List.set_cons_zero, List.set_cons_succ]
        refine takeL [] (i := 7) (d := 23) (oi := _) (v := ?_) rfl rfl (by kernel_rfl) (by kernel_rfl) (by kernel_rfl) (by kernel_rfl) (by kernel_rfl) (fun _ _ _ h => h) (Or.inl ⟨by rfl, ?_⟩) (by assumption) ?_
        rotate_left
        · intro wz hSw; (try dsimp only at hSw); go_simp; (try with_reducible rfl)
        try simp only [Act.put, List.setIfInBounds_toArray, List.set_cons_zero, List.set_cons_succ]
        refine takeL [] (i := 8) (d := 24) (oi := _) (v := ?_) rfl rfl (by kernel_rfl) (by kernel_rfl) (by kernel_rfl) (by kernel_rfl) (by kernel_rfl) (fun _ _ _ h => h) (Or.inl ⟨by rfl, ?_⟩) (by assumption) ?_
        rotate_left
        · intro wz hSw; (try dsimp only at hSw); go_simp; (try with_reducible rfl)
        try simp only [Act.put, List.setIfInBounds_toArray, List.set_cons_zero, List.set_cons_succ]
        refine takeL [] (i := 9) (d := 25) (oi := _) (v := ?_) rfl rfl (by kernel_rfl) (by kernel_rfl) (by kernel_rfl) (by kernel_rfl) (by kernel_rfl) (fun _ _ _ h => h) (Or.inl ⟨by rfl, ?_⟩) (by assumption) ?_
        rotate_left
        · intro wz hSw; (try dsimp only at hSw); go_simp; (try with_reducible rfl)
        try simp only [Act.put, List.setIfInBounds_toArray, List.set_cons_zero, List.set_cons_succ]
        refine takeL [] (i := 10) (d := 26) (oi := _) (v := ?_) rfl rfl (by kernel_rfl) (by kernel_rfl) (by kernel_rfl) (by kernel_rfl) (by kernel_rfl) (fun _ _ _ h => h) (Or.inl ⟨by rfl, ?_⟩) (by assumption) ?_
        rotate_left
        · intro wz hSw; (try dsimp only at hSw); go_simp; (try with_reducible rfl)
        try simp only [Act.put, List.setIfInBounds_toArray, List.set_cons_zero, List.set_cons_succ]
        refine takeL [] (i := 11) (d := 27) (oi := _) (v := ?_) rfl rfl (by kernel_rfl) (by kernel_rfl) (by kernel_rfl) (by kernel_rfl) (by kernel_rfl) (fun _ _ _ h => h) (Or.inl ⟨by rfl, ?_⟩) (by assumption) ?_
        rotate_left
        · intro wz hSw; (try dsimp only at hSw); go_simp; (try with_reducible rfl)
        try simp only [Act.put, List.setIfInBounds_toArray, List.set_cons_zero, List.set_cons_succ]
        refine takeL [] (i := 12) (d := 28) (oi := _) (v := ?_) rfl rfl (by kernel_rfl) (by kernel_rfl) (by kernel_rfl) (by kernel_rfl) (by kernel_rfl) (fun _ _ _ h => h) (Or.inl ⟨by rfl, ?_⟩) (by assumption) ?_
        rotate_left
        · intro wz hSw; (try dsimp only at hSw); go_simp; (try with_reducible rfl)
        try simp only [Act.put, List.setIfInBounds_toArray, List.set_cons_zero, List.set_cons_succ]
        refine takeL [] (i := 13) (d := 29) (oi := _) (v := ?_) rfl rfl (by kernel_rfl) (by kernel_rfl) (by kernel_rfl) (by kernel_rfl) (by kernel_rfl) (fun _ _ _ h => h) (Or.inl ⟨by rfl, ?_⟩) (by assumption) ?_
        rotate_left
        · intro wz hSw; (try dsimp only at hSw); go_simp; (try with_reducible rfl)
        try simp only [Act.put, List.setIfInBounds_toArray, List.set_cons_zero, List.set_cons_succ]
        refine takeL [] (i := 14) (d := 30) (oi := _) (v := ?_) rfl rfl (by kernel_rfl) (by kernel_rfl) (by kernel_rfl) (by kernel_rfl) (by kernel_rfl) (fun _ _ _ h => h) (Or.inl ⟨by rfl, ?_⟩) (by assumption) ?_
        rotate_left
        · intro wz hSw; (try dsimp only at hSw); go_simp; (try with_reducible rfl)
        try simp only [Act.put, List.setIfInBounds_toArray, List.set_cons_zero, List.set_cons_succ]
        refine takeL [] (i := 15) (d := 31) (oi := _) (v := ?_) rfl rfl (by kernel_rfl) (by kernel_rfl) (by kernel_rfl) (by kernel_rfl) (by kernel_rfl) (fun _ _ _ h => h) (Or.inl ⟨by rfl, ?_⟩) (by assumption) ?_
        rotate_left
        · intro wz hSw; (try dsimp only at hSw); go_simp; (try with_reducible rfl)
        try simp only [Act.put, List.setIfInBounds_toArray, List.set_cons_zero, List.set_cons_succ]
        refine takeL [] (i := 16) (d := 32) (oi := _) (v := ?_) rfl rfl (by kernel_rfl) (by kernel_rfl) (by kernel_rfl) (by kernel_rfl) (by kernel_rfl) (fun _ _ _ h => h) (Or.inl ⟨by rfl, ?_⟩) (by assumption) ?_
        rotate_left
        · intro wz hSw; (try dsimp only at hSw); go_simp; (try with_reducible rfl)
        try simp only [Act.put, List.setIfInBounds_toArray, List.set_cons_zero, List.set_cons_succ]
        refine takeL [] (i := 17) (d := 33) (oi := _) (v := ?_) rfl rfl (by kernel_rfl) (by kernel_rfl) (by kernel_rfl) (by kernel_rfl) (by kernel_rfl) (fun _ _ _ h => h) (Or.inl ⟨by rfl, ?_⟩) (by assumption) ?_
        rotate_left
        · intro wz hSw; (try dsimp only at hSw); go_simp; (try with_reducible rfl)
        try simp only [Act.put, List.setIfInBounds_toArray, List.set_cons_zero, List.set_cons_succ]
        refine takeL [] (i := 18) (d := 34) (oi := _) (v := ?_) rfl rfl (by kernel_rfl) (by kernel_rfl) (by kernel_rfl) (by kernel_rfl) (by kernel_rfl) (fun _ _ _ h => h) (Or.inl ⟨by rfl, ?_⟩) (by assumption) ?_
        rotate_left
        · intro wz hSw; (try dsimp only at hSw); go_simp; (try with_reducible rfl)
        try simp only [Act.put, List.setIfInBounds_toArray, List.set_cons_zero, List.set_cons_succ]
        refine takeL [] (i := 19) (d := 35) (oi := _) (v := ?_) rfl rfl (by kernel_rfl) (by kernel_rfl) (by kernel_rfl) (by kernel_rfl) (by kernel_rfl) (fun _ _ _ h => h) (Or.inl ⟨by rfl, ?_⟩) (by assumption) ?_
        rotate_left
        · intro wz hSw; (try dsimp only at hSw); go_simp; (try with_reducible rfl)
        try simp only [Act.put, List.setIfInBounds_toArray, List.set_cons_zero, List.set_cons_succ]
        refine takeL [] (i := 20) (d := 36) (oi := _) (v := ?_) rfl rfl (by kernel_rfl) (by kernel_rfl) (by kernel_rfl) (by kernel_rfl) (by kernel_rfl) (fun _ _ _ h => h) (Or.inl ⟨by rfl, ?_⟩) (by assumption) ?_
        rotate_left
        · intro wz hSw; (try dsimp only at hSw); go_simp; (try with_reducible rfl)
        try simp only [Act.put, List.setIfInBounds_toArray, List.set_cons_zero, List.set_cons_succ]
        refine doneL (by kernel_rfl) ?_ _
        clear hHeld
        have Q4s := hid Q4.out.size
        have X14 := hid (Has.below X1.out Q4.out L1.out)
        have X24 := hid (Has.below X2.out Q4.out L2.out)
        obtain ⟨w5, hw5⟩ : ∃ w5, w5 = w4.alloc (.cells #[.slice (some ⟨d1, f1, none⟩) m.out.length c1, .slice A2 m.next.length c2, .slice (some ⟨d3, f3, none⟩) l.out.length c3, .slice A4 l.next.length c4] 24) := ⟨_, rfl⟩
        obtain ⟨bs, hbs⟩ : ∃ b, b = w4.heap.size := ⟨_, rfl⟩
        have S5 : Hid (bs = w4.heap.size ∧ w5.heap.size = w4.heap.size + 1) := by show _ ∧ _; exact ⟨hbs, by rw [hw5]; simp⟩
        have Q45 : Hid (Below w2.heap.size w4 w5) := by show Below _ _ _; rw [hw5]; exact (Below.refl _ _).alloc Q4s.out _
        have Q5 := hid (Q4.out.trans Q45.out)
        have BS : Hid (bs < w5.heap.size) := by show _ < _; have := S5.out; omega
        have XS5 : Hid (w5.heap[bs]? = some (.cells #[.slice (some ⟨d1, f1, none⟩) m.out.length c1, .slice A2 m.next.length c2, .slice (some ⟨d3, f3, none⟩) l.out.length c3, .slice A4 l.next.length c4] 24 (0, 0))) := by show _ = _; rw [hw5, hbs]; exact Has.new w4 _
        have AM : Hid (At bs nm m 0 w5 d1 f1 c1 A2 c2 G1 k1) := ⟨(Has.cell XS5.out 0).trans rfl, (Has.cell XS5.out 1).trans rfl, (VM2.out.keep (Same.of_below Q5.out fun b h => h)).more fun b h => by have := Q5.out.size; omega, GM.out, HNM.out.symm, by have := LD1.out; have := Q5.out.size; omega, (Q5.out.cell (p := ⟨d1, f1, none⟩) LD1.out).trans y1⟩
        have AL : Hid (At bs nm l 1 w5 d3 f3 c3 A4 c4 G3 k3) := ⟨(Has.cell XS5.out 2).trans rfl, (Has.cell XS5.out 3).trans rfl, (VL2.out.keep (Same.of_below Q5.out fun b h => h)).more fun b h => by have := Q5.out.size; omega, GL.out, HNL.out.symm, by have := LD3.out; have := Q5.out.size; omega, (Q5.out.cell (p := ⟨d3, f3, none⟩) LD3.out).trans y3⟩
        have AT : Hid (∀ j, j < 2 → ∃ mm d f c A c' G k, mm = (if j = 0 then m else l) ∧ At bs nm mm j w5 d f c A c' G k) := by
          show ∀ j, _ → _
          intro j hj
          rcases Nat.lt_or_ge 0 j with h | h
          · obtain rfl : j = 1 := by omega
            exact ⟨l, _, _, _, _, _, _, _, rfl, AL.out⟩
          · obtain rfl : j = 0 := by omega
            exact ⟨m, _, _, _, _, _, _, _, rfl, AM.out⟩
        clear x10 x11 x20 x21 y1 y3
        have x40 := (Has.cell X14.out 0).trans rfl
        have x41 := (Has.cell X14.out 1).trans rfl
        have x42 := (Has.cell X24.out 0).trans rfl
        have x43 := (Has.cell X24.out 1).trans rfl
        obtain ⟨iM, hiM, hzM0, hzM1, hzM2⟩ := info_parts infoMachine
        go_upto_region 6 with fail
        rw [← hw5, ← hbs]
        clear hw5 hbs x40 x41 x42 x43
        go_loopw [6, 7] (fun lv ji wr => ∃ j : Nat, j ≤ 2 ∧ ji = .int .i64 j ∧ Hid (LInvS m l w5.heap.size lv j wr) ∧ Hid (Below w5.heap.size w5 wr)) (fun _ ji _ => 2 - (intOf ji).toNat)
        case atStart => exact ⟨0, by omega, rfl, LInvS.nil _ _ _ _, Below.refl _ _⟩
        case round =>
          obtain ⟨j, hj, rfl, hR, hB⟩ := hrel
          have s6 := hB.out.size
          by_cases hlt : j < 2
          · obtain ⟨mm, d, f, c, A, c', G, k, hmm, at5⟩ := AT.out j hlt
            have A6 := hid (at5.below BS.out hB.out)
            have HMM := hid hmm
            have z0 := A6.out.x0
            have z1 := A6.out.x1
            obtain ⟨wa, hwa⟩ : ∃ wa, wa = wr.alloc (.cells #[.slice (some ⟨d, f, none⟩) mm.out.length c, .slice A mm.next.length c'] 24) := ⟨_, rfl⟩
            obtain ⟨bm, hbm⟩ : ∃ b, b = wr.heap.size := ⟨_, rfl⟩
            have SA : Hid (bm = wr.heap.size ∧ wa.heap.size = wr.heap.size + 1) := by show _ ∧ _; exact ⟨hbm, by rw [hwa]; simp⟩
            have QA : Hid (Below wr.heap.size wr wa) := by show Below _ _ _; rw [hwa]; exact (Below.refl _ _).alloc (Nat.le_refl _) _
            have XA : Hid (wa.heap[bm]? = some (.cells #[.slice (some ⟨d, f, none⟩) mm.out.length c, .slice A mm.next.length c'] 24 (0, 0))) := by show _ = _; rw [hwa, hbm]; exact Has.new wr _
            have AA := hid (A6.out.below (by have := BS.out; omega) QA.out)
            have xa0 := (Has.cell XA.out 0).trans rfl
            have xa1 := (Has.cell XA.out 1).trans rfl
            have ya := AA.out.y
            have MAA : Hid (MA mm bm wa.heap.size (.slice (some ⟨d, f, none⟩) mm.out.length c) (.slice A mm.next.length c') wa) := ⟨XA.out, AA.out.mi⟩
            have HTO := hid (tellS_ok A6.out.good (bm := bm) (B0 := wa.heap.size) (o := .slice (some ⟨d, f, none⟩) mm.out.length c) (nx := .slice A mm.next.length c') (by have := SA.out; omega))
            have HWO := hid (wrongS_ok A6.out.good (bm := bm) (B0 := wa.heap.size) (o := .slice (some ⟨d, f, none⟩) mm.out.length c) (nx := .slice A mm.next.length c') (by have := SA.out; omega))
            have hRU := hid (ruleM A6.out.good)
            rw [A6.out.ins] at HTO HWO hRU
            have gp : 0 < mm.out.length := A6.out.good.pos
            have ji : (j : Int) < 2 := by omega
            clear at5 hmm
            go_upto_region 9 with fail
            rw [← hwa, ← hbm]
            clear hwa hbm z0 z1
            go_wp2_with fail
            refine (learn_any (fun _ => HTO.out) HWO.out hRU.out i1 i3 wa MAA.out (Nat.le_refl _)).mono ?_
            rintro e w7 ⟨a, heads, tails, r', c5, l5, v5, s, hI, ht, hC, hco5, hld5, hW, ha1, ha7, rfl, hv5, hg5, hR5, -, -⟩
            have LR : Hid (Lrnt mm l5) := by
              show Lrnt _ _
              rw [← A6.out.ins] at ht hC hco5 hld5
              exact lrnt_of A6.out.good ht hC hco5 hld5 hW
            have G7 : Hid (Below wa.heap.size wa w7) := ⟨hg5.os, hg5.tape, hg5.output, hg5.size, fun b hb => hg5.block b hb (fun e => by cases e)⟩
            have V7 := hid hv5
            obtain ⟨o5, n5, rfl, ⟨A5, c6, rfl, -, -⟩, ⟨A7, c7, rfl, -, -⟩⟩ := hv5
            clear hI ht hC hco5 hld5 hW hg5 hR5 ha1 ha7 HTO HWO hRU
            have R6 := hid hR
            obtain ⟨cs, ls, hls, hLR, hLl⟩ := hR
            have LRw := hid hLR
            have LLw := hid hLl
            have B7 := hid (QA.out.trans (G7.out.mono (by have := SA.out; omega)))
            obtain ⟨w8, hw8⟩ : ∃ w8, w8 = w7.alloc (.cells #[.slice A5 l5.out.length c6, .slice A7 l5.next.length c7] 24) := ⟨_, rfl⟩
            obtain ⟨b8, hb8⟩ : ∃ b, b = w7.heap.size := ⟨_, rfl⟩
            have S8 : Hid (b8 = w7.heap.size ∧ w8.heap.size = w7.heap.size + 1) := by show _ ∧ _; exact ⟨hb8, by rw [hw8]; simp⟩
            have Q78 : Hid (Below w7.heap.size w7 w8) := by show Below _ _ _; rw [hw8]; exact (Below.refl _ _).alloc (Nat.le_refl _) _
            have B8 := hid (B7.out.trans (Q78.out.mono (by have := B7.out.size; omega)))
            have X8 : Hid (w8.heap[b8]? = some (.cells #[.slice A5 l5.out.length c6, .slice A7 l5.next.length c7] 24 (0, 0))) := by show _ = _; rw [hw8, hb8]; exact Has.new w7 _
            have L8 := hid (LRw.out.gr B8.out)
            have O9 := hid (L8.out.own.alloc (.cells #[.slice A5 l5.out.length c6, .slice A7 l5.next.length c7] 24))
            have L9 := hid (L8.out.gr ((Below.refl w8.heap.size w8).alloc (Nat.le_refl _) (.cells #[.slice A5 l5.out.length c6, .slice A7 l5.next.length c7] 24)))
            have C9 := hid (cells_two w8 (.slice A5 l5.out.length c6) (.slice A7 l5.next.length c7) 24)
            have x80 := (Has.cell X8.out 0).trans rfl
            have x81 := (Has.cell X8.out 1).trans rfl
            have sz8 := B8.out.size
            clear hLR hLl
            go_upto_region 10 with fail
            rw [← hw8, ← hb8]
            clear hw8 hb8 xa0 xa1 ya
            have M9 : Hid (MachIn (fun b => w5.heap.size ≤ b ∧ b < (w8.alloc (.cells #[.slice A5 l5.out.length c6, .slice A7 l5.next.length c7] 24)).heap.size ∧ u6.ownBlock ≠ some b) (w8.alloc (.cells #[.slice A5 l5.out.length c6, .slice A7 l5.next.length c7] 24)) (.agg #[.slice A5 l5.out.length c6, .slice A7 l5.next.length c7]) l5) := by
              refine (V7.out.keep (w' := w8.alloc _) fun b hb => ?_).more fun b hb => ⟨?_, ?_, fun e => ?_⟩
              · exact (Below.heap_alloc w8 _ b (by have := Q78.out.size; have := hb.2; omega)).trans (Q78.out.block b hb.2)
              · have := hb.1; have := SA.out; omega
              · have := hb.2; have := Q78.out.size; simp; omega
              · have := own_lt LRw.out.own b e; have := hb.1; have := SA.out; omega
            go_wp2_with (at_builtin; refine wpList_app _ rfl (.tmp 63) (.tmp 65) 37 rfl w5.heap.size 24 iM (.agg #[.slice none 0 0, .slice none 0 0]) 2 48 Tryd.underlying37 hiM hzM0 hzM1 hzM2 rfl (by decide) _ _ _ rfl O9.out _ _ 1 _ rfl C9.out (by intro u hu; simp at hu; rcases hu with rfl | rfl <;> rfl) (by unfold maxLen; omega) (by omega) (by simp; omega) ?_; intro v9 w9 hown hgrow hat; have R9 : Hid (LInvS m l w5.heap.size v9 (j + 1) w9) := lstep hls L9.out LLw.out HMM.out LR.out M9.out hown hgrow hat; have B9 : Hid (Below w5.heap.size w5 w9) := (hB.out.trans ((B8.out.mono s6).alloc (by omega) _)).grown hgrow (by simp; omega) (own_ge O9.out); clear hown hgrow hat)
            go_roundw
            case rel => exact ⟨j + 1, by omega, by go_num, R9, B9⟩
            case measure => simp [intOf]; omega
          · obtain rfl : j = 2 := by omega
            obtain ⟨cs, ls, hls, hLR, hLl⟩ := hR.out
            obtain ⟨x, ex, LA⟩ := hLl 0 (by omega)
            obtain ⟨y, ey, LB⟩ := hLl 1 (by omega)
            obtain ⟨o1, n1, z1, p1, p2, p3, p4⟩ := hLR.mem 0 (by omega)
            obtain ⟨o2, n2, z2, p5, p6, p7, p8⟩ := hLR.mem 1 (by omega)
            obtain rfl : z1 = x := by rw [ex] at p3; injection p3 with p3; exact p3.symm
            obtain rfl : z2 = y := by rw [ey] at p7; injection p7 with p7; exact p7.symm
            have HOW := hLR.own
            rw [hls] at HOW
            obtain ⟨g, cap, rfl, hbg, hgl, hcp, -, hcell⟩ := own_open HOW (by omega)
            have GL9 := hid hgl
            have q0 := (hcell 0 (by omega)).trans p1
            have q1 := (hcell 1 (by omega)).trans p2
            have q2 := (hcell 2 (by omega)).trans p5
            have q3 := (hcell 3 (by omega)).trans p6
            have HQ : Hid (wr.cell? ⟨g, 0, none⟩ = some o1 ∧ wr.cell? ⟨g, 1, none⟩ = some n1 ∧ wr.cell? ⟨g, 2, none⟩ = some o2 ∧ wr.cell? ⟨g, 3, none⟩ = some n2) := ⟨q0, q1, q2, q3⟩
            have P4 := hid p4
            have P8 := hid p8
            have SAME : Hid (decide (z1.out = z2.out ∧ z1.next = z2.next) = decide (apC m l = 2)) := same_lrnt GM.out GL.out (HNM.out.symm.trans HNL.out) LA LB
            clear ex ey LA LB p1 p2 p3 p4 p5 p6 p7 p8 q0 q1 q2 q3 hcell hLR hLl HOW hls hcp hbg
            have W5 := Q5.out.size
            have X15 := hid (Has.below X1.out Q5.out L1.out)
            have X25 := hid (Has.below X2.out Q5.out L2.out)
            have X1r := hid (Has.below X15.out hB.out (by have := L1.out; omega))
            have X2r := hid (Has.below X25.out hB.out (by have := L2.out; omega))
            have QR := hid (Q5.out.trans (hB.out.mono W5))
            have BR := hid (B2.out.trans (QR.out.mono S9.out))
            have VMr := hid ((VM2.out.keep (Same.of_below QR.out fun b h => h)).more (F' := fun b => b < wr.heap.size) fun b h => by omega)
            have VLr := hid ((VL2.out.keep (Same.of_below QR.out fun b h => h)).more (F' := fun b => b < wr.heap.size) fun b h => by omega)
            have x40 := (Has.cell X1r.out 0).trans rfl
            have x41 := (Has.cell X1r.out 1).trans rfl
            have x42 := (Has.cell X2r.out 0).trans rfl
            have x43 := (Has.cell X2r.out 1).trans rfl
            have LAr := hid (Laid.below HL.out BR.out)
            go_wp2_with fail
            refine (apart_ok m l (fun b => b < wr.heap.size) _ _ wr (fun b h => h) VMr.out VLr.out GM.out GL.out (HNM.out.symm.trans HNL.out)).mono ?_
            rintro e w10 ⟨u, rfl, hu, hb⟩
            obtain ⟨A9, c9, rfl, -, -, -⟩ := hu
            have B10 := hid hb
            clear hb x40 x41 x42 x43
            go_upto_region 14 with fail
            go_wp2_with fail
            refine (serror_any (apC m l) 2 w10 (LAr.out.below B10.out)).mono ?_
            rintro e w11 ⟨rfl, hb⟩
            obtain ⟨bb, hbb⟩ : ∃ b, b = decide (apC m l = 2) := ⟨_, rfl⟩
            rw [← hbb] at SAME
            rw [← hbb]
            clear hbb
            have B11 := hid (B10.out.trans (hb.mono B10.out.size))
            have s11 := B11.out.size
            clear hb
            have v0 := (B11.out.cell (p := ⟨g, 0, none⟩) GL9.out).trans HQ.out.1
            have v1 := (B11.out.cell (p := ⟨g, 1, none⟩) GL9.out).trans HQ.out.2.1
            have v2 := (B11.out.cell (p := ⟨g, 2, none⟩) GL9.out).trans HQ.out.2.2.1
            have v3 := (B11.out.cell (p := ⟨g, 3, none⟩) GL9.out).trans HQ.out.2.2.2
            have VA := hid ((P4.out.keep (w' := w11.drew) (fun b hb => B11.out.block b hb.2.1)).more (F' := fun b => b < w11.drew.heap.size) fun b hb => by have := hb.2.1; show b < w11.heap.size; omega)
            have VB := hid ((P8.out.keep (w' := w11.drew) (fun b hb => B11.out.block b hb.2.1)).more (F' := fun b => b < w11.drew.heap.size) fun b hb => by have := hb.2.1; show b < w11.heap.size; omega)
            go_upto_region 15 with fail
            refine wp_region_l (S := (fun w' => w'.cell? ⟨g, 0, none⟩ = some o1 ∧ w'.cell? ⟨g, 1, none⟩ = some n1 ∧ w'.cell? ⟨g, 2, none⟩ = some o2 ∧ w'.cell? ⟨g, 3, none⟩ = some n2)) (Ls := [7]) (by kernel_rfl) ⟨v0, v1, v2, v3⟩ (fun hHeld => ?_)
            refine takeL [7] (i := 0) (d := 75) (oi := _) (v := ?_) rfl rfl (by kernel_rfl) (by kernel_rfl) (by kernel_rfl) (by kernel_rfl) (by kernel_rfl) (fun _ _ _ h => h) (Or.inl ⟨by rfl, ?_⟩) (by assumption) ?_
            rotate_left
            · intro wz hSw; (try dsimp only at hSw); go_simp; (try with_reducible rfl)
            try simp only [Act.put, List.setIfInBounds_toArray, List.set_cons_zero, List.set_cons_succ]
            refine takeL [7] (i := 1) (d := 76) (oi := _) (v := ?_) rfl rfl (by kernel_rfl) (by kernel_rfl) (by kernel_rfl) (by kernel_rfl) (by kernel_rfl) (fun _ _ _ h => h) (Or.inl ⟨by rfl, ?_⟩) (by assumption) ?_
            rotate_left
            · intro wz hSw; (try dsimp only at hSw); go_simp; (try with_reducible rfl)
            try simp only [Act.put, List.setIfInBounds_toArray, List.set_cons_zero, List.set_cons_succ]
            refine takeL [7] (i := 2) (d := 77) (oi := _) (v := ?_) rfl rfl (by kernel_rfl) (by kernel_rfl) (by kernel_rfl) (by kernel_rfl) (by kernel_rfl) (fun _ _ _ h => h) (Or.inl ⟨by rfl, ?_⟩) (by assumption) ?_
            rotate_left
            · intro wz hSw; (try dsimp only at hSw); go_simp; (try with_reducible rfl)
            try simp only [Act.put, List.setIfInBounds_toArray, List.set_cons_zero, List.set_cons_succ]
            refine takeL [7] (i := 3) (d := 78) (oi := _) (v := ?_) rfl rfl (by kernel_rfl) (by kernel_rfl) (by kernel_rfl) (by kernel_rfl) (by kernel_rfl) (fun _ _ _ h => h) (Or.inl ⟨by rfl, ?_⟩) (by assumption) ?_
            rotate_left
            · intro wz hSw; (try dsimp only at hSw); go_simp; (try with_reducible rfl)
            try simp only [Act.put, List.setIfInBounds_toArray, List.set_cons_zero, List.set_cons_succ]
            refine takeL [7] (i := 4) (d := 79) (oi := _) (v := ?_) rfl rfl (by kernel_rfl) (by kernel_rfl) (by kernel_rfl) (by kernel_rfl) (by kernel_rfl) (fun _ _ _ h => h) (Or.inl ⟨by rfl, ?_⟩) (by assumption) ?_
            rotate_left
            · intro wz hSw; (try dsimp only at hSw); go_simp; (try with_reducible rfl)
            try simp only [Act.put, List.setIfInBounds_toArray, List.set_cons_zero, List.set_cons_succ]
            refine takeL [7] (i := 5) (d := 80) (oi := _) (v := ?_) rfl rfl (by kernel_rfl) (by kernel_rfl) (by kernel_rfl) (by kernel_rfl) (by kernel_rfl) (fun _ _ _ h => h) (Or.inl ⟨by rfl, ?_⟩) (by assumption) ?_
            rotate_left
            · intro wz hSw; (try dsimp only at hSw); go_simp; (try with_reducible rfl)
            try simp only [Act.put, List.setIfInBounds_toArray, List.set_cons_zero, List.set_cons_succ]
            refine nxtL (i := 6) (o := _) (by kernel_rfl) rfl (fun K' hK => ?_)
            go_simp
            refine (samach_any z1 z2 (fun b => b < w11.drew.heap.size) _ _ w11.drew (fun b h => h) VA.out VB.out).mono ?_
            rintro e w12 ⟨rfl, hb⟩
            rw [SAME.out]
            have Q12 := hid (B11.out.trans (((Below.refl w11.heap.size w11).drew.trans hb).mono s11))
            clear hb
            refine hK.out _ _ (Or.inl ⟨(Q12.out.cell (p := ⟨g, 0, none⟩) GL9.out).trans HQ.out.1, (Q12.out.cell (p := ⟨g, 1, none⟩) GL9.out).trans HQ.out.2.1, (Q12.out.cell (p := ⟨g, 2, none⟩) GL9.out).trans HQ.out.2.2.1, (Q12.out.cell (p := ⟨g, 3, none⟩) GL9.out).trans HQ.out.2.2.2⟩) ?_
            clear hK K'
            try simp only [Act.put, List.setIfInBounds_toArray, List.set_cons_zero, List.set_cons_succ]
            refine nxtL (i := 7) (o := _) (by kernel_rfl) rfl (fun K' hK => ?_)
            go_simp
            refine hK.out _ _ (Or.inr (by simp)) ?_
            clear hK K'
            try simp only [Act.put, List.setIfInBounds_toArray, List.set_cons_zero, List.set_cons_succ]
            refine doneL (by kernel_rfl) ?_ _
            clear hHeld
            have EB : (bb == bb) = true := by cases bb <;> rfl
            have B13 := hid (BR.out.trans (Q12.out.mono BR.out.size))
            go_wp2_with fail
            go_ret
            exact ⟨rfl, B13.out⟩
      · have hne' : ¬ (nm : Int) = (nl : Int) := by omega
        clear hne
        have Q2 := hid ((Below.refl w2.heap.size w2).drew)
        refine wp_region_l (S := (fun w' => w'.cell? ⟨b1, 0, none⟩ = some (.slice (some ⟨d1, f1, none⟩) m.out.length c1) ∧ w'.cell? ⟨b1, 1, none⟩ = some (.slice A2 m.next.length c2) ∧ w'.cell? ⟨b2, 0, none⟩ = some (.slice (some ⟨d3, f3, none⟩) l.out.length c3) ∧ w'.cell? ⟨b2, 1, none⟩ = some (.slice A4 l.next.length c4) ∧ w'.cell? ⟨d1, f1, none⟩ = some (.slice G1 nm k1) ∧ w'.cell? ⟨d3, f3, none⟩ = some (.slice G3 nl k3))) (Ls := []) (by kernel_rfl) ⟨x10, x11, x20, x21, y1, y3⟩ (fun hHeld => ?_)
        refine takeL [] (i := 0) (d := 16) (oi := _) (v := ?_) rfl rfl (by kernel_rfl) (by kernel_rfl) (by kernel_rfl) (by kernel_rfl) (by kernel_rfl) (fun _ _ _ h => h) (Or.inl ⟨by rfl, ?_⟩) (by assumption) ?_
        rotate_left
        · intro wz hSw; (try dsimp only at hSw); go_simp; (try with_reducible rfl)
        try simp only [Act.put, List.setIfInBounds_toArray, List.set_cons_zero, List.set_cons_succ]
        refine nxtL (i := 1) (o := _) (by kernel_rfl) rfl (fun K' hK => ?_)
        go_simp
        refine (check_any m (fun b => b < w2.heap.size) _ w2.drew (fun b h => by have := Q2.out.size; omega) (VM2.out.keep (Same.of_below Q2.out fun b h => h))).mono ?_
        rintro e w3 ⟨he, hb⟩
        rw [H1.out] at he
        subst he
        have Q3 := hid (Q2.out.trans (hb.mono Q2.out.size))
        clear hb hHeld
        have hHeld : (fun w' => w'.cell? ⟨b1, 0, none⟩ = some (.slice (some ⟨d1, f1, none⟩) m.out.length c1) ∧ w'.cell? ⟨b1, 1, none⟩ = some (.slice A2 m.next.length c2) ∧ w'.cell? ⟨b2, 0, none⟩ = some (.slice (some ⟨d3, f3, none⟩) l.out.length c3) ∧ w'.cell? ⟨b2, 1, none⟩ = some (.slice A4 l.next.length c4) ∧ w'.cell? ⟨d1, f1, none⟩ = some (.slice G1 nm k1) ∧ w'.cell? ⟨d3, f3, none⟩ = some (.slice G3 nl k3)) w3 := ⟨(Q3.out.cell (p := ⟨b1, 0, none⟩) L1.out).trans x10, (Q3.out.cell (p := ⟨b1, 1, none⟩) L1.out).trans x11, (Q3.out.cell (p := ⟨b2, 0, none⟩) L2.out).trans x20, (Q3.out.cell (p := ⟨b2, 1, none⟩) L2.out).trans x21, (Q3.out.cell (p := ⟨d1, f1, none⟩) LD1.out).trans y1, (Q3.out.cell (p := ⟨d3, f3, none⟩) LD3.out).trans y3⟩
        refine hK.out _ _ (Or.inl hHeld) ?_
        clear hK K'
        try simp only [Act.put, List.setIfInBounds_toArray, List.set_cons_zero, List.set_cons_succ]
        refine takeL [] (i := 2) (d := 18) (oi := _) (v := ?_) rfl rfl (by kernel_rfl) (by kernel_rfl) (by kernel_rfl) (by kernel_rfl) (by kernel_rfl) (fun _ _ _ h => h) (Or.inl ⟨by rfl, ?_⟩) (by assumption) ?_
        rotate_left
        · intro wz hSw; (try dsimp only at hSw); go_simp; (try with_reducible rfl)
        try simp only [Act.put, List.setIfInBounds_toArray, List.set_cons_zero, List.set_cons_succ]
        refine takeL [] (i := 3) (d := 19) (oi := _) (v := ?_) rfl rfl (by kernel_rfl) (by kernel_rfl) (by kernel_rfl) (by kernel_rfl) (by kernel_rfl) (fun _ _ _ h => h) (Or.inl ⟨by rfl, ?_⟩) (by assumption) ?_
        rotate_left
        · intro wz hSw; (try dsimp only at hSw); go_simp; (try with_reducible rfl)
        try simp only [Act.put, List.setIfInBounds_toArray, List.set_cons_zero, List.set_cons_succ]
        refine takeL [] (i := 4) (d := 20) (oi := _) (v := ?_) rfl rfl (by kernel_rfl) (by kernel_rfl) (by kernel_rfl) (by kernel_rfl) (by kernel_rfl) (fun _ _ _ h => h) (Or.inl ⟨by rfl, ?_⟩) (by assumption) ?_
        rotate_left
        · intro wz hSw; (try dsimp only at hSw); go_simp; (try with_reducible rfl)
        try simp only [Act.put, List.setIfInBounds_toArray, List.set_cons_zero, List.set_cons_succ]
        refine nxtL (i := 5) (o := _) (by kernel_rfl) rfl (fun K' hK => ?_)
        go_simp
        refine (check_any l (fun b => b < w2.heap.size) _ w3 (fun b h => by have := Q3.out.size; omega) (VL2.out.keep (Same.of_below Q3.out fun b h => h))).mono ?_
        rintro e w4 ⟨he, hb⟩
        rw [H2.out] at he
        subst he
        have Q4 := hid (Q3.out.trans (hb.mono Q3.out.size))
        clear hb hHeld
        have hHeld : (fun w' => w'.cell? ⟨b1, 0, none⟩ = some (.slice (some ⟨d1, f1, none⟩) m.out.length c1) ∧ w'.cell? ⟨b1, 1, none⟩ = some (.slice A2 m.next.length c2) ∧ w'.cell? ⟨b2, 0, none⟩ = some (.slice (some ⟨d3, f3, none⟩) l.out.length c3) ∧ w'.cell? ⟨b2, 1, none⟩ = some (.slice A4 l.next.length c4) ∧ w'.cell? ⟨d1, f1, none⟩ = some (.slice G1 nm k1) ∧ w'.cell? ⟨d3, f3, none⟩ = some (.slice G3 nl k3)) w4 := ⟨(Q4.out.cell (p := ⟨b1, 0, none⟩) L1.out).trans x10, (Q4.out.cell (p := ⟨b1, 1, none⟩) L1.out).trans x11, (Q4.out.cell (p := ⟨b2, 0, none⟩) L2.out).trans x20, (Q4.out.cell (p := ⟨b2, 1, none⟩) L2.out).trans x21, (Q4.out.cell (p := ⟨d1, f1, none⟩) LD1.out).trans y1, (Q4.out.cell (p := ⟨d3, f3, none⟩) LD3.out).trans y3⟩
        refine hK.out _ _ (Or.inl hHeld) ?_
        clear hK K'
        try simp only [Act.put, List.setIfInBounds_toArray, List.set_cons_zero, List.set_cons_succ]
        refine takeL [] (i := 6) (d := 22) (oi := _) (v := ?_) rfl rfl (by kernel_rfl) (by kernel_rfl) (by kernel_rfl) (by kernel_rfl) (by kernel_rfl) (fun _ _ _ h => h) (Or.inl ⟨by rfl, ?_⟩) (by assumption) ?_
        rotate_left
        · intro wz hSw; (try dsimp only at hSw); go_simp; (try with_reducible rfl)
        try simp only [Act.put, List.setIfInBounds_toArray, List.set_cons_zero, List.set_cons_succ]
        refine takeL [] (i := 7) (d := 23) (oi := _) (v := ?_) rfl rfl (by kernel_rfl) (by kernel_rfl) (by kernel_rfl) (by kernel_rfl) (by kernel_rfl) (fun _ _ _ h => h) (Or.inl ⟨by rfl, ?_⟩) (by assumption) ?_
        rotate_left
        · intro wz hSw; (try dsimp only at hSw); go_simp; (try with_reducible rfl)
        try simp only [Act.put, List.setIfInBounds_toArray, List.set_cons_zero, List.set_cons_succ]
        refine takeL [] (i := 8) (d := 24) (oi := _) (v := ?_) rfl rfl (by kernel_rfl) (by kernel_rfl) (by kernel_rfl) (by kernel_rfl) (by kernel_rfl) (fun _ _ _ h => h) (Or.inl ⟨by rfl, ?_⟩) (by assumption) ?_
        rotate_left
        · intro wz hSw; (try dsimp only at hSw); go_simp; (try with_reducible rfl)
        try simp only [Act.put, List.setIfInBounds_toArray, List.set_cons_zero, List.set_cons_succ]
        refine takeL [] (i := 9) (d := 25) (oi := _) (v := ?_) rfl rfl (by kernel_rfl) (by kernel_rfl) (by kernel_rfl) (by kernel_rfl) (by kernel_rfl) (fun _ _ _ h => h) (Or.inl ⟨by rfl, ?_⟩) (by assumption) ?_
        rotate_left
        · intro wz hSw; (try dsimp only at hSw); go_simp; (try with_reducible rfl)
        try simp only [Act.put, List.setIfInBounds_toArray, List.set_cons_zero, List.set_cons_succ]
        refine takeL [] (i := 10) (d := 26) (oi := _) (v := ?_) rfl rfl (by kernel_rfl) (by kernel_rfl) (by kernel_rfl) (by kernel_rfl) (by kernel_rfl) (fun _ _ _ h => h) (Or.inl ⟨by rfl, ?_⟩) (by assumption) ?_
        rotate_left
        · intro wz hSw; (try dsimp only at hSw); go_simp; (try with_reducible rfl)
        try simp only [Act.put, List.setIfInBounds_toArray, List.set_cons_zero, List.set_cons_succ]
        refine takeL [] (i := 11) (d := 27) (oi := _) (v := ?_) rfl rfl (by kernel_rfl) (by kernel_rfl) (by kernel_rfl) (by kernel_rfl) (by kernel_rfl) (fun _ _ _ h => h) (Or.inl ⟨by rfl, ?_⟩) (by assumption) ?_
        rotate_left
        · intro wz hSw; (try dsimp only at hSw); go_simp; (try with_reducible rfl)
        try simp only [Act.put, List.setIfInBounds_toArray, List.set_cons_zero, List.set_cons_succ]
        refine takeL [] (i := 12) (d := 28) (oi := _) (v := ?_) rfl rfl (by kernel_rfl) (by kernel_rfl) (by kernel_rfl) (by kernel_rfl) (by kernel_rfl) (fun _ _ _ h => h) (Or.inl ⟨by rfl, ?_⟩) (by assumption) ?_
        rotate_left
        · intro wz hSw; (try dsimp only at hSw); go_simp; (try with_reducible rfl)
        try simp only [Act.put, List.setIfInBounds_toArray, List.set_cons_zero, List.set_cons_succ]
        refine takeL [] (i := 13) (d := 29) (oi := _) (v := ?_) rfl rfl (by kernel_rfl) (by kernel_rfl) (by kernel_rfl) (by kernel_rfl) (by kernel_rfl) (fun _ _ _ h => h) (Or.inl ⟨by rfl, ?_⟩) (by assumption) ?_
        rotate_left
        · intro wz hSw; (try dsimp only at hSw); go_simp; (try with_reducible rfl)
        try simp only [Act.put, List.setIfInBounds_toArray, List.set_cons_zero, List.set_cons_succ]
        refine takeL [] (i := 14) (d := 30) (oi := _) (v := ?_) rfl rfl (by kernel_rfl) (by kernel_rfl) (by kernel_rfl) (by kernel_rfl) (by kernel_rfl) (fun _ _ _ h => h) (Or.inl ⟨by rfl, ?_⟩) (by assumption) ?_
        rotate_left
        · intro wz hSw; (try dsimp only at hSw); go_simp; (try with_reducible rfl)
        try simp only [Act.put, List.setIfInBounds_toArray, List.set_cons_zero, List.set_cons_succ]
        refine takeL [] (i := 15) (d := 31) (oi := _) (v := ?_) rfl rfl (by kernel_rfl) (by kernel_rfl) (by kernel_rfl) (by kernel_rfl) (by kernel_rfl) (fun _ _ _ h => h) (Or.inl ⟨by rfl, ?_⟩) (by assumption) ?_
        rotate_left
        · intro wz hSw; (try dsimp only at hSw); go_simp; (try with_reducible rfl)
        try simp only [Act.put, List.setIfInBounds_toArray, List.set_cons_zero, List.set_cons_succ]
        refine takeL [] (i := 16) (d := 32) (oi := _) (v := ?_) rfl rfl (by kernel_rfl) (by kernel_rfl) (by kernel_rfl) (by kernel_rfl) (by kernel_rfl) (fun _ _ _ h => h) (Or.inl ⟨by rfl, ?_⟩) (by assumption) ?_
        rotate_left
        · intro wz hSw; (try dsimp only at hSw); go_simp; (try with_reducible rfl)
        try simp only [Act.put, List.setIfInBounds_toArray, List.set_cons_zero, List.set_cons_succ]
        refine takeL [] (i := 17) (d := 33) (oi := _) (v := ?_) rfl rfl (by kernel_rfl) (by kernel_rfl) (by kernel_rfl) (by kernel_rfl) (by kernel_rfl) (fun _ _ _ h => h) (Or.inl ⟨by rfl, ?_⟩) (by assumption) ?_
        rotate_left
        · intro wz hSw; (try dsimp only at hSw); go_simp; (try with_reducible rfl)
        try simp only [Act.put, List.setIfInBounds_toArray, List.set_cons_zero, List.set_cons_succ]
        refine takeL [] (i := 18) (d := 34) (oi := _) (v := ?_) rfl rfl (by kernel_rfl) (by kernel_rfl) (by kernel_rfl) (by kernel_rfl) (by kernel_rfl) (fun _ _ _ h => h) (Or.inl ⟨by rfl, ?_⟩) (by assumption) ?_
        rotate_left
        · intro wz hSw; (try dsimp only at hSw); go_simp; (try with_reducible rfl)
        try simp only [Act.put, List.setIfInBounds_toArray, List.set_cons_zero, List.set_cons_succ]
        refine takeL [] (i := 19) (d := 35) (oi := _) (v := ?_) rfl rfl (by kernel_rfl) (by kernel_rfl) (by kernel_rfl) (by kernel_rfl) (by kernel_rfl) (fun _ _ _ h => h) (Or.inl ⟨by rfl, ?_⟩) (by assumption) ?_
        rotate_left
        · intro wz hSw; (try dsimp only at hSw); go_simp; (try with_reducible rfl)
        try simp only [Act.put, List.setIfInBounds_toArray, List.set_cons_zero, List.set_cons_succ]
        refine takeL [] (i := 20) (d := 36) (oi := _) (v := ?_) rfl rfl (by kernel_rfl) (by kernel_rfl) (by kernel_rfl) (by kernel_rfl) (by kernel_rfl) (fun _ _ _ h => h) (Or.inl ⟨by rfl, ?_⟩) (by assumption) ?_
        rotate_left
        · intro wz hSw; (try dsimp only at hSw); go_simp; (try with_reducible rfl)
        try simp only [Act.put, List.setIfInBounds_toArray, List.set_cons_zero, List.set_cons_succ]
        refine doneL (by kernel_rfl) ?_ _
        clear hHeld
        have B3 := hid (B2.out.trans (Q4.out.mono S9.out))
        go_wp2_with fail
        refine (lit_any _).mono ?_
        rintro e w5 ⟨rfl, hb⟩
        have B5 := hid (B3.out.trans (hb.mono B3.out.size))
        clear hb
        go_wp2_with fail
        go_ret
        exact ⟨rfl, B5.out⟩
    · have H2 := hid (errV_no h2)
      clear h1 h2
      have Q2 := hid ((Below.refl w2.heap.size w2).drew)
      refine wp_region_l (S := (fun w' => w'.cell? ⟨b1, 0, none⟩ = some (.slice A1 m.out.length c1) ∧ w'.cell? ⟨b1, 1, none⟩ = some (.slice A2 m.next.length c2) ∧ w'.cell? ⟨b2, 0, none⟩ = some (.slice A3 l.out.length c3) ∧ w'.cell? ⟨b2, 1, none⟩ = some (.slice A4 l.next.length c4))) (Ls := []) (by kernel_rfl) ⟨x10, x11, x20, x21⟩ (fun hHeld => ?_)
      refine takeL [] (i := 0) (d := 16) (oi := _) (v := ?_) rfl rfl (by kernel_rfl) (by kernel_rfl) (by kernel_rfl) (by kernel_rfl) (by kernel_rfl) (fun _ _ _ h => h) (Or.inl ⟨by rfl, ?_⟩) (by assumption) ?_
      rotate_left
      · intro wz hSw; (try dsimp only at hSw); go_simp; (try with_reducible rfl)
      try simp only [Act.put, List.setIfInBounds_toArray, List.set_cons_zero, List.set_cons_succ]
      refine nxtL (i := 1) (o := _) (by kernel_rfl) rfl (fun K' hK => ?_)
      go_simp
      refine (check_any m (fun b => b < w2.heap.size) _ w2.drew (fun b h => by have := Q2.out.size; omega) (VM2.out.keep (Same.of_below Q2.out fun b h => h))).mono ?_
      rintro e w3 ⟨he, hb⟩
      rw [H1.out] at he
      subst he
      have Q3 := hid (Q2.out.trans (hb.mono Q2.out.size))
      clear hb hHeld
      have hHeld : (fun w' => w'.cell? ⟨b1, 0, none⟩ = some (.slice A1 m.out.length c1) ∧ w'.cell? ⟨b1, 1, none⟩ = some (.slice A2 m.next.length c2) ∧ w'.cell? ⟨b2, 0, none⟩ = some (.slice A3 l.out.length c3) ∧ w'.cell? ⟨b2, 1, none⟩ = some (.slice A4 l.next.length c4)) w3 := ⟨(Q3.out.cell (p := ⟨b1, 0, none⟩) L1.out).trans x10, (Q3.out.cell (p := ⟨b1, 1, none⟩) L1.out).trans x11, (Q3.out.cell (p := ⟨b2, 0, none⟩) L2.out).trans x20, (Q3.out.cell (p := ⟨b2, 1, none⟩) L2.out).trans x21⟩
      refine hK.out _ _ (Or.inl hHeld) ?_
      clear hK K'
      try simp only [Act.put, List.setIfInBounds_toArray, List.set_cons_zero, List.set_cons_succ]
      refine takeL [] (i := 2) (d := 18) (oi := _) (v := ?_) rfl rfl (by kernel_rfl) (by kernel_rfl) (by kernel_rfl) (by kernel_rfl) (by kernel_rfl) (fun _ _ _ h => h) (Or.inl ⟨by rfl, ?_⟩) (by assumption) ?_
      rotate_left
      · intro wz hSw; (try dsimp only at hSw); go_simp; (try with_reducible rfl)
      try simp only [Act.put, List.setIfInBounds_toArray, List.set_cons_zero, List.set_cons_succ]
      refine takeL [] (i := 3) (d := 19) (oi := _) (v := ?_) rfl rfl (by kernel_rfl) (by kernel_rfl) (by kernel_rfl) (by kernel_rfl) (by kernel_rfl) (fun _ _ _ h => h) (Or.inl ⟨by rfl, ?_⟩) (by assumption) ?_
      rotate_left
      · intro wz hSw; (try dsimp only at hSw); go_simp; (try with_reducible rfl)
      try simp only [Act.put, List.setIfInBounds_toArray, List.set_cons_zero, List.set_cons_succ]
      refine takeL [] (i := 4) (d := 20) (oi := _) (v := ?_) rfl rfl (by kernel_rfl) (by kernel_rfl) (by kernel_rfl) (by kernel_rfl) (by kernel_rfl) (fun _ _ _ h => h) (Or.inl ⟨by rfl, ?_⟩) (by assumption) ?_
      rotate_left
      · intro wz hSw; (try dsimp only at hSw); go_simp; (try with_reducible rfl)
      try simp only [Act.put, List.setIfInBounds_toArray, List.set_cons_zero, List.set_cons_succ]
      refine nxtL (i := 5) (o := _) (by kernel_rfl) rfl (fun K' hK => ?_)
      go_simp
      refine (check_any l (fun b => b < w2.heap.size) _ w3 (fun b h => by have := Q3.out.size; omega) (VL2.out.keep (Same.of_below Q3.out fun b h => h))).mono ?_
      rintro e w4 ⟨he, hb⟩
      rw [H2.out] at he
      subst he
      have Q4 := hid (Q3.out.trans (hb.mono Q3.out.size))
      clear hb hHeld
      have hHeld : (fun w' => w'.cell? ⟨b1, 0, none⟩ = some (.slice A1 m.out.length c1) ∧ w'.cell? ⟨b1, 1, none⟩ = some (.slice A2 m.next.length c2) ∧ w'.cell? ⟨b2, 0, none⟩ = some (.slice A3 l.out.length c3) ∧ w'.cell? ⟨b2, 1, none⟩ = some (.slice A4 l.next.length c4)) w4 := ⟨(Q4.out.cell (p := ⟨b1, 0, none⟩) L1.out).trans x10, (Q4.out.cell (p := ⟨b1, 1, none⟩) L1.out).trans x11, (Q4.out.cell (p := ⟨b2, 0, none⟩) L2.out).trans x20, (Q4.out.cell (p := ⟨b2, 1, none⟩) L2.out).trans x21⟩
      refine hK.out _ _ (Or.inl hHeld) ?_
      clear hK K'
      try simp only [Act.put, List.setIfInBounds_toArray, List.set_cons_zero, List.set_cons_succ]
      refine takeL [] (i := 6) (d := 22) (oi := _) (v := ?_) rfl rfl (by kernel_rfl) (by kernel_rfl) (by kernel_rfl) (by kernel_rfl) (by kernel_rfl) (fun _ _ _ h => h) (Or.inl ⟨by rfl, ?_⟩) (by assumption) ?_
      rotate_left
      · intro wz hSw; (try dsimp only at hSw); go_simp; (try with_reducible rfl)
      try simp only [Act.put, List.setIfInBounds_toArray, List.set_cons_zero, List.set_cons_succ]
      refine takeL [] (i := 7) (d := 23) (oi := _) (v := ?_) rfl rfl (by kernel_rfl) (by kernel_rfl) (by kernel_rfl) (by kernel_rfl) (by kernel_rfl) (fun _ _ _ h => h) (Or.inl ⟨by rfl, ?_⟩) (by assumption) ?_
      rotate_left
      · intro wz hSw; (try dsimp only at hSw); go_simp; (try with_reducible rfl)
      try simp only [Act.put, List.setIfInBounds_toArray, List.set_cons_zero, List.set_cons_succ]
      refine takeL [] (i := 8) (d := 24) (oi := _) (v := ?_) rfl rfl (by kernel_rfl) (by kernel_rfl) (by kernel_rfl) (by kernel_rfl) (by kernel_rfl) (fun _ _ _ h => h) (Or.inl ⟨by rfl, ?_⟩) (by assumption) ?_
      rotate_left
      · intro wz hSw; (try dsimp only at hSw); go_simp; (try with_reducible rfl)
      try simp only [Act.put, List.setIfInBounds_toArray, List.set_cons_zero, List.set_cons_succ]
      refine takeL [] (i := 9) (d := 25) (oi := _) (v := undef) rfl rfl (by kernel_rfl) (by kernel_rfl) (by kernel_rfl) (by kernel_rfl) (by kernel_rfl) (fun _ _ _ h => h) (Or.inr ⟨by rfl, rfl⟩) (by assumption) ?_
      try simp only [Act.put, List.setIfInBounds_toArray, List.set_cons_zero, List.set_cons_succ]
      refine takeL [] (i := 10) (d := 26) (oi := _) (v := undef) rfl rfl (by kernel_rfl) (by kernel_rfl) (by kernel_rfl) (by kernel_rfl) (by kernel_rfl) (fun _ _ _ h => h) (Or.inr ⟨by rfl, rfl⟩) (by assumption) ?_
      try simp only [Act.put, List.setIfInBounds_toArray, List.set_cons_zero, List.set_cons_succ]
      refine takeL [] (i := 11) (d := 27) (oi := _) (v := undef) rfl rfl (by kernel_rfl) (by kernel_rfl) (by kernel_rfl) (by kernel_rfl) (by kernel_rfl) (fun _ _ _ h => h) (Or.inr ⟨by rfl, rfl⟩) (by assumption) ?_
      try simp only [Act.put, List.setIfInBounds_toArray, List.set_cons_zero, List.set_cons_succ]
      refine takeL [] (i := 12) (d := 28) (oi := _) (v := undef) rfl rfl (by kernel_rfl) (by kernel_rfl) (by kernel_rfl) (by kernel_rfl) (by kernel_rfl) (fun _ _ _ h => h) (Or.inr ⟨by rfl, rfl⟩) (by assumption) ?_
      try simp only [Act.put, List.setIfInBounds_toArray, List.set_cons_zero, List.set_cons_succ]
      refine takeL [] (i := 13) (d := 29) (oi := _) (v := undef) rfl rfl (by kernel_rfl) (by kernel_rfl) (by kernel_rfl) (by kernel_rfl) (by kernel_rfl) (fun _ _ _ h => h) (Or.inr ⟨by rfl, rfl⟩) (by assumption) ?_
      try simp only [Act.put, List.setIfInBounds_toArray, List.set_cons_zero, List.set_cons_succ]
      refine takeL [] (i := 14) (d := 30) (oi := _) (v := undef) rfl rfl (by kernel_rfl) (by kernel_rfl) (by kernel_rfl) (by kernel_rfl) (by kernel_rfl) (fun _ _ _ h => h) (Or.inr ⟨by rfl, rfl⟩) (by assumption) ?_
      try simp only [Act.put, List.setIfInBounds_toArray, List.set_cons_zero, List.set_cons_succ]
      refine takeL [] (i := 15) (d := 31) (oi := _) (v := undef) rfl rfl (by kernel_rfl) (by kernel_rfl) (by kernel_rfl) (by kernel_rfl) (by kernel_rfl) (fun _ _ _ h => h) (Or.inr ⟨by rfl, rfl⟩) (by assumption) ?_
      try simp only [Act.put, List.setIfInBounds_toArray, List.set_cons_zero, List.set_cons_succ]
      refine takeL [] (i := 16) (d := 32) (oi := _) (v := undef) rfl rfl (by kernel_rfl) (by kernel_rfl) (by kernel_rfl) (by kernel_rfl) (by kernel_rfl) (fun _ _ _ h => h) (Or.inr ⟨by rfl, rfl⟩) (by assumption) ?_
      try simp only [Act.put, List.setIfInBounds_toArray, List.set_cons_zero, List.set_cons_succ]
      refine takeL [] (i := 17) (d := 33) (oi := _) (v := undef) rfl rfl (by kernel_rfl) (by kernel_rfl) (by kernel_rfl) (by kernel_rfl) (by kernel_rfl) (fun _ _ _ h => h) (Or.inr ⟨by rfl, rfl⟩) (by assumption) ?_
      try simp only [Act.put, List.setIfInBounds_toArray, List.set_cons_zero, List.set_cons_succ]
      refine takeL [] (i := 18) (d := 34) (oi := _) (v := undef) rfl rfl (by kernel_rfl) (by kernel_rfl) (by kernel_rfl) (by kernel_rfl) (by kernel_rfl) (fun _ _ _ h => h) (Or.inr ⟨by rfl, rfl⟩) (by assumption) ?_
      try simp only [Act.put, List.setIfInBounds_toArray, List.set_cons_zero, List.set_cons_succ]
      refine takeL [] (i := 19) (d := 35) (oi := _) (v := undef) rfl rfl (by kernel_rfl) (by kernel_rfl) (by kernel_rfl) (by kernel_rfl) (by kernel_rfl) (fun _ _ _ h => h) (Or.inr ⟨by rfl, rfl⟩) (by assumption) ?_
      try simp only [Act.put, List.setIfInBounds_toArray, List.set_cons_zero, List.set_cons_succ]
      refine takeL [] (i := 20) (d := 36) (oi := _) (v := ?_) rfl rfl (by kernel_rfl) (by kernel_rfl) (by kernel_rfl) (by kernel_rfl) (by kernel_rfl) (fun _ _ _ h => h) (Or.inl ⟨by rfl, ?_⟩) (by assumption) ?_
      rotate_left
      · intro wz hSw; (try dsimp only at hSw); go_simp; (try with_reducible rfl)
      try simp only [Act.put, List.setIfInBounds_toArray, List.set_cons_zero, List.set_cons_succ]
      refine doneL (by kernel_rfl) ?_ _
      clear hHeld
      have B3 := hid (B2.out.trans (Q4.out.mono S9.out))
      go_wp2_with fail
      refine (lit_any _).mono ?_
      rintro e w5 ⟨rfl, hb⟩
      have B5 := hid (B3.out.trans (hb.mono B3.out.size))
      clear hb
      go_wp2_with fail
      go_ret
      exact ⟨rfl, B5.out⟩
  · have H1 := hid (errV_no h1)
    clear h1
    have Q2 := hid ((Below.refl w2.heap.size w2).drew)
    refine wp_region_l (S := (fun w' => w'.cell? ⟨b1, 0, none⟩ = some (.slice A1 m.out.length c1) ∧ w'.cell? ⟨b1, 1, none⟩ = some (.slice A2 m.next.length c2) ∧ w'.cell? ⟨b2, 0, none⟩ = some (.slice A3 l.out.length c3) ∧ w'.cell? ⟨b2, 1, none⟩ = some (.slice A4 l.next.length c4))) (Ls := []) (by kernel_rfl) ⟨x10, x11, x20, x21⟩ (fun hHeld => ?_)
    refine takeL [] (i := 0) (d := 16) (oi := _) (v := ?_) rfl rfl (by kernel_rfl) (by kernel_rfl) (by kernel_rfl) (by kernel_rfl) (by kernel_rfl) (fun _ _ _ h => h) (Or.inl ⟨by rfl, ?_⟩) (by assumption) ?_
    rotate_left
    · intro wz hSw; (try dsimp only at hSw); go_simp; (try with_reducible rfl)
    try simp only [Act.put, List.setIfInBounds_toArray, List.set_cons_zero, List.set_cons_succ]
    refine nxtL (i := 1) (o := _) (by kernel_rfl) rfl (fun K' hK => ?_)
    go_simp
    refine (check_any m (fun b => b < w2.heap.size) _ w2.drew (fun b h => by have := Q2.out.size; omega) (VM2.out.keep (Same.of_below Q2.out fun b h => h))).mono ?_
    rintro e w3 ⟨he, hb⟩
    rw [H1.out] at he
    subst he
    have Q3 := hid (Q2.out.trans (hb.mono Q2.out.size))
    clear hb hHeld
    have hHeld : (fun w' => w'.cell? ⟨b1, 0, none⟩ = some (.slice A1 m.out.length c1) ∧ w'.cell? ⟨b1, 1, none⟩ = some (.slice A2 m.next.length c2) ∧ w'.cell? ⟨b2, 0, none⟩ = some (.slice A3 l.out.length c3) ∧ w'.cell? ⟨b2, 1, none⟩ = some (.slice A4 l.next.length c4)) w3 := ⟨(Q3.out.cell (p := ⟨b1, 0, none⟩) L1.out).trans x10, (Q3.out.cell (p := ⟨b1, 1, none⟩) L1.out).trans x11, (Q3.out.cell (p := ⟨b2, 0, none⟩) L2.out).trans x20, (Q3.out.cell (p := ⟨b2, 1, none⟩) L2.out).trans x21⟩
    refine hK.out _ _ (Or.inl hHeld) ?_
    clear hK K'
    try simp only [Act.put, List.setIfInBounds_toArray, List.set_cons_zero, List.set_cons_succ]
    refine takeL [] (i := 2) (d := 18) (oi := _) (v := ?_) rfl rfl (by kernel_rfl) (by kernel_rfl) (by kernel_rfl) (by kernel_rfl) (by kernel_rfl) (fun _ _ _ h => h) (Or.inl ⟨by rfl, ?_⟩) (by assumption) ?_
    rotate_left
    · intro wz hSw; (try dsimp only at hSw); go_simp; (try with_reducible rfl)
    try simp only [Act.put, List.setIfInBounds_toArray, List.set_cons_zero, List.set_cons_succ]
    refine takeL [] (i := 3) (d := 19) (oi := _) (v := ?_) rfl rfl (by kernel_rfl) (by kernel_rfl) (by kernel_rfl) (by kernel_rfl) (by kernel_rfl) (fun _ _ _ h => h) (Or.inl ⟨by rfl, ?_⟩) (by assumption) ?_
    rotate_left
    · intro wz hSw; (try dsimp only at hSw); go_simp; (try with_reducible rfl)
    try simp only [Act.put, List.setIfInBounds_toArray, List.set_cons_zero, List.set_cons_succ]
    refine takeL [] (i := 4) (d := 20) (oi := _) (v := undef) rfl rfl (by kernel_rfl) (by kernel_rfl) (by kernel_rfl) (by kernel_rfl) (by kernel_rfl) (fun _ _ _ h => h) (Or.inr ⟨by rfl, rfl⟩) (by assumption) ?_
    try simp only [Act.put, List.setIfInBounds_toArray, List.set_cons_zero, List.set_cons_succ]
    refine takeL [] (i := 5) (d := 21) (oi := _) (v := undef) rfl rfl (by kernel_rfl) (by kernel_rfl) (by kernel_rfl) (by kernel_rfl) (by kernel_rfl) (fun _ _ _ h => h) (Or.inr ⟨by rfl, rfl⟩) (by assumption) ?_
    try simp only [Act.put, List.setIfInBounds_toArray, List.set_cons_zero, List.set_cons_succ]
    refine takeL [] (i := 6) (d := 22) (oi := _) (v := undef) rfl rfl (by kernel_rfl) (by kernel_rfl) (by kernel_rfl) (by kernel_rfl) (by kernel_rfl) (fun _ _ _ h => h) (Or.inr ⟨by rfl, rfl⟩) (by assumption) ?_
    try simp only [Act.put, List.setIfInBounds_toArray, List.set_cons_zero, List.set_cons_succ]
    refine takeL [] (i := 7) (d := 23) (oi := _) (v := ?_) rfl rfl (by kernel_rfl) (by kernel_rfl) (by kernel_rfl) (by kernel_rfl) (by kernel_rfl) (fun _ _ _ h => h) (Or.inl ⟨by rfl, ?_⟩) (by assumption) ?_
    rotate_left
    · intro wz hSw; (try dsimp only at hSw); go_simp; (try with_reducible rfl)
    try simp only [Act.put, List.setIfInBounds_toArray, List.set_cons_zero, List.set_cons_succ]
    refine takeL [] (i := 8) (d := 24) (oi := _) (v := ?_) rfl rfl (by kernel_rfl) (by kernel_rfl) (by kernel_rfl) (by kernel_rfl) (by kernel_rfl) (fun _ _ _ h => h) (Or.inl ⟨by rfl, ?_⟩) (by assumption) ?_
    rotate_left
    · intro wz hSw; (try dsimp only at hSw); go_simp; (try with_reducible rfl)
    try simp only [Act.put, List.setIfInBounds_toArray, List.set_cons_zero, List.set_cons_succ]
    refine takeL [] (i := 9) (d := 25) (oi := _) (v := undef) rfl rfl (by kernel_rfl) (by kernel_rfl) (by kernel_rfl) (by kernel_rfl) (by kernel_rfl) (fun _ _ _ h => h) (Or.inr ⟨by rfl, rfl⟩) (by assumption) ?_
    try simp only [Act.put, List.setIfInBounds_toArray, List.set_cons_zero, List.set_cons_succ]
    refine takeL [] (i := 10) (d := 26) (oi := _) (v := undef) rfl rfl (by kernel_rfl) (by kernel_rfl) (by kernel_rfl) (by kernel_rfl) (by kernel_rfl) (fun _ _ _ h => h) (Or.inr ⟨by rfl, rfl⟩) (by assumption) ?_
    try simp only [Act.put, List.setIfInBounds_toArray, List.set_cons_zero, List.set_cons_succ]
    refine takeL [] (i := 11) (d := 27) (oi := _) (v := undef) rfl rfl (by kernel_rfl) (by kernel_rfl) (by kernel_rfl) (by kernel_rfl) (by kernel_rfl) (fun _ _ _ h => h) (Or.inr ⟨by rfl, rfl⟩) (by assumption) ?_
    try simp only [Act.put, List.setIfInBounds_toArray, List.set_cons_zero, List.set_cons_succ]
    refine takeL [] (i := 12) (d := 28) (oi := _) (v := undef) rfl rfl (by kernel_rfl) (by kernel_rfl) (by kernel_rfl) (by kernel_rfl) (by kernel_rfl) (fun _ _ _ h => h) (Or.inr ⟨by rfl, rfl⟩) (by assumption) ?_
    try simp only [Act.put, List.setIfInBounds_toArray, List.set_cons_zero, List.set_cons_succ]
    refine takeL [] (i := 13) (d := 29) (oi := _) (v := undef) rfl rfl (by kernel_rfl) (by kernel_rfl) (by kernel_rfl) (by kernel_rfl) (by kernel_rfl) (fun _ _ _ h => h) (Or.inr ⟨by rfl, rfl⟩) (by assumption) ?_
    try simp only [Act.put, List.setIfInBounds_toArray, List.set_cons_zero, List.set_cons_succ]
    refine takeL [] (i := 14) (d := 30) (oi := _) (v := undef) rfl rfl (by kernel_rfl) (by kernel_rfl) (by kernel_rfl) (by kernel_rfl) (by kernel_rfl) (fun _ _ _ h => h) (Or.inr ⟨by rfl, rfl⟩) (by assumption) ?_
    try simp only [Act.put, List.setIfInBounds_toArray, List.set_cons_zero, List.set_cons_succ]
    refine takeL [] (i := 15) (d := 31) (oi := _) (v := undef) rfl rfl (by kernel_rfl) (by kernel_rfl) (by kernel_rfl) (by kernel_rfl) (by kernel_rfl) (fun _ _ _ h => h) (Or.inr ⟨by rfl, rfl⟩) (by assumption) ?_
    try simp only [Act.put, List.setIfInBounds_toArray, List.set_cons_zero, List.set_cons_succ]
    refine takeL [] (i := 16) (d := 32) (oi := _) (v := undef) rfl rfl (by kernel_rfl) (by kernel_rfl) (by kernel_rfl) (by kernel_rfl) (by kernel_rfl) (fun _ _ _ h => h) (Or.inr ⟨by rfl, rfl⟩) (by assumption) ?_
    try simp only [Act.put, List.setIfInBounds_toArray, List.set_cons_zero, List.set_cons_succ]
    refine takeL [] (i := 17) (d := 33) (oi := _) (v := undef) rfl rfl (by kernel_rfl) (by kernel_rfl) (by kernel_rfl) (by kernel_rfl) (by kernel_rfl) (fun _ _ _ h => h) (Or.inr ⟨by rfl, rfl⟩) (by assumption) ?_
    try simp only [Act.put, List.setIfInBounds_toArray, List.set_cons_zero, List.set_cons_succ]
    refine takeL [] (i := 18) (d := 34) (oi := _) (v := undef) rfl rfl (by kernel_rfl) (by kernel_rfl) (by kernel_rfl) (by kernel_rfl) (by kernel_rfl) (fun _ _ _ h => h) (Or.inr ⟨by rfl, rfl⟩) (by assumption) ?_
    try simp only [Act.put, List.setIfInBounds_toArray, List.set_cons_zero, List.set_cons_succ]
    refine takeL [] (i := 19) (d := 35) (oi := _) (v := undef) rfl rfl (by kernel_rfl) (by kernel_rfl) (by kernel_rfl) (by kernel_rfl) (by kernel_rfl) (fun _ _ _ h => h) (Or.inr ⟨by rfl, rfl⟩) (by assumption) ?_
    try simp only [Act.put, List.setIfInBounds_toArray, List.set_cons_zero, List.set_cons_succ]
    refine takeL [] (i := 20) (d := 36) (oi := _) (v := ?_) rfl rfl (by kernel_rfl) (by kernel_rfl) (by kernel_rfl) (by kernel_rfl) (by kernel_rfl) (fun _ _ _ h => h) (Or.inl ⟨by rfl, ?_⟩) (by assumption) ?_
    rotate_left
    · intro wz hSw; (try dsimp only at hSw); go_simp; (try with_reducible rfl)
    try simp only [Act.put, List.setIfInBounds_toArray, List.set_cons_zero, List.set_cons_succ]
    refine doneL (by kernel_rfl) ?_ _
    clear hHeld
    have B3 := hid (B2.out.trans (Q3.out.mono S9.out))
    go_wp2_with fail
    refine (lit_any _).mono ?_
    rintro e w5 ⟨rfl, hb⟩
    have B5 := hid (B3.out.trans (hb.mono B3.out.size))
    clear hb
    go_wp2_with fail
    go_ret
    exact ⟨rfl, B5.out⟩
end Go.Proofs.YtkcggmhllijgcaaDoor
