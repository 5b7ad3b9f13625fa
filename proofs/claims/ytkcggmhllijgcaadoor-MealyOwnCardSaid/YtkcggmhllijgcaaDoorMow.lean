/- The law MealyOwn: it returns true, and all that the call was given reads as before. Conditions: errors.errorType holds its handle; each list takes at most 2^47 bytes. -/
import Derived.Test.YtkcggmhllijgcaaDoorMos
import Derived.Test.YtkcggmhllijgcaaDoorRcq
import Derived.Test.YtkcggmhllijgcaaDoorRmh
import Derived.Test.YtkcggmhllijgcaaDoorAs
import Derived.Test.YtkcggmhllijgcaaDoorSam
import Derived.Test.YtkcggmhllijgcaaDoorHle
import Derived.Test.YtkcggmhllijgcaaDoorTlm
import Derived.Deep.DeepCutAuto
namespace Go.Proofs.YtkcggmhllijgcaaDoor
open Go.RowKit Go.Deep
def LawPost (W : World) (e : Ending) (w' : World) : Prop := e = .returned (.bool true) ∧ Below W.heap.size W w'
def factD : MachD := ⟨[[7]], [[0]]⟩
theorem fact_in {w w4 : World} (h : w4 = (((w.alloc (.cells #[.int .i64 7] 3)).alloc (.cells #[.slice (some ⟨w.heap.size, 0, none⟩) 1 1] 29)).alloc (.cells #[.int .i64 0] 3)).alloc (.cells #[.slice (some ⟨w.heap.size + 1 + 1, 0, none⟩) 1 1] 29)) :
    MachIn (fun b => b < w4.heap.size) w4 (.agg #[.slice (some ⟨w.heap.size + 1, 0, none⟩) 1 1, .slice (some ⟨w.heap.size + 1 + 1 + 1, 0, none⟩) 1 1]) factD := by
  have hs : w4.heap.size = w.heap.size + 4 := by rw [h]; simp
  have h0 : w4.cell? ⟨w.heap.size, 0, none⟩ = some (.int .i64 7) := by
    rw [h]; exact (Has.cell (Has.alloc (Has.alloc (Has.alloc (Has.new w (.cells #[.int .i64 7] 3)) _) _) _) 0).trans rfl
  have h1 : w4.cell? ⟨w.heap.size + 1, 0, none⟩ = some (.slice (some ⟨w.heap.size, 0, none⟩) 1 1) := by
    rw [h]; exact (Has.cell (Has.alloc (Has.alloc (Has.newAt (g := w.heap.size + 1) (w.alloc (.cells #[.int .i64 7] 3)) (.cells #[.slice (some ⟨w.heap.size, 0, none⟩) 1 1] 29) (by simp)) _) _) 0).trans rfl
  have h2 : w4.cell? ⟨w.heap.size + 1 + 1, 0, none⟩ = some (.int .i64 0) := by
    rw [h]; exact (Has.cell (Has.alloc (Has.newAt (g := w.heap.size + 1 + 1) ((w.alloc (.cells #[.int .i64 7] 3)).alloc (.cells #[.slice (some ⟨w.heap.size, 0, none⟩) 1 1] 29)) (.cells #[.int .i64 0] 3) (by simp)) _) 0).trans rfl
  have h3 : w4.cell? ⟨w.heap.size + 1 + 1 + 1, 0, none⟩ = some (.slice (some ⟨w.heap.size + 1 + 1, 0, none⟩) 1 1) := by
    rw [h]; exact (Has.cell (Has.newAt (g := w.heap.size + 1 + 1 + 1) _ (.cells #[.slice (some ⟨w.heap.size + 1 + 1, 0, none⟩) 1 1] 29) (by simp)) 0).trans rfl
  refine ⟨_, _, rfl, ⟨_, 1, rfl, by simp [factD, maxLen], fun _ => ⟨_, 0, rfl, by omega, fun i hi => ?_⟩⟩, ⟨_, 1, rfl, by simp [factD, maxLen], fun _ => ⟨_, 0, rfl, by omega, fun i hi => ?_⟩⟩⟩
  · obtain rfl : i = 0 := by simp [factD] at hi; omega
    exact ⟨_, h1, ints1 (by omega) h0 (by decide)⟩
  · obtain rfl : i = 0 := by simp [factD] at hi; omega
    exact ⟨_, h3, ints1 (by omega) h2 (by decide)⟩
theorem fact_good : Good factD := by
  refine ⟨by decide, by decide, rfl, by decide, by decide, fun i hi => ?_, fun i hi => ?_, fun i hi x hx => ?_⟩
  · obtain rfl : i = 0 := by simp [factD] at hi; omega
    rfl
  · obtain rfl : i = 0 := by simp [factD] at hi; omega
    rfl
  · obtain rfl : i = 0 := by simp [factD] at hi; omega
    obtain rfl : x = 0 := by simp [factD, ins, rowAt] at hx; omega
    decide
theorem fact_run : runFault factD 0 [0] = 0 := by
  unfold runFault
  rw [if_neg (by simp [good_chk fact_good]), if_neg]
  simp [factD, ins, rowAt]
section
variable {P : Program} {md : Region.Mode} {ops : Array Oper} {Q : Exit → Act → World → Prop} {S : World → Prop} {Ls : List Nat}
/-- three operations that may come up -/
theorem branch3 {i j k : Nat} {o p q : Oper} {fuel : Nat} {listed : Array Bool} {a : Act} {w : World} (hr : Region.ready md ops listed = [i, j, k]) (ho : ops[i]? = some o) (hp : ops[j]? = some p) (hq : ops[k]? = some q)
    (h : ∀ K' : Act → World → Prop, Shut (∀ a w, (S w ∨ i ∈ Ls) → wpAnyL P md ops Q S Ls fuel (listed.setIfInBounds i true) a w → K' a w) → if Region.wanted o (yielded ops a.tmps) = true then Oper.wp P o a w K' Q else K' (a.put o.dst undef) w)
    (h2 : ∀ K' : Act → World → Prop, Shut (∀ a w, (S w ∨ j ∈ Ls) → wpAnyL P md ops Q S Ls fuel (listed.setIfInBounds j true) a w → K' a w) → if Region.wanted p (yielded ops a.tmps) = true then Oper.wp P p a w K' Q else K' (a.put p.dst undef) w)
    (h3 : ∀ K' : Act → World → Prop, Shut (∀ a w, (S w ∨ k ∈ Ls) → wpAnyL P md ops Q S Ls fuel (listed.setIfInBounds k true) a w → K' a w) → if Region.wanted q (yielded ops a.tmps) = true then Oper.wp P q a w K' Q else K' (a.put q.dst undef) w) :
    wpAnyL P md ops Q S Ls (fuel + 1) listed a w :=
  ⟨fun h0 => (by rw [h0] at hr; cases hr), fun n hn => by
    rw [hr] at hn
    rcases List.mem_cons.1 hn with rfl | hn
    · exact wpOp_step ho (fun K' hK => h K' (fun a w hS hW => hK a w ⟨hS, hW⟩))
    · rcases List.mem_cons.1 hn with rfl | hn
      · exact wpOp_step hp (fun K' hK => h2 K' (fun a w hS hW => hK a w ⟨hS, hW⟩))
      · obtain rfl : n = k := by simpa using hn
        exact wpOp_step hq (fun K' hK => h3 K' (fun a w hS hW => hK a w ⟨hS, hW⟩))⟩
end
theorem RowOwn.of_mem {F : Nat → Prop} {w : World} {cs : List Value} {ll : List (List Int)} (h : RowOwn F w cs ll) (hl : cs.length = ll.length) {r : Value} (hr : r ∈ cs) : ∃ row ∈ ll, OwnIn F w r row := by
  obtain ⟨i, hi, rfl⟩ := List.getElem_of_mem hr
  obtain ⟨r', h1, h2⟩ := h i (by omega)
  rw [List.getElem?_eq_getElem hi] at h1
  injection h1 with h1
  subst h1
  refine ⟨rowAt ll i, ?_, h2⟩
  unfold rowAt; rw [List.getD_eq_getElem?_getD, List.getElem?_eq_getElem (by omega)]; exact List.getElem_mem _
theorem setR_short (m : MachD) : ∀ x ∈ setR m, x.length ≤ 11 := by
  intro x hx
  unfold setR at hx
  split at hx
  · rename_i h; exact (setL_word (chk_good h) hx).2
  · cases hx
set_option maxRecDepth 100000 in
set_option maxHeartbeats 4000000 in
theorem mealyOwn_walk (m : MachD) (v : Value) (ws : List Int) (u : Value) (x : Int) (W : World) (hL : Laid W) (hv : MachIn (fun b => b < W.heap.size) W v m) (hu : IntsIn .i64 (fun b => b < W.heap.size) W u ws) (hsm : MachSmall m) (hz : ws.length * 8 ≤ 140737488351232) :
    Calls Tryd.prog 6 #[v, u, .int .i64 x] W (LawPost W) := by
  have HL := hid hL
  have HV := hid hv
  have HU := hid hu
  have HSM := hid hsm
  have HZ := hid hz
  obtain ⟨o1, n1, rfl, hr1, hr2⟩ := hv
  have RO := hid hr1
  have RN := hid hr2
  obtain ⟨A1, c1, rfl, -, -⟩ := hr1
  obtain ⟨A2, c2, rfl, -, -⟩ := hr2
  obtain ⟨A3, c3, rfl, -, -, -⟩ := hu
  clear hL hsm hz
  obtain ⟨w1, hw1⟩ : ∃ w1, w1 = W.alloc (.cells #[.slice A1 m.out.length c1, .slice A2 m.next.length c2] 24) := ⟨_, rfl⟩
  obtain ⟨bm, hbm⟩ : ∃ b, b = W.heap.size := ⟨_, rfl⟩
  have S1 : Hid (bm = W.heap.size ∧ w1.heap.size = W.heap.size + 1) := by show _ ∧ _; exact ⟨hbm, by rw [hw1]; simp⟩
  have B1 : Hid (Below W.heap.size W w1) := by show Below _ _ _; rw [hw1]; exact (Below.refl _ _).alloc (Nat.le_refl _) _
  have X1 : Hid (w1.heap[bm]? = some (.cells #[.slice A1 m.out.length c1, .slice A2 m.next.length c2] 24 (0, 0))) := by show _ = _; rw [hw1, hbm]; exact Has.new W _
  have LB := hid (Has.lt X1.out)
  have RO1 := hid ((RO.out.keep (Same.of_below B1.out fun b h => h)).more (F' := fun b => b < w1.heap.size) fun b h => by have := S1.out; omega)
  have RN1 := hid ((RN.out.keep (Same.of_below B1.out fun b h => h)).more (F' := fun b => b < w1.heap.size) fun b h => by have := S1.out; omega)
  have x0 := (Has.cell X1.out 0).trans rfl
  have x1 := (Has.cell X1.out 1).trans rfl
  go_enter Tryd.func6, Tryd.ntmps6
  go_upto_region 1 with fail
  rw [← hw1, ← hbm]
  clear hw1 hbm
  go_cut [7] from 29 to 35 (fun p wx => ∃ (b7 : Nat) (r1 r2 : Value), p = .pointer (some ⟨b7, 0, none⟩) ∧ Hid (w1.heap.size ≤ b7 ∧ wx.heap[b7]? = some (.cells #[r1, r2] 24 (0, 0))) ∧ Hid (MachIn (fun b => w1.heap.size ≤ b ∧ b < wx.heap.size ∧ b ≠ b7) wx (.agg #[r1, r2]) m) ∧ Hid (Below w1.heap.size w1 wx))
  case first => as_aux_lemma =>
    have hd0 : w1.drew.cell? ⟨bm, 0, none⟩ = some (.slice A1 m.out.length c1) := x0
    have hd1 : w1.drew.cell? ⟨bm, 1, none⟩ = some (.slice A2 m.next.length c2) := x1
    have Q2 := hid ((Below.refl w1.heap.size w1).drew)
    refine wp_region_l (S := (fun w' => w'.cell? ⟨bm, 0, none⟩ = some (.slice A1 m.out.length c1) ∧ w'.cell? ⟨bm, 1, none⟩ = some (.slice A2 m.next.length c2))) (Ls := [8]) (by kernel_rfl) ⟨hd0, hd1⟩ (fun hHeld => ?_)
    generalize w1.drew = w2 at *
    refine takeL [8] (i := 0) (d := 29) (oi := _) (v := ?_) rfl rfl (by kernel_rfl) (by kernel_rfl) (by kernel_rfl) (by kernel_rfl) (by kernel_rfl) (fun _ _ _ h => h) (Or.inl ⟨by rfl, ?_⟩) (by assumption) ?_
    rotate_left
    · intro wz hSw; (try dsimp only at hSw); go_simp; (try with_reducible rfl)
    try simp only [Act.put, List.setIfInBounds_toArray, List.set_cons_zero, List.set_cons_succ]
    refine takeL [8] (i := 1) (d := 30) (oi := _) (v := ?_) rfl rfl (by kernel_rfl) (by kernel_rfl) (by kernel_rfl) (by kernel_rfl) (by kernel_rfl) (fun _ _ _ h => h) (Or.inl ⟨by rfl, ?_⟩) (by assumption) ?_
    rotate_left
    · intro wz hSw; (try dsimp only at hSw); go_simp; (try with_reducible rfl)
    try simp only [Act.put, List.setIfInBounds_toArray, List.set_cons_zero, List.set_cons_succ]
    refine takeL [8] (i := 3) (d := 32) (oi := _) (v := ?_) rfl rfl (by kernel_rfl) (by kernel_rfl) (by kernel_rfl) (by kernel_rfl) (by kernel_rfl) (fun _ _ _ h => h) (Or.inl ⟨by rfl, ?_⟩) (by assumption) ?_
    rotate_left
    · intro wz hSw; (try dsimp only at hSw); go_simp; (try with_reducible rfl)
    try simp only [Act.put, List.setIfInBounds_toArray, List.set_cons_zero, List.set_cons_succ]
    refine takeL [8] (i := 4) (d := 33) (oi := _) (v := ?_) rfl rfl (by kernel_rfl) (by kernel_rfl) (by kernel_rfl) (by kernel_rfl) (by kernel_rfl) (fun _ _ _ h => h) (Or.inl ⟨by rfl, ?_⟩) (by assumption) ?_
    rotate_left
    · intro wz hSw; (try dsimp only at hSw); go_simp; (try with_reducible rfl)
    try simp only [Act.put, List.setIfInBounds_toArray, List.set_cons_zero, List.set_cons_succ]
    refine branchL (i := 2) (j := 7) (o := _) (p := _) (by kernel_rfl) rfl rfl (fun K' hK => ?_) (fun K' hK => ?_)
    · go_simp
      refine (rcopy_any m.out (fun b => b < w1.heap.size) _ w2 (fun b h => by have := Q2.out.size; omega) (RO1.out.keep (Same.of_below Q2.out fun b h => h)) (by have := HSM.out.1; omega) (fun y hy => by have := HSM.out.2.2.1 y hy; omega)).mono ?_
      rintro e w3 ⟨vo, rfl, ho, hb⟩
      have P3 := hid hb
      have Ro : Hid (RowsIn (fun b => w1.heap.size ≤ b ∧ b < w3.heap.size) w3 vo m.out) := ho.more fun b hb => ⟨by have := hb.1; have := Q2.out.size; omega, hb.2⟩
      obtain ⟨Ao, co, rfl, -, -⟩ := ho
      have Q3 := hid (Q2.out.trans (hb.mono Q2.out.size))
      clear hb
      (try clear hHeld)
      have hHeld : (fun w' => w'.cell? ⟨bm, 0, none⟩ = some (.slice A1 m.out.length c1) ∧ w'.cell? ⟨bm, 1, none⟩ = some (.slice A2 m.next.length c2)) w3 := ⟨(Q3.out.cell (p := ⟨bm, 0, none⟩) LB.out).trans x0, (Q3.out.cell (p := ⟨bm, 1, none⟩) LB.out).trans x1⟩
      refine hK.out _ _ (Or.inl hHeld) ?_
      clear hK K'
      try simp only [Act.put, List.setIfInBounds_toArray, List.set_cons_zero, List.set_cons_succ]
      refine branchL (i := 5) (j := 7) (o := _) (p := _) (by kernel_rfl) rfl rfl (fun K' hK => ?_) (fun K' hK => ?_)
      · go_simp
        refine (rcopy_any m.next (fun b => b < w1.heap.size) _ w3 (fun b h => by have := Q3.out.size; omega) (RN1.out.keep (Same.of_below Q3.out fun b h => h)) (by have := HSM.out.2.1; omega) (fun y hy => by have := HSM.out.2.2.2 y hy; omega)).mono ?_
        rintro e w4 ⟨vn, rfl, hn, hb⟩
        have P4 := hid hb
        have Ro : Hid (RowsIn (fun b => w1.heap.size ≤ b ∧ b < w4.heap.size) w4 (.slice Ao m.out.length co) m.out) := (Ro.out.keep fun b hb => P4.out.block b hb.2).more fun b hb => ⟨hb.1, by have := P4.out.size; have := hb.2; omega⟩
        have Rn : Hid (RowsIn (fun b => w1.heap.size ≤ b ∧ b < w4.heap.size) w4 vn m.next) := hn.more fun b hb => ⟨by have := hb.1; have := Q3.out.size; omega, hb.2⟩
        obtain ⟨An, cn, rfl, -, -⟩ := hn
        have Q4 := hid (Q3.out.trans (hb.mono Q3.out.size))
        clear hb
        (try clear hHeld)
        have hHeld : (fun w' => w'.cell? ⟨bm, 0, none⟩ = some (.slice A1 m.out.length c1) ∧ w'.cell? ⟨bm, 1, none⟩ = some (.slice A2 m.next.length c2)) w4 := ⟨(Q4.out.cell (p := ⟨bm, 0, none⟩) LB.out).trans x0, (Q4.out.cell (p := ⟨bm, 1, none⟩) LB.out).trans x1⟩
        refine hK.out _ _ (Or.inl hHeld) ?_
        clear hK K'
        try simp only [Act.put, List.setIfInBounds_toArray, List.set_cons_zero, List.set_cons_succ]
        refine takeL [8] (i := 6) (d := 35) (oi := _) (v := ?_) rfl rfl (by kernel_rfl) (by kernel_rfl) (by kernel_rfl) (by kernel_rfl) (by kernel_rfl) (fun _ _ _ h => h) (Or.inl ⟨by rfl, ?_⟩) (by assumption) ?_
        rotate_left
        · intro wz hSw; (try dsimp only at hSw); go_simp; (try with_reducible rfl)
        try simp only [Act.put, List.setIfInBounds_toArray, List.set_cons_zero, List.set_cons_succ]
        refine nxtL (i := 7) (o := _) (by kernel_rfl) rfl (fun K' hK => ?_)
        go_simp
        obtain ⟨w5, hw⟩ : ∃ y, y = w4.alloc (.cells #[.slice none 0 0, .slice none 0 0] 24) := ⟨_, rfl⟩
        obtain ⟨b7, hb7⟩ : ∃ y, y = w4.heap.size := ⟨_, rfl⟩
        have P5 : Hid (Below w4.heap.size w4 w5) := by show Below _ _ _; rw [hw]; exact (Below.refl _ _).alloc (Nat.le_refl _) _
        have SB : Hid (w1.heap.size ≤ b7) := by show _ ≤ _; have := Q4.out.size; omega
        have Ro : Hid (RowsIn (fun b => w1.heap.size ≤ b ∧ b < w5.heap.size ∧ b ≠ b7) w5 (.slice Ao m.out.length co) m.out) := (Ro.out.keep fun b hb => P5.out.block b hb.2).more fun b hb => ⟨hb.1, by have := P5.out.size; have := hb.2; omega, by have := hb.2; omega⟩
        have Rn : Hid (RowsIn (fun b => w1.heap.size ≤ b ∧ b < w5.heap.size ∧ b ≠ b7) w5 (.slice An m.next.length cn) m.next) := (Rn.out.keep fun b hb => P5.out.block b hb.2).more fun b hb => ⟨hb.1, by have := P5.out.size; have := hb.2; omega, by have := hb.2; omega⟩
        have XB : Hid (w5.heap[b7]? = some (.cells #[.slice none 0 0, .slice none 0 0] 24 (0, 0))) := by show _ = _; rw [hw, hb7]; exact Has.new w4 _
        have Q5 := hid (Q4.out.trans (P5.out.mono Q4.out.size))
        (try clear hHeld)
        have hHeld : (fun w' => w'.cell? ⟨bm, 0, none⟩ = some (.slice A1 m.out.length c1) ∧ w'.cell? ⟨bm, 1, none⟩ = some (.slice A2 m.next.length c2)) w5 := ⟨(Q5.out.cell (p := ⟨bm, 0, none⟩) LB.out).trans x0, (Q5.out.cell (p := ⟨bm, 1, none⟩) LB.out).trans x1⟩
        (try rw [← hb7])
        (try rw [← hw])
        clear hw hb7
        have LB7 := hid (Has.lt XB.out)
        refine hK.out _ _ (Or.inl hHeld) ?_
        clear hK K'
        try simp only [Act.put, List.setIfInBounds_toArray, List.set_cons_zero, List.set_cons_succ]
        refine nxtL (i := 8) (o := _) (by kernel_rfl) rfl (fun K' hK => ?_)
        have z0 : w5.cell? ⟨b7, 0, none⟩ = some (.slice none 0 0) := (Has.cell XB.out 0).trans rfl
        have z1 : w5.cell? ⟨b7, 1, none⟩ = some (.slice none 0 0) := (Has.cell XB.out 1).trans rfl
        have y0 : w5.frozen? ⟨b7, 0, none⟩ = false := Has.froz XB.out 0
        have y1 : w5.frozen? ⟨b7, 1, none⟩ = false := Has.froz XB.out 1
        go_simp
        refine hK.out _ _ (Or.inr (by simp)) ?_
        clear hK K' hHeld z0 z1 y0 y1
        have XF : Hid (((w5.setCell ⟨b7, 0, none⟩ (.slice Ao m.out.length co)).setCell ⟨b7, 1, none⟩ (.slice An m.next.length cn)).heap[b7]? = some (.cells #[.slice Ao m.out.length co, .slice An m.next.length cn] 24 (0, 0))) := by show _ = _; have := Has.set (Has.set XB.out 0 (.slice Ao m.out.length co)) 1 (.slice An m.next.length cn); simpa using this
        have KF : Hid (∀ b, b ≠ b7 → ((w5.setCell ⟨b7, 0, none⟩ (.slice Ao m.out.length co)).setCell ⟨b7, 1, none⟩ (.slice An m.next.length cn)).heap[b]? = w5.heap[b]?) := fun b hb => (Below.heap_setCell _ _ _ _ hb).trans (Below.heap_setCell _ _ _ _ hb)
        have BF : Hid (Below w1.heap.size w1 ((w5.setCell ⟨b7, 0, none⟩ (.slice Ao m.out.length co)).setCell ⟨b7, 1, none⟩ (.slice An m.next.length cn))) := (Q5.out.setCell SB.out _).setCell SB.out _
        have MF : Hid (MachIn (fun b => w1.heap.size ≤ b ∧ b < ((w5.setCell ⟨b7, 0, none⟩ (.slice Ao m.out.length co)).setCell ⟨b7, 1, none⟩ (.slice An m.next.length cn)).heap.size ∧ b ≠ b7) ((w5.setCell ⟨b7, 0, none⟩ (.slice Ao m.out.length co)).setCell ⟨b7, 1, none⟩ (.slice An m.next.length cn)) (.agg #[.slice Ao m.out.length co, .slice An m.next.length cn]) m) := ⟨_, _, rfl, (Ro.out.keep fun b hb => KF.out b hb.2.2).more fun b hb => ⟨hb.1, by simpa using hb.2.1, hb.2.2⟩, (Rn.out.keep fun b hb => KF.out b hb.2.2).more fun b hb => ⟨hb.1, by simpa using hb.2.1, hb.2.2⟩⟩
        refine doneL (by kernel_rfl) ?_ _
        go_wp2_with fail
        go_meet
        exact ⟨b7, _, _, rfl, ⟨SB.out, XF⟩, MF, BF⟩
      · go_simp
        obtain ⟨w4, hw⟩ : ∃ y, y = w3.alloc (.cells #[.slice none 0 0, .slice none 0 0] 24) := ⟨_, rfl⟩
        obtain ⟨b7, hb7⟩ : ∃ y, y = w3.heap.size := ⟨_, rfl⟩
        have P4 : Hid (Below w3.heap.size w3 w4) := by show Below _ _ _; rw [hw]; exact (Below.refl _ _).alloc (Nat.le_refl _) _
        have SB : Hid (w1.heap.size ≤ b7) := by show _ ≤ _; have := Q3.out.size; omega
        have Ro : Hid (RowsIn (fun b => w1.heap.size ≤ b ∧ b < w4.heap.size ∧ b ≠ b7) w4 (.slice Ao m.out.length co) m.out) := (Ro.out.keep fun b hb => P4.out.block b hb.2).more fun b hb => ⟨hb.1, by have := P4.out.size; have := hb.2; omega, by have := hb.2; omega⟩
        have XB : Hid (w4.heap[b7]? = some (.cells #[.slice none 0 0, .slice none 0 0] 24 (0, 0))) := by show _ = _; rw [hw, hb7]; exact Has.new w3 _
        have Q4 := hid (Q3.out.trans (P4.out.mono Q3.out.size))
        (try clear hHeld)
        have hHeld : (fun w' => w'.cell? ⟨bm, 0, none⟩ = some (.slice A1 m.out.length c1) ∧ w'.cell? ⟨bm, 1, none⟩ = some (.slice A2 m.next.length c2)) w4 := ⟨(Q4.out.cell (p := ⟨bm, 0, none⟩) LB.out).trans x0, (Q4.out.cell (p := ⟨bm, 1, none⟩) LB.out).trans x1⟩
        (try rw [← hb7])
        (try rw [← hw])
        clear hw hb7
        have LB7 := hid (Has.lt XB.out)
        refine hK.out _ _ (Or.inl hHeld) ?_
        clear hK K'
        try simp only [Act.put, List.setIfInBounds_toArray, List.set_cons_zero, List.set_cons_succ]
        refine nxtL (i := 5) (o := _) (by kernel_rfl) rfl (fun K' hK => ?_)
        go_simp
        refine (rcopy_any m.next (fun b => b < w1.heap.size) _ w4 (fun b h => by have := Q4.out.size; omega) (RN1.out.keep (Same.of_below Q4.out fun b h => h)) (by have := HSM.out.2.1; omega) (fun y hy => by have := HSM.out.2.2.2 y hy; omega)).mono ?_
        rintro e w5 ⟨vn, rfl, hn, hb⟩
        have P5 := hid hb
        have Ro : Hid (RowsIn (fun b => w1.heap.size ≤ b ∧ b < w5.heap.size ∧ b ≠ b7) w5 (.slice Ao m.out.length co) m.out) := (Ro.out.keep fun b hb => P5.out.block b hb.2.1).more fun b hb => ⟨hb.1, by have := P5.out.size; have := hb.2.1; omega, hb.2.2⟩
        have XB := hid (Has.below XB.out P5.out (Has.lt XB.out))
        have Rn : Hid (RowsIn (fun b => w1.heap.size ≤ b ∧ b < w5.heap.size ∧ b ≠ b7) w5 vn m.next) := hn.more fun b hb => ⟨by have := hb.1; have := Q4.out.size; omega, hb.2, fun e => by have := hb.1; have := LB7.out; omega⟩
        obtain ⟨An, cn, rfl, -, -⟩ := hn
        have Q5 := hid (Q4.out.trans (hb.mono Q4.out.size))
        clear hb
        (try clear hHeld)
        have hHeld : (fun w' => w'.cell? ⟨bm, 0, none⟩ = some (.slice A1 m.out.length c1) ∧ w'.cell? ⟨bm, 1, none⟩ = some (.slice A2 m.next.length c2)) w5 := ⟨(Q5.out.cell (p := ⟨bm, 0, none⟩) LB.out).trans x0, (Q5.out.cell (p := ⟨bm, 1, none⟩) LB.out).trans x1⟩
        have LB7 := hid (Has.lt XB.out)
        refine hK.out _ _ (Or.inl hHeld) ?_
        clear hK K'
        try simp only [Act.put, List.setIfInBounds_toArray, List.set_cons_zero, List.set_cons_succ]
        refine takeL [8] (i := 6) (d := 35) (oi := _) (v := ?_) rfl rfl (by kernel_rfl) (by kernel_rfl) (by kernel_rfl) (by kernel_rfl) (by kernel_rfl) (fun _ _ _ h => h) (Or.inl ⟨by rfl, ?_⟩) (by assumption) ?_
        rotate_left
        · intro wz hSw; (try dsimp only at hSw); go_simp; (try with_reducible rfl)
        try simp only [Act.put, List.setIfInBounds_toArray, List.set_cons_zero, List.set_cons_succ]
        refine nxtL (i := 8) (o := _) (by kernel_rfl) rfl (fun K' hK => ?_)
        have z0 : w5.cell? ⟨b7, 0, none⟩ = some (.slice none 0 0) := (Has.cell XB.out 0).trans rfl
        have z1 : w5.cell? ⟨b7, 1, none⟩ = some (.slice none 0 0) := (Has.cell XB.out 1).trans rfl
        have y0 : w5.frozen? ⟨b7, 0, none⟩ = false := Has.froz XB.out 0
        have y1 : w5.frozen? ⟨b7, 1, none⟩ = false := Has.froz XB.out 1
        go_simp
        refine hK.out _ _ (Or.inr (by simp)) ?_
        clear hK K' hHeld z0 z1 y0 y1
        have XF : Hid (((w5.setCell ⟨b7, 0, none⟩ (.slice Ao m.out.length co)).setCell ⟨b7, 1, none⟩ (.slice An m.next.length cn)).heap[b7]? = some (.cells #[.slice Ao m.out.length co, .slice An m.next.length cn] 24 (0, 0))) := by show _ = _; have := Has.set (Has.set XB.out 0 (.slice Ao m.out.length co)) 1 (.slice An m.next.length cn); simpa using this
        have KF : Hid (∀ b, b ≠ b7 → ((w5.setCell ⟨b7, 0, none⟩ (.slice Ao m.out.length co)).setCell ⟨b7, 1, none⟩ (.slice An m.next.length cn)).heap[b]? = w5.heap[b]?) := fun b hb => (Below.heap_setCell _ _ _ _ hb).trans (Below.heap_setCell _ _ _ _ hb)
        have BF : Hid (Below w1.heap.size w1 ((w5.setCell ⟨b7, 0, none⟩ (.slice Ao m.out.length co)).setCell ⟨b7, 1, none⟩ (.slice An m.next.length cn))) := (Q5.out.setCell SB.out _).setCell SB.out _
        have MF : Hid (MachIn (fun b => w1.heap.size ≤ b ∧ b < ((w5.setCell ⟨b7, 0, none⟩ (.slice Ao m.out.length co)).setCell ⟨b7, 1, none⟩ (.slice An m.next.length cn)).heap.size ∧ b ≠ b7) ((w5.setCell ⟨b7, 0, none⟩ (.slice Ao m.out.length co)).setCell ⟨b7, 1, none⟩ (.slice An m.next.length cn)) (.agg #[.slice Ao m.out.length co, .slice An m.next.length cn]) m) := ⟨_, _, rfl, (Ro.out.keep fun b hb => KF.out b hb.2.2).more fun b hb => ⟨hb.1, by simpa using hb.2.1, hb.2.2⟩, (Rn.out.keep fun b hb => KF.out b hb.2.2).more fun b hb => ⟨hb.1, by simpa using hb.2.1, hb.2.2⟩⟩
        refine doneL (by kernel_rfl) ?_ _
        go_wp2_with fail
        go_meet
        exact ⟨b7, _, _, rfl, ⟨SB.out, XF⟩, MF, BF⟩
    · go_simp
      obtain ⟨w3, hw⟩ : ∃ y, y = w2.alloc (.cells #[.slice none 0 0, .slice none 0 0] 24) := ⟨_, rfl⟩
      obtain ⟨b7, hb7⟩ : ∃ y, y = w2.heap.size := ⟨_, rfl⟩
      have P3 : Hid (Below w2.heap.size w2 w3) := by show Below _ _ _; rw [hw]; exact (Below.refl _ _).alloc (Nat.le_refl _) _
      have SB : Hid (w1.heap.size ≤ b7) := by show _ ≤ _; have := Q2.out.size; omega
      have XB : Hid (w3.heap[b7]? = some (.cells #[.slice none 0 0, .slice none 0 0] 24 (0, 0))) := by show _ = _; rw [hw, hb7]; exact Has.new w2 _
      have Q3 := hid (Q2.out.trans (P3.out.mono Q2.out.size))
      (try clear hHeld)
      have hHeld : (fun w' => w'.cell? ⟨bm, 0, none⟩ = some (.slice A1 m.out.length c1) ∧ w'.cell? ⟨bm, 1, none⟩ = some (.slice A2 m.next.length c2)) w3 := ⟨(Q3.out.cell (p := ⟨bm, 0, none⟩) LB.out).trans x0, (Q3.out.cell (p := ⟨bm, 1, none⟩) LB.out).trans x1⟩
      (try rw [← hb7])
      (try rw [← hw])
      clear hw hb7
      have LB7 := hid (Has.lt XB.out)
      refine hK.out _ _ (Or.inl hHeld) ?_
      clear hK K'
      try simp only [Act.put, List.setIfInBounds_toArray, List.set_cons_zero, List.set_cons_succ]
      refine nxtL (i := 2) (o := _) (by kernel_rfl) rfl (fun K' hK => ?_)
      go_simp
      refine (rcopy_any m.out (fun b => b < w1.heap.size) _ w3 (fun b h => by have := Q3.out.size; omega) (RO1.out.keep (Same.of_below Q3.out fun b h => h)) (by have := HSM.out.1; omega) (fun y hy => by have := HSM.out.2.2.1 y hy; omega)).mono ?_
      rintro e w4 ⟨vo, rfl, ho, hb⟩
      have P4 := hid hb
      have XB := hid (Has.below XB.out P4.out (Has.lt XB.out))
      have Ro : Hid (RowsIn (fun b => w1.heap.size ≤ b ∧ b < w4.heap.size ∧ b ≠ b7) w4 vo m.out) := ho.more fun b hb => ⟨by have := hb.1; have := Q3.out.size; omega, hb.2, fun e => by have := hb.1; have := LB7.out; omega⟩
      obtain ⟨Ao, co, rfl, -, -⟩ := ho
      have Q4 := hid (Q3.out.trans (hb.mono Q3.out.size))
      clear hb
      (try clear hHeld)
      have hHeld : (fun w' => w'.cell? ⟨bm, 0, none⟩ = some (.slice A1 m.out.length c1) ∧ w'.cell? ⟨bm, 1, none⟩ = some (.slice A2 m.next.length c2)) w4 := ⟨(Q4.out.cell (p := ⟨bm, 0, none⟩) LB.out).trans x0, (Q4.out.cell (p := ⟨bm, 1, none⟩) LB.out).trans x1⟩
      have LB7 := hid (Has.lt XB.out)
      refine hK.out _ _ (Or.inl hHeld) ?_
      clear hK K'
      try simp only [Act.put, List.setIfInBounds_toArray, List.set_cons_zero, List.set_cons_succ]
      refine nxtL (i := 5) (o := _) (by kernel_rfl) rfl (fun K' hK => ?_)
      go_simp
      refine (rcopy_any m.next (fun b => b < w1.heap.size) _ w4 (fun b h => by have := Q4.out.size; omega) (RN1.out.keep (Same.of_below Q4.out fun b h => h)) (by have := HSM.out.2.1; omega) (fun y hy => by have := HSM.out.2.2.2 y hy; omega)).mono ?_
      rintro e w5 ⟨vn, rfl, hn, hb⟩
      have P5 := hid hb
      have XB := hid (Has.below XB.out P5.out (Has.lt XB.out))
      have Ro : Hid (RowsIn (fun b => w1.heap.size ≤ b ∧ b < w5.heap.size ∧ b ≠ b7) w5 (.slice Ao m.out.length co) m.out) := (Ro.out.keep fun b hb => P5.out.block b hb.2.1).more fun b hb => ⟨hb.1, by have := P5.out.size; have := hb.2.1; omega, hb.2.2⟩
      have Rn : Hid (RowsIn (fun b => w1.heap.size ≤ b ∧ b < w5.heap.size ∧ b ≠ b7) w5 vn m.next) := hn.more fun b hb => ⟨by have := hb.1; have := Q4.out.size; omega, hb.2, fun e => by have := hb.1; have := LB7.out; omega⟩
      obtain ⟨An, cn, rfl, -, -⟩ := hn
      have Q5 := hid (Q4.out.trans (hb.mono Q4.out.size))
      clear hb
      (try clear hHeld)
      have hHeld : (fun w' => w'.cell? ⟨bm, 0, none⟩ = some (.slice A1 m.out.length c1) ∧ w'.cell? ⟨bm, 1, none⟩ = some (.slice A2 m.next.length c2)) w5 := ⟨(Q5.out.cell (p := ⟨bm, 0, none⟩) LB.out).trans x0, (Q5.out.cell (p := ⟨bm, 1, none⟩) LB.out).trans x1⟩
      have LB7 := hid (Has.lt XB.out)
      refine hK.out _ _ (Or.inl hHeld) ?_
      clear hK K'
      try simp only [Act.put, List.setIfInBounds_toArray, List.set_cons_zero, List.set_cons_succ]
      refine takeL [8] (i := 6) (d := 35) (oi := _) (v := ?_) rfl rfl (by kernel_rfl) (by kernel_rfl) (by kernel_rfl) (by kernel_rfl) (by kernel_rfl) (fun _ _ _ h => h) (Or.inl ⟨by rfl, ?_⟩) (by assumption) ?_
      rotate_left
      · intro wz hSw; (try dsimp only at hSw); go_simp; (try with_reducible rfl)
      try simp only [Act.put, List.setIfInBounds_toArray, List.set_cons_zero, List.set_cons_succ]
      refine nxtL (i := 8) (o := _) (by kernel_rfl) rfl (fun K' hK => ?_)
      have z0 : w5.cell? ⟨b7, 0, none⟩ = some (.slice none 0 0) := (Has.cell XB.out 0).trans rfl
      have z1 : w5.cell? ⟨b7, 1, none⟩ = some (.slice none 0 0) := (Has.cell XB.out 1).trans rfl
      have y0 : w5.frozen? ⟨b7, 0, none⟩ = false := Has.froz XB.out 0
      have y1 : w5.frozen? ⟨b7, 1, none⟩ = false := Has.froz XB.out 1
      go_simp
      refine hK.out _ _ (Or.inr (by simp)) ?_
      clear hK K' hHeld z0 z1 y0 y1
      have XF : Hid (((w5.setCell ⟨b7, 0, none⟩ (.slice Ao m.out.length co)).setCell ⟨b7, 1, none⟩ (.slice An m.next.length cn)).heap[b7]? = some (.cells #[.slice Ao m.out.length co, .slice An m.next.length cn] 24 (0, 0))) := by show _ = _; have := Has.set (Has.set XB.out 0 (.slice Ao m.out.length co)) 1 (.slice An m.next.length cn); simpa using this
      have KF : Hid (∀ b, b ≠ b7 → ((w5.setCell ⟨b7, 0, none⟩ (.slice Ao m.out.length co)).setCell ⟨b7, 1, none⟩ (.slice An m.next.length cn)).heap[b]? = w5.heap[b]?) := fun b hb => (Below.heap_setCell _ _ _ _ hb).trans (Below.heap_setCell _ _ _ _ hb)
      have BF : Hid (Below w1.heap.size w1 ((w5.setCell ⟨b7, 0, none⟩ (.slice Ao m.out.length co)).setCell ⟨b7, 1, none⟩ (.slice An m.next.length cn))) := (Q5.out.setCell SB.out _).setCell SB.out _
      have MF : Hid (MachIn (fun b => w1.heap.size ≤ b ∧ b < ((w5.setCell ⟨b7, 0, none⟩ (.slice Ao m.out.length co)).setCell ⟨b7, 1, none⟩ (.slice An m.next.length cn)).heap.size ∧ b ≠ b7) ((w5.setCell ⟨b7, 0, none⟩ (.slice Ao m.out.length co)).setCell ⟨b7, 1, none⟩ (.slice An m.next.length cn)) (.agg #[.slice Ao m.out.length co, .slice An m.next.length cn]) m) := ⟨_, _, rfl, (Ro.out.keep fun b hb => KF.out b hb.2.2).more fun b hb => ⟨hb.1, by simpa using hb.2.1, hb.2.2⟩, (Rn.out.keep fun b hb => KF.out b hb.2.2).more fun b hb => ⟨hb.1, by simpa using hb.2.1, hb.2.2⟩⟩
      refine doneL (by kernel_rfl) ?_ _
      go_wp2_with fail
      go_meet
      exact ⟨b7, _, _, rfl, ⟨SB.out, XF⟩, MF, BF⟩
  case rest =>
  obtain ⟨b7, r1, r2, rfl, hX7, hM7, hB7⟩ := hcut
  obtain ⟨w4, rfl⟩ : ∃ z : World, z = wc := ⟨_, rfl⟩
  have Q4 := hid hB7.out.size
  have B4 := hid (B1.out.trans (hB7.out.mono (by have := S1.out; omega)))
  have X7 := hid hX7.out.2
  have XM4 := hid (Has.below X1.out hB7.out LB.out)
  have M7 := hid (hM7.out.more (F' := fun b => b < w4.heap.size) fun b h => h.2.1)
  have VM4 : Hid (MachIn (fun b => b < w4.heap.size) w4 (.agg #[.slice A1 m.out.length c1, .slice A2 m.next.length c2]) m) := (HV.out.keep (Same.of_below B4.out fun b h => h)).more fun b h => by have := B4.out.size; omega
  have VU4 : Hid (IntsIn .i64 (fun b => b < w4.heap.size) w4 (.slice A3 ws.length c3) ws) := (HU.out.keep (Same.of_below B4.out fun b h => h)).more fun b h => by have := B4.out.size; omega
  have z0 := (Has.cell X7.out 0).trans rfl
  have z1 := (Has.cell X7.out 1).trans rfl
  clear hX7 hM7 x0 x1
  go_wp2_with fail
  refine (least_all m (fun b => b < w4.heap.size) _ w4 (fun b h => h) M7.out).mono ?_
  rintro e w5 ⟨o, n, l, rfl, hl, hml, hb5, hom⟩
  have LR := hid hl
  have LS := hid hl.size
  have ML := hid hml
  have OM := hid hom
  have s5 := hb5.size
  have Q5 := hid hb5
  obtain ⟨d1, d2, k1, k2, -, -⟩ := hom
  obtain ⟨Ao, co, rfl, -, -⟩ := own_slice1 k1
  obtain ⟨An, cn, rfl, -, -⟩ := own_slice1 k2
  clear hl hml hb5 z0 z1 k1 k2 d1 d2
  obtain ⟨w6, hw6⟩ : ∃ z, z = w5.alloc (.cells #[.slice Ao l.out.length co, .slice An l.next.length cn] 24) := ⟨_, rfl⟩
  obtain ⟨b8, hb8⟩ : ∃ b, b = w5.heap.size := ⟨_, rfl⟩
  have S6 : Hid (b8 = w5.heap.size ∧ w6.heap.size = w5.heap.size + 1) := by show _ ∧ _; exact ⟨hb8, by rw [hw6]; simp⟩
  have P6 : Hid (Below w5.heap.size w5 w6) := by show Below _ _ _; rw [hw6]; exact (Below.refl _ _).alloc (Nat.le_refl _) _
  have X8 : Hid (w6.heap[b8]? = some (.cells #[.slice Ao l.out.length co, .slice An l.next.length cn] 24 (0, 0))) := by show _ = _; rw [hw6, hb8]; exact Has.new w5 _
  have Q6 := hid (Q5.out.trans (P6.out.mono s5))
  have s6 := Q6.out.size
  have X76 := hid (Has.below X7.out Q6.out (Has.lt X7.out))
  have M76 := hid ((M7.out.keep (Same.of_below Q6.out fun b h => h)).more (F' := fun b => b < w6.heap.size) fun b h => by omega)
  have z0 := (Has.cell X76.out 0).trans rfl
  have z1 := (Has.cell X76.out 1).trans rfl
  go_upto_region 3 with fail
  rw [← hw6, ← hb8]
  clear hw6 hb8
  go_wp2_with fail
  refine (set_all m (fun b => b < w6.heap.size) _ w6 (fun b h => h) M76.out).mono ?_
  rintro e w7 ⟨sv, cs, rfl, hso, hro, hb7⟩
  have SO := hid hso
  have SRO := hid hro
  have P7 := hid hb7
  have s7 := hb7.size
  have Q7 := hid (Q6.out.trans (hb7.mono s6))
  obtain ⟨As, cs3, rfl, -, -⟩ := own_slice1 hso
  have X77 := hid (Has.below X76.out hb7 (Has.lt X76.out))
  have M77 := hid ((M76.out.keep (Same.of_below hb7 fun b h => h)).more (F' := fun b => b < w7.heap.size) fun b h => by omega)
  have U7 := hid ((VU4.out.keep (Same.of_below Q7.out fun b h => h)).more (F' := fun b => b < w7.heap.size) fun b h => by omega)
  clear hso hro hb7 z0 z1
  have z0 := (Has.cell X77.out 0).trans rfl
  have z1 := (Has.cell X77.out 1).trans rfl
  go_wp2_with fail
  refine (run_all m ws (fun b => b < w7.heap.size) _ _ w7 (fun b h => h) M77.out U7.out (by have := HZ.out; omega)).mono ?_
  rintro e w8 ⟨va, ga, zs, rfl, hao, hal, haf, hb8⟩
  have AO := hid hao
  have AL := hid hal
  have AF := hid haf
  have P8 := hid hb8
  have s8 := hb8.size
  have Q8 := hid (Q7.out.trans (hb8.mono (by omega)))
  obtain ⟨Aa, ca, rfl, -, -⟩ := own_slice1 hao
  clear hao hal haf hb8 z0 z1
  obtain ⟨w9, hw9⟩ : ∃ w9, w9 = (((w8.alloc (.cells #[.int .i64 7] 3)).alloc (.cells #[.slice (some ⟨w8.heap.size, 0, none⟩) 1 1] 29)).alloc (.cells #[.int .i64 0] 3)).alloc (.cells #[.slice (some ⟨w8.heap.size + 1 + 1, 0, none⟩) 1 1] 29) := ⟨_, rfl⟩
  have FM := hid (fact_in hw9)
  have s9 : w9.heap.size = w8.heap.size + 4 := by rw [hw9]; simp
  have P9 : Hid (Below w8.heap.size w8 w9) := by show Below _ _ _; rw [hw9]; exact ((((Below.refl _ _).alloc (Nat.le_refl _) _).alloc (by simp) _).alloc (by simp; omega) _).alloc (by simp; omega) _
  obtain ⟨w10, hw10⟩ : ∃ z, z = w9.alloc (.cells #[.int .i64 0] 3) := ⟨_, rfl⟩
  have s10 : w10.heap.size = w9.heap.size + 1 := by rw [hw10]; simp
  have P10 : Hid (Below w9.heap.size w9 w10) := by show Below _ _ _; rw [hw10]; exact (Below.refl _ _).alloc (Nat.le_refl _) _
  have X10 : Hid (w10.heap[w8.heap.size + 1 + 1 + 1 + 1]? = some (.cells #[.int .i64 0] 3 (0, 0))) := by show _ = _; rw [hw10]; exact Has.newAt _ _ (by omega)
  have FM10 := hid ((FM.out.keep (Same.of_below P10.out fun b h => h)).more (F' := fun b => b < w10.heap.size) fun b h => by omega)
  have I10 : Hid (IntsIn .i64 (fun b => b < w10.heap.size) w10 (.slice (some ⟨w8.heap.size + 1 + 1 + 1 + 1, 0, none⟩) 1 1) [0]) := ints1 (by omega) ((Has.cell X10.out 0).trans rfl) (by decide)
  go_wp2_with fail
  rw [← hw9, ← hw10]
  clear hw9 hw10
  refine (run_own factD 0 [0] (fun b => b < w10.heap.size) _ _ w10 (fun b h => h) FM10.out I10.out (by decide)).mono ?_
  rintro e w11 ⟨-, h2, hb11⟩
  obtain ⟨vf, rfl, hfo⟩ := h2 fact_run
  obtain ⟨gf, pf, rfl, hgf, hgl, -, -, hfc⟩ := own_open hfo (by decide)
  have f0 : w11.cell? ⟨gf, 0, none⟩ = some (.int .i64 7) := (hfc 0 (by decide)).trans rfl
  have one : ([0] : List Int).length = 1 := rfl
  rw [one]
  have P811 := hid (P9.out.trans ((P10.out.trans (hb11.mono (by omega))).mono (by omega)))
  have s11 := P811.out.size
  have Q11 := hid (Q8.out.trans (P811.out.mono (by omega)))
  have P611 := hid (P7.out.trans ((P8.out.trans (P811.out.mono (by omega))).mono (by omega)))
  have X811 := hid (Has.below X8.out P611.out (Has.lt X8.out))
  have y0 := (Has.cell X811.out 0).trans rfl
  have ML11 : Hid (MachIn (fun b => b < w11.heap.size) w11 (.agg #[.slice Ao l.out.length co, .slice An l.next.length cn]) l) := (ML.out.keep (w' := w11) fun b hb => ((P6.out.trans (P611.out.mono (by have := S6.out; omega)))).block b hb.2).more fun b hb => by have := hb.2; have := S6.out; omega
  clear h2 hb11 hfo hfc
  go_wp2_with fail
  have RML : Hid (RowsIn (fun b => b < w11.heap.size) w11 (.slice Ao l.out.length co) l.out) := by
    obtain ⟨o', n', e, h1, _⟩ := ML11.out
    injection e with e
    have e2 := congrArg Array.toList e
    simp at e2
    show RowsIn _ _ _ _
    rw [e2.1]; exact h1
  refine (rcopy_any l.out (fun b => b < w11.heap.size) _ w11 (fun b h => h) RML.out (by have := LS.out.1; omega) (fun y hy => by have := LS.out.2.2.1 y hy; omega)).mono ?_
  rintro e w12 ⟨wv, rfl, hwas, hb12⟩
  have WAS := hid hwas
  have s12 := hb12.size
  have Q12 := hid (Q11.out.trans (hb12.mono (by omega)))
  have P612 := hid (P611.out.trans (hb12.mono (by omega)))
  have P512 := hid (P6.out.trans (P612.out.mono (by have := S6.out; omega)))
  have P712 := hid (P8.out.trans ((P811.out.trans (hb12.mono (by omega))).mono (by omega)))
  have P812 := hid (P811.out.trans (hb12.mono (by omega)))
  have H8 := hid (Has.below X8.out P612.out (Has.lt X8.out))
  obtain ⟨Aw, cw, rfl, -, -⟩ := hwas
  obtain ⟨d1, d2, k1, k2, k3, k4⟩ := OM.out
  have K1 := hid (own_below k1 P512.out)
  have K2 := hid (own_below k2 P512.out)
  have K3 := hid (k3.keep (w' := w12) fun b hb => P512.out.block b hb.2)
  have K4 := hid (k4.keep (w' := w12) fun b hb => P512.out.block b hb.2)
  have L1 : Hid (d1.length = l.out.length) := by show _ = _; have := k1.1; omega
  have L2 : Hid (d2.length = l.next.length) := by show _ = _; have := k2.1; omega
  have K5 := hid (own_below SO.out P712.out)
  have K6 := hid (SRO.out.keep (w' := w12) fun b hb => P712.out.block b hb.2)
  have L5 : Hid (cs.length = (setR m).length) := by show _ = _; have := SO.out.1; omega
  have K7 := hid (own_below AO.out P812.out)
  clear k1 k2 k3 k4 hb12 y0 f0 one
  have ROW : Hid (∀ r ∈ d1 ++ d2 ++ cs ++ [.slice Aa zs.length ca], SP w12 r ∧ ∀ b, r.ownBlock = some b → w4.heap.size ≤ b ∧ b < w11.heap.size) := by
    intro r hr
    simp only [List.mem_append, List.mem_singleton] at hr
    rcases hr with ((hr | hr) | hr) | rfl
    · obtain ⟨row, h1, h2⟩ := K3.out.of_mem L1.out hr
      exact ⟨SP.of_own h2.1 (by have := LS.out.2.2.1 row h1; omega), fun b hb => by have := h2.2 b hb; exact ⟨this.1, by have := this.2; have := S6.out; omega⟩⟩
    · obtain ⟨row, h1, h2⟩ := K4.out.of_mem L2.out hr
      exact ⟨SP.of_own h2.1 (by have := LS.out.2.2.2 row h1; omega), fun b hb => by have := h2.2 b hb; exact ⟨this.1, by have := this.2; have := S6.out; omega⟩⟩
    · obtain ⟨row, h1, h2⟩ := K6.out.of_mem L5.out hr
      exact ⟨SP.of_own h2.1 (by have := setR_short m row h1; omega), fun b hb => by have := h2.2 b hb; exact ⟨by have := this.1; omega, by have := this.2; omega⟩⟩
    · exact ⟨SP.of_own K7.out (by have := AL.out; have := HZ.out; omega), fun b hb => ⟨by have := own_ge AO.out b hb; omega, by have := own_lt AO.out b hb; omega⟩⟩
  obtain ⟨rl, hrl⟩ : ∃ y, y = d1 ++ d2 ++ cs ++ [.slice Aa zs.length ca] := ⟨_, rfl⟩
  have RL := hid hrl
  rw [← hrl] at ROW
  clear hrl
  have SP0 : Hid (∀ r ∈ rl, SP w12 r) := fun r hr => (ROW.out r hr).1
  go_upto_region 10 with fail
  go_loopw [19] (fun iv wr => ∃ i : Nat, i ≤ l.out.length ∧ iv = .int .i64 i ∧ Hid (SpI w12 rl wr)) (fun iv _ => l.out.length - (intOf iv).toNat)
  case atStart => exact ⟨0, Nat.zero_le _, rfl, SpI.start SP0.out⟩
  case round =>
    obtain ⟨i, hi, rfl, hS⟩ := hrel
    have X8r := hid (hS.out.other SP0.out H8.out (by decide))
    have y0 := (Has.cell X8r.out 0).trans rfl
    have y1 := (Has.cell X8r.out 1).trans rfl
    have l6 := LS.out.1
    by_cases hlt : i < l.out.length
    · obtain ⟨ra, hra, hoa⟩ := K3.out i hlt
      obtain ⟨rb, hrb, hob⟩ := K4.out i (by have := LS.out.2.1; omega)
      have O1 := hid (hS.out.row SP0.out K1.out)
      obtain ⟨gA, pA, eA, -, -, -, -, hcA⟩ := own_open O1.out (by omega)
      injection eA with eA _ ec
      subst eA ec
      have c1 := (hcA i (by omega)).trans hra
      have MA1 : Hid (ra ∈ rl) := by show _ ∈ _; rw [RL.out]; simp only [List.mem_append]; exact .inl (.inl (.inl (List.mem_of_getElem? hra)))
      have MB1 : Hid (rb ∈ rl) := by show _ ∈ _; rw [RL.out]; simp only [List.mem_append]; exact .inl (.inl (.inr (List.mem_of_getElem? hrb)))
      have HRB := hid hrb
      have ii : (i : Int) < (l.out.length : Int) := by omega
      have in2 : i < l.next.length := by have := LS.out.2.1; omega
      clear hcA hra hrb hoa hob
      go_wp2_with fail
      refine (spoil_sp x ra wr (hS.out.sp ra MA1.out)).mono ?_
      rintro e w13 ⟨rfl, hg13⟩
      have S13 := hid (hS.out.step MA1.out hg13)
      have X8s := hid (S13.out.other SP0.out H8.out (by decide))
      have O2 := hid (S13.out.row SP0.out K2.out)
      obtain ⟨gB, pB, eB, -, -, -, -, hcB⟩ := own_open O2.out (by omega)
      injection eB with eB _ ec
      subst eB ec
      have c2 := (hcB i (by omega)).trans HRB.out
      clear hg13 hcB y0 y1 c1
      have y0 := (Has.cell X8s.out 0).trans rfl
      have y1 := (Has.cell X8s.out 1).trans rfl
      go_wp2_with fail
      refine (spoil_sp x rb w13 (S13.out.sp rb MB1.out)).mono ?_
      rintro e w14 ⟨rfl, hg14⟩
      have S14 := hid (S13.out.step MB1.out hg14)
      clear hg14 y0 y1 c2
      go_wp2_with fail
      go_roundw
      case rel => exact ⟨i + 1, by omega, by go_num, S14⟩
      case measure => simp [intOf]; omega
    · obtain rfl : i = l.out.length := by omega
      have ii : ¬ (l.out.length : Int) < (l.out.length : Int) := by omega
      obtain ⟨wA, rfl⟩ : ∃ z : World, z = wr := ⟨_, rfl⟩
      go_upto_region 15 with fail
      clear y0 y1
      have CL : Hid ((setR m).length = cs.length) := L5.out.symm
      go_loopw [20] (fun iv wr => ∃ i : Nat, i ≤ (setR m).length ∧ iv = .int .i64 i ∧ Hid (SpI w12 rl wr)) (fun iv _ => (setR m).length - (intOf iv).toNat)
      case atStart => exact ⟨0, Nat.zero_le _, rfl, hS.out⟩
      case round =>
        clear hS X8r
        obtain ⟨i, hi, rfl, hS⟩ := hrel
        have sl15 : Hid ((setR m).length ≤ 100) := by
          show _ ≤ _
          unfold setR
          split
          · rename_i h; have h1 := setL_len m; have h2 := (chk_good h).le; have h3 : m.out.length * (m.out.length - 1) ≤ 6 * 5 := Nat.mul_le_mul h2 (by omega); omega
          · simp
        have sl16 := sl15.out
        by_cases hlt : i < (setR m).length
        · obtain ⟨ra, hra, hoa⟩ := K6.out i hlt
          have O1 := hid (hS.out.row SP0.out K5.out)
          obtain ⟨gA, pA, eA, -, -, -, -, hcA⟩ := own_open O1.out (by omega)
          injection eA with eA _ ec
          subst eA ec
          have c1 := (hcA i (by omega)).trans hra
          have MA1 : Hid (ra ∈ rl) := by show _ ∈ _; rw [RL.out]; simp only [List.mem_append]; exact .inl (.inr (List.mem_of_getElem? hra))
          have ii : (i : Int) < ((setR m).length : Int) := by omega
          clear hcA hra hoa
          go_wp2_with fail
          refine (spoil_sp x ra wr (hS.out.sp ra MA1.out)).mono ?_
          rintro e w13 ⟨rfl, hg13⟩
          have S13 := hid (hS.out.step MA1.out hg13)
          clear hg13 c1
          go_wp2_with fail
          go_roundw
          case rel => exact ⟨i + 1, by omega, by go_num, S13⟩
          case measure => simp [intOf]; omega
        · obtain rfl : i = (setR m).length := by omega
          have MA1 : Hid (Value.slice Aa zs.length ca ∈ rl) := by show _ ∈ _; rw [RL.out]; simp
          go_wp2_with fail
          refine (spoil_sp x _ wr (hS.out.sp _ MA1.out)).mono ?_
          rintro e w15 ⟨rfl, hg15⟩
          have S15 := hid (hS.out.step MA1.out hg15)
          clear hg15 hS
          have P15 := hid (S15.out.below (B := w4.heap.size) (by omega) fun r hr b hb => ((ROW.out r hr).2 b hb).1)
          have Q15 := hid (Q12.out.trans P15.out)
          have s15 := P15.out.size
          have WAS15 : Hid (RowsIn (fun b => b < w15.heap.size) w15 (.slice Aw l.out.length cw) l.out) := (WAS.out.keep (w' := w15) fun b hb => S15.out.keep b hb.2 fun r hr e => by have := ((ROW.out r hr).2 b e).2; have := hb.1; omega).more fun b hb => by have := hb.2; omega
          have B15 := hid (B4.out.trans (Q15.out.mono (by have := B4.out.size; omega)))
          have X75 := hid (Has.below X7.out Q15.out (Has.lt X7.out))
          have XM5 := hid (Has.below XM4.out Q15.out (Has.lt XM4.out))
          have M75 := hid ((M7.out.keep (Same.of_below Q15.out fun b h => h)).more (F' := fun b => b < w15.heap.size) fun b h => by omega)
          have VM5 := hid ((VM4.out.keep (Same.of_below Q15.out fun b h => h)).more (F' := fun b => b < w15.heap.size) fun b h => by omega)
          have y0 := (Has.cell X75.out 0).trans rfl
          have y1 := (Has.cell X75.out 1).trans rfl
          have y2 := (Has.cell XM5.out 0).trans rfl
          have y3 := (Has.cell XM5.out 1).trans rfl
          go_wp2_with fail
          refine (samach_any m m (fun b => b < w15.heap.size) _ _ w15 (fun b h => h) M75.out VM5.out).mono ?_
          rintro e w16 ⟨rfl, hb16⟩
          have HD : decide (m.out = m.out ∧ m.next = m.next) = true := by simp
          rw [HD]
          have P16 := hid hb16
          have s16 := hb16.size
          have B16 := hid (B15.out.trans (hb16.mono (by have := B15.out.size; omega)))
          have XM6 := hid (Has.below XM5.out hb16 (Has.lt XM5.out))
          have VM6 := hid ((VM5.out.keep (Same.of_below hb16 fun b h => h)).more (F' := fun b => b < w16.heap.size) fun b h => by omega)
          have WAS16 := hid ((WAS15.out.keep (w' := w16) fun b hb => hb16.block b hb).more (F' := fun b => b < w16.heap.size) fun b hb => by omega)
          clear hb16 HD y0 y1 y2 y3
          have y2 := (Has.cell XM6.out 0).trans rfl
          have y3 := (Has.cell XM6.out 1).trans rfl
          go_wp2_with fail
          refine (least_all m (fun b => b < w16.heap.size) _ w16 (fun b h => h) VM6.out).mono ?_
          rintro e w17 ⟨o2, n2, l2, rfl, hl2, hml2, hb17, -⟩
          have EL : Hid (l2 = l) := LstR.one hl2 LR.out
          have s17 := hb17.size
          have B17 := hid (B16.out.trans (hb17.mono (by have := B16.out.size; omega)))
          have XM7 := hid (Has.below XM6.out hb17 (Has.lt XM6.out))
          have VM7 := hid ((VM6.out.keep (Same.of_below hb17 fun b h => h)).more (F' := fun b => b < w17.heap.size) fun b h => by omega)
          have WAS17 := hid ((WAS16.out.keep (w' := w17) fun b hb => hb17.block b hb).more (F' := fun b => b < w17.heap.size) fun b hb => by omega)
          rw [EL.out] at hml2
          obtain ⟨oo, nn, e9, hr9, hr10⟩ := hml2
          injection e9 with e9
          have e10 := congrArg Array.toList e9
          simp at e10
          obtain ⟨rfl, rfl⟩ := e10
          have R17 := hid (hr9.more (F' := fun b => b < w17.heap.size) fun b hb => hb.2)
          obtain ⟨Ak, ck, rfl, -, -⟩ := hr9
          obtain ⟨Aj, cj, rfl, -, -⟩ := hr10
          clear hl2 hb17 y2 y3 e9
          obtain ⟨w18, hw18⟩ : ∃ z, z = w17.alloc (.cells #[.slice Ak l.out.length ck, .slice Aj l.next.length cj] 24) := ⟨_, rfl⟩
          obtain ⟨bk, hbk⟩ : ∃ b, b = w17.heap.size := ⟨_, rfl⟩
          have S18 : Hid (w18.heap.size = w17.heap.size + 1) := by show _ = _; rw [hw18]; simp
          have P18 : Hid (Below w17.heap.size w17 w18) := by show Below _ _ _; rw [hw18]; exact (Below.refl _ _).alloc (Nat.le_refl _) _
          have XK : Hid (w18.heap[bk]? = some (.cells #[.slice Ak l.out.length ck, .slice Aj l.next.length cj] 24 (0, 0))) := by show _ = _; rw [hw18, hbk]; exact Has.new w17 _
          have B18 := hid (B17.out.trans (P18.out.mono (by have := B17.out.size; omega)))
          have XM8 := hid (Has.below XM7.out P18.out (Has.lt XM7.out))
          have VM8 := hid ((VM7.out.keep (Same.of_below P18.out fun b h => h)).more (F' := fun b => b < w18.heap.size) fun b h => by have := S18.out; omega)
          have WAS18 := hid ((WAS17.out.keep (w' := w18) fun b hb => P18.out.block b hb).more (F' := fun b => b < w18.heap.size) fun b hb => by have := S18.out; omega)
          have R18 := hid ((R17.out.keep (w' := w18) fun b hb => P18.out.block b hb).more (F' := fun b => b < w18.heap.size) fun b hb => by have := S18.out; omega)
          have y0 := (Has.cell XK.out 0).trans rfl
          go_upto_region 21 with fail
          rw [← hw18, ← hbk]
          clear hw18 hbk
          go_wp2_with fail
          refine (rows_any l.out l.out (fun b => b < w18.heap.size) _ _ w18 R18.out WAS18.out).mono ?_
          rintro e w19 ⟨rfl, q19, rfl⟩
          have HD : decide (l.out = l.out) = true := by simp
          rw [HD]
          clear HD y0
          have P19 : Hid (Below w18.heap.size w18 (w18.drewN q19)) := below_drewN (Below.refl _ _) q19
          generalize w18.drewN q19 = w19 at *
          have s19 := P19.out.size
          have B19 := hid (B18.out.trans (P19.out.mono (by have := B18.out.size; omega)))
          have XM9 := hid (Has.below XM8.out P19.out (Has.lt XM8.out))
          have VM9 := hid ((VM8.out.keep (Same.of_below P19.out fun b h => h)).more (F' := fun b => b < w19.heap.size) fun b h => by omega)
          have y2 := (Has.cell XM9.out 0).trans rfl
          have y3 := (Has.cell XM9.out 1).trans rfl
          go_wp2_with fail
          refine (set_all m (fun b => b < w19.heap.size) _ w19 (fun b h => h) VM9.out).mono ?_
          rintro e w20 ⟨tv, ct, rfl, hto, -, hb20⟩
          have B20 := hid (B19.out.trans (hb20.mono (by have := B19.out.size; omega)))
          obtain ⟨At, ct2, rfl, -, -⟩ := own_slice1 hto
          clear hto hb20 y2 y3
          go_wp2_with fail
          refine (stold_any (chk m) (chk m) w20 (Laid.below HL.out B20.out)).mono ?_
          rintro e w21 ⟨rfl, hb21⟩
          have HD : decide (chk m = chk m) = true := by simp
          rw [HD]
          have B21 := hid (B20.out.trans (hb21.mono (by have := B20.out.size; omega)))
          clear hb21 HD
          go_wp2_with fail
          refine (stold_any (chk m) (chk m) w21 (Laid.below HL.out B21.out)).mono ?_
          rintro e w22 ⟨rfl, hb22⟩
          have HD : decide (chk m = chk m) = true := by simp
          rw [HD]
          have B22 := hid (B21.out.trans (hb22.mono (by have := B21.out.size; omega)))
          clear hb22 HD
          by_cases hf : runFault m 0 ws = 0
          · have EZ := AF.out hf
            rw [hf, errV_ok]
            rw [EZ]
            clear hf EZ
            go_wp2_with fail
            go_ret
            exact ⟨rfl, B22.out⟩
          · rw [errV_no hf]
            clear hf
            go_wp2_with fail
            go_ret
            exact ⟨rfl, B22.out⟩
end Go.Proofs.YtkcggmhllijgcaaDoor
