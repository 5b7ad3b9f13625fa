/- The law LearnRange: it returns true, and all that the call was given reads as before. Condition: errors.errorType holds its handle. -/
import Derived.Test.YtkcggmhllijgcaaDoorLql
import Derived.Test.YtkcggmhllijgcaaDoorAs
import Derived.Lib.AppendZeros
namespace Go.Proofs.YtkcggmhllijgcaaDoor
open Go.RowKit Go.Deep
def LawPost (W : World) (e : Ending) (w' : World) : Prop := e = .returned (.bool true) ∧ Below W.heap.size W w'
theorem below_gr {W w w' : World} {r : Option Nat} (h : Below W.heap.size W w) (hg : w.grownBy w' r) (hr : ∀ b, r = some b → W.heap.size ≤ b) : Below W.heap.size W w' :=
  ⟨hg.os.trans h.os, hg.tape.trans h.tape, hg.output.trans h.output, Nat.le_trans h.size hg.size, fun b hb => (hg.block b (by have := h.size; omega) (fun e => by have := hr b e.symm; omega)).trans (h.block b hb)⟩
theorem enter_r1 : ∀ (args : Array Value) (w : World), Sem.run Tryd.prog (callFunc 8 args) w = .ok (.enter 8 args) w := fun _ _ => by kernel_rfl
theorem enter_r2 : ∀ (args : Array Value) (w : World), Sem.run Tryd.prog (callFunc 9 args) w = .ok (.enter 9 args) w := fun _ _ => by kernel_rfl
/-- the echo is a machine of one state -/
theorem echo_row (tails : List (List Int)) (h : List Int) : rowL (fun x => x) tails h = tails := by
  unfold rowL
  have : toldF (fun x => x) h = id := funext fun t => by simp [toldF]
  rw [this, List.map_id]
theorem ruleR (n : Nat) : Rule (fun x => x) (fun _ => none) n (fun a _ _ => a = 1) := by
  refine ⟨rfl, fun tails hs _ hh => ?_, fun a heads tails r c l t _ _ _ _ _ h => by cases h⟩
  rcases Nat.lt_or_ge 1 hs.length with h | h
  · exact absurd ((echo_row tails _).trans (echo_row tails _).symm) (hh.dis 0 1 (by omega) h)
  · omega
/-- what both hold: the box of the count -/
def RB (bA : Nat) (k : Nat) (w : World) : Prop := ∃ x : Int, w.heap[bA]? = some (.cells #[.int .i64 x] 3 (0, 0)) ∧ (k ≤ 1000000000 → x = (k : Int))
theorem RB.keep {bA B0 k : Nat} {w w' : World} (hA : bA < B0) (h : RB bA k w) (hk : ∀ b, b < B0 → w'.heap[b]? = w.heap[b]?) : RB bA k w' := by
  obtain ⟨x, h1, h2⟩ := h
  exact ⟨x, (hk _ hA).trans h1, h2⟩
set_option maxRecDepth 100000 in
set_option maxHeartbeats 2000000 in
theorem tells_ok {n bA B0 : Nat} (hA : bA < B0) (k : Nat) :
    TellsOk 8 #[.pointer (some ⟨bA, 0, none⟩)] (fun x => x) n (some bA) (fun s w => RB bA (k + s) w) B0 := by
  refine ⟨fun s w v ws hR hB hi hl _ => ?_, fun s w w' hR hk => hR.keep hA hk, enter_r1, fun b e => by injection e with e; omega, fun ws h => h⟩
  have HI := hid hi
  have WF := hid (hid hi).out
  obtain ⟨A, c, rfl, -, hwf, -⟩ := hi
  have HW := hid hwf
  obtain ⟨x, ha, hxk⟩ := hR
  have HXK := hid hxk
  have XA : Hid (w.heap[bA]? = some (.cells #[.int .i64 x] 3 (0, 0))) := ha
  have a0 := (Has.cell XA.out 0).trans rfl
  have fa0 := Has.froz XA.out 0
  obtain ⟨w2, hw2⟩ : ∃ w2, w2 = w.setCell ⟨bA, 0, none⟩ (.int .i64 (wrap64 (x + 1))) := ⟨_, rfl⟩
  have k2 : Hid (∀ b, b ≠ bA → w2.heap[b]? = w.heap[b]?) := fun b hb => by rw [hw2]; exact Below.heap_setCell w _ _ b hb
  have s2 : Hid (w2.heap.size = w.heap.size) := by show _ = _; rw [hw2]; simp
  have G2 : Hid (w.grownBy w2 (some bA)) := ⟨by rw [hw2]; rfl, by rw [hw2]; rfl, by rw [hw2]; rfl, by have := s2.out; omega, fun b _ hr => k2.out b (fun e => hr (by rw [e]))⟩
  have R2 : Hid (RB bA (k + (s + 1)) w2) := by
    refine ⟨wrap64 (x + 1), by rw [hw2, Has.set XA.out 0]; rfl, fun h => ?_⟩
    have := HXK.out (by omega)
    rw [this]; unfold wrap64; omega
  have I2 : Hid (IntsIn .i64 (Fx (some bA) w2) w2 (.slice A ws.length c) ws) := ints_gr HI.out G2.out
  obtain ⟨i0, hi0, hz0, hz1, hz2⟩ := info_parts infoInt
  have O0 := hid (World.ownsRow_lit (e := 3) (size := 1) (base := w2.heap.size) w2 #[] 0 (Nat.le_refl _) (by unfold maxLen; omega) rfl)
  have C0 := hid (I2.out.cells.keep (w' := w2.alloc (Obj.cells #[] 3)) (fun b hb => Below.heap_alloc _ _ _ hb.1))
  clear ha hxk hwf
  show Calls Tryd.prog 8 #[.slice A ws.length c, .pointer (some ⟨bA, 0, none⟩)] w _
  go_enter Tryd.func8, Tryd.ntmps8
  go_upto_region 2 with fail
  rw [← hw2]
  clear hw2 a0 fa0
  go_wp2_with (at_builtin; refine wpList_app _ rfl _ _ 29 rfl w2.heap.size 3 i0 (.int .i64 0) 1 8 Tryd.underlying29 hi0 hz0 hz1 hz2 rfl (by decide) _ 0 [] rfl O0.out _ _ ws.length _ rfl C0.out (ints_one _ _) (by unfold maxLen; omega) (by omega) (by simp) ?_; intro v1 w3 hown hgrow hat; have B3 : Below w2.heap.size w2 w3 := ((Below.refl _ _).alloc (Nat.le_refl _) _).grown hgrow (by simp) (own_ge O0.out); replace hown : w3.ownsRow w2.heap.size 3 1 v1 ws.length (ws.map (Value.int .i64)) := (by simpa using hown); clear hat)
  go_ret
  exact ⟨_, rfl, ints_own hown HW.out (fun b e => by have := s2.out; injection e with e; omega), G2.out.trans (gr_below B3 _), R2.out.keep hA fun b hb => B3.block b (by have := s2.out; omega)⟩
set_option maxRecDepth 100000 in
set_option maxHeartbeats 2000000 in
theorem wrong_ok {n bA B0 : Nat} (hA : bA < B0) :
    WrongOk 9 #[.pointer (some ⟨bA, 0, none⟩)] (fun _ => none) n (some bA) (fun k s w => RB bA (k + s) w) B0 := by
  refine ⟨fun k s w v l hR hB hv _ _ => ?_, enter_r2⟩
  obtain ⟨o', n', rfl, ⟨A3, c3, rfl, -, -⟩, ⟨A4, c4, rfl, -, -⟩⟩ := hv
  obtain ⟨x, ha, hxk⟩ := hR
  have HXK := hid hxk
  obtain ⟨w1, hw1⟩ : ∃ w1, w1 = w.alloc (.cells #[.slice A3 l.out.length c3, .slice A4 l.next.length c4] 24) := ⟨_, rfl⟩
  have s1 : w1.heap.size = w.heap.size + 1 := by rw [hw1]; simp
  have B1 : Hid (Below w.heap.size w w1) := by show Below _ _ _; rw [hw1]; exact (Below.refl _ _).alloc (Nat.le_refl _) _
  have XA : Hid (w1.heap[bA]? = some (.cells #[.int .i64 x] 3 (0, 0))) := Has.below ha B1.out (Has.lt ha)
  have a0 := (Has.cell XA.out 0).trans rfl
  have fa0 := Has.froz XA.out 0
  obtain ⟨w2, hw2⟩ : ∃ w2, w2 = w1.setCell ⟨bA, 0, none⟩ (.int .i64 (wrap64 (x + 1))) := ⟨_, rfl⟩
  have k2 : Hid (∀ b, b ≠ bA → w2.heap[b]? = w1.heap[b]?) := fun b hb => by rw [hw2]; exact Below.heap_setCell w1 _ _ b hb
  have s2 : w2.heap.size = w1.heap.size := by rw [hw2]; simp
  have G2 : Hid (w.grownBy w2 (some bA)) := by
    have b1 := B1.out
    exact ⟨by rw [hw2]; exact b1.os, by rw [hw2]; exact b1.tape, by rw [hw2]; exact b1.output, by omega, fun b hb hr => (k2.out b (fun e => hr (by rw [e]))).trans (b1.block b hb)⟩
  have R2 : Hid (RB bA (k + 1 + s) w2) := by
    refine ⟨wrap64 (x + 1), by rw [hw2, Has.set XA.out 0]; rfl, fun h => ?_⟩
    have := HXK.out (by omega)
    rw [this]; unfold wrap64; omega
  clear ha hxk
  show Calls Tryd.prog 9 #[.agg #[.slice A3 l.out.length c3, .slice A4 l.next.length c4], .pointer (some ⟨bA, 0, none⟩)] w _
  go_enter Tryd.func9, Tryd.ntmps9
  go_upto_region 1 with fail
  rw [← hw1]
  clear hw1
  go_upto_region 2 with fail
  rw [← hw2]
  clear hw2 a0 fa0
  go_wp2_with fail
  go_ret
  exact ⟨_, s, rfl, fun _ => rfl, fun t h => (by cases h), G2.out, Nat.le_refl _, by omega, R2.out⟩
/-- of no inputs, or of too many, nothing is asked -/
theorem learn_bad {x : Int} (hx : x < 1 ∨ 3 < x) (f g : Value) (w : World) :
    Calls Tryd.prog 7 #[.int .i64 x, f, g] w fun e w' => e = .returned (.tuple #[.agg #[.slice none 0 0, .slice none 0 0], .int .i64 0, errV 1]) ∧ Below w.heap.size w w' := by
  obtain ⟨W1, hW1⟩ : ∃ W1, W1 = w.alloc (.cells #[.slice none 0 0, .slice none 0 0] 24) := ⟨_, rfl⟩
  obtain ⟨rb, hrb⟩ : ∃ rb, rb = w.heap.size := ⟨_, rfl⟩
  have HRB := hid hrb
  have s1 : W1.heap.size = w.heap.size + 1 := by rw [hW1]; simp
  have B1 : Hid (Below w.heap.size w W1) := by show Below _ _ _; rw [hW1]; exact (Below.refl _ _).alloc (Nat.le_refl _) _
  have XR : Hid (W1.heap[rb]? = some (.cells #[.slice none 0 0, .slice none 0 0] 24 (0, 0))) := by show _ = _; rw [hW1, hrb]; exact Has.new w _
  have x0 := (Has.cell XR.out 0).trans rfl
  have x1 := (Has.cell XR.out 1).trans rfl
  have f0 := Has.froz XR.out 0
  have f1 := Has.froz XR.out 1
  have XS1 : Hid ((W1.setCell ⟨rb, 0, none⟩ (.slice none 0 0)).heap[rb]? = some (.cells #[.slice none 0 0, .slice none 0 0] 24 (0, 0))) := (Has.set XR.out 0 _).trans rfl
  have XS2 : Hid (((W1.setCell ⟨rb, 0, none⟩ (.slice none 0 0)).setCell ⟨rb, 1, none⟩ (.slice none 0 0)).heap[rb]? = some (.cells #[.slice none 0 0, .slice none 0 0] 24 (0, 0))) := (Has.set XS1.out 1 _).trans rfl
  have B2 : Hid (Below w.heap.size w ((W1.setCell ⟨rb, 0, none⟩ (.slice none 0 0)).setCell ⟨rb, 1, none⟩ (.slice none 0 0))) :=
    ⟨B1.out.os, B1.out.tape, B1.out.output, by simp; omega, fun b hb => ((Below.heap_setCell _ _ _ b (by show b ≠ rb; omega)).trans (Below.heap_setCell _ _ _ b (by show b ≠ rb; omega))).trans (B1.out.block b hb)⟩
  have y0 := (Has.cell XS2.out 0).trans rfl
  have y1 := (Has.cell XS2.out 1).trans rfl
  go_enter Tryd.func7, Tryd.ntmps7
  go_upto_region 1 with fail
  rw [← hW1, ← hrb]
  clear hW1 hrb
  by_cases h1 : x < 1
  · clear hx
    go_upto_region 2 with fail
    go_wp2_with fail
    refine bodyPost_ret (v := .tuple #[.agg #[.slice none 0 0, .slice none 0 0], .int .i64 0, errV 1]) (by simp [results, Tryd.results7, go_sem, y0, y1, errV]) rfl ⟨rfl, B2.out⟩
  · have h3 : 3 < x := by omega
    clear hx
    go_upto_region 2 with fail
    go_wp2_with fail
    refine bodyPost_ret (v := .tuple #[.agg #[.slice none 0 0, .slice none 0 0], .int .i64 0, errV 1]) (by simp [results, Tryd.results7, go_sem, y0, y1, errV]) rfl ⟨rfl, B2.out⟩
set_option maxRecDepth 100000 in
set_option maxHeartbeats 4000000 in
theorem learnRange_walk (x : Int) (W : World) (hL : Laid W) :
    Calls Tryd.prog 3 #[.int .i64 x] W (LawPost W) := by
  have HL := hid hL
  clear hL
  obtain ⟨w1, hw1⟩ : ∃ w1, w1 = W.alloc (.cells #[.int .i64 0] 3) := ⟨_, rfl⟩
  obtain ⟨bA, hbA⟩ : ∃ bA, bA = W.heap.size := ⟨_, rfl⟩
  have HBA := hid hbA
  have s1 : w1.heap.size = W.heap.size + 1 := by rw [hw1]; simp
  have B1 : Hid (Below W.heap.size W w1) := by show Below _ _ _; rw [hw1]; exact (Below.refl _ _).alloc (Nat.le_refl _) _
  have X1 : Hid (w1.heap[bA]? = some (.cells #[.int .i64 0] 3 (0, 0))) := by show _ = _; rw [hw1, hbA]; exact Has.new W _
  by_cases hx : x < 1 ∨ 3 < x
  · go_enter Tryd.func3, Tryd.ntmps3
    have HX := hid hx
    go_upto_region 2 with fail
    rw [← hw1, ← hbA]
    clear hw1 hbA hx
    go_wp2_with fail
    refine (learn_bad HX.out _ _ w1).mono ?_
    rintro e w2 ⟨rfl, hb2⟩
    have B2 := hid (B1.out.trans (hb2.mono (by omega)))
    have X2 := hid (Has.below X1.out hb2 (Has.lt X1.out))
    have s2 := hb2.size
    clear hb2
    obtain ⟨w3, hw3⟩ : ∃ w3, w3 = w2.alloc (.cells #[.slice none 0 0, .slice none 0 0] 24) := ⟨_, rfl⟩
    have B3 : Hid (Below W.heap.size W w3) := by show Below _ _ _; rw [hw3]; exact B2.out.alloc (by omega) _
    have X3 : Hid (w3.heap[bA]? = some (.cells #[.int .i64 0] 3 (0, 0))) := by show _ = _; rw [hw3]; exact Has.alloc X2.out _
    have xa0 := (Has.cell X3.out 0).trans rfl
    go_upto_region 3 with fail
    rw [← hw3]
    clear hw3
    by_cases h1 : x < 1
    · go_upto_region 4 with fail
      go_wp2_with fail
      refine (serror_any 1 1 w3 (HL.out.below B3.out)).mono ?_
      rintro e w4 ⟨rfl, hb4⟩
      rw [show decide ((1 : Int) = 1) = true from rfl]
      have B4 := hid (B3.out.trans (hb4.mono B3.out.size))
      have X4 := hid (Has.below X3.out hb4 (Has.lt X3.out))
      have xb0 := (Has.cell X4.out 0).trans rfl
      clear hb4 xa0
      go_wp2_with fail
      go_ret
      exact ⟨rfl, B4.out⟩
    · have h3 : 3 < x := by have := HX.out; omega
      go_upto_region 4 with fail
      go_wp2_with fail
      refine (serror_any 1 1 w3 (HL.out.below B3.out)).mono ?_
      rintro e w4 ⟨rfl, hb4⟩
      rw [show decide ((1 : Int) = 1) = true from rfl]
      have B4 := hid (B3.out.trans (hb4.mono B3.out.size))
      have X4 := hid (Has.below X3.out hb4 (Has.lt X3.out))
      have xb0 := (Has.cell X4.out 0).trans rfl
      clear hb4 xa0
      go_wp2_with fail
      go_ret
      exact ⟨rfl, B4.out⟩
  · obtain ⟨n, hn⟩ : ∃ n : Nat, x = (n : Int) := ⟨x.toNat, by omega⟩
    subst hn
    have n1 : 1 ≤ n := by omega
    have n3 : n ≤ 3 := by omega
    clear hx
    have R1 : Hid (RB bA (0 + 0) w1) := ⟨0, X1.out, fun _ => rfl⟩
    have hA9 : bA < w1.heap.size := by have := HBA.out; omega
    have HTO := hid (fun k => tells_ok (n := n) (bA := bA) (B0 := w1.heap.size) hA9 k)
    have HWO := hid (wrong_ok (n := n) (bA := bA) (B0 := w1.heap.size) hA9)
    go_enter Tryd.func3, Tryd.ntmps3
    go_upto_region 2 with fail
    rw [← hw1, ← hbA]
    clear hw1 hbA
    go_wp2_with fail
    refine (learn_any HTO.out HWO.out (ruleR n) n1 n3 w1 R1.out (Nat.le_refl _)).mono ?_
    rintro e w5 ⟨a, heads, tails, r', c5, l5, v5, s, hI, -, -, -, -, -, -, -, rfl, hv5, hg5, hRy, hs1, hs2⟩
    obtain ⟨y, hy, hyk⟩ := hRy
    have hI1 : a = 1 := hI
    clear hI
    subst hI1
    obtain rfl : y = ((1 + s : Nat) : Int) := hyk (by omega)
    obtain ⟨o5, n5, rfl, ⟨A5, c6, rfl, -, -⟩, ⟨A6, c7, rfl, -, -⟩⟩ := hv5
    have B5 := hid (below_gr B1.out hg5 fun b e => by injection e with e; have := HBA.out; omega)
    have s5 := hg5.size
    have X5 : Hid (w5.heap[bA]? = some (.cells #[.int .i64 ((1 + s : Nat) : Int)] 3 (0, 0))) := hy
    clear hg5 hy hyk HTO HWO
    obtain ⟨w6, hw6⟩ : ∃ w6, w6 = w5.alloc (.cells #[.slice A5 l5.out.length c6, .slice A6 l5.next.length c7] 24) := ⟨_, rfl⟩
    have B6 : Hid (Below W.heap.size W w6) := by show Below _ _ _; rw [hw6]; exact B5.out.alloc (by omega) _
    have X6 : Hid (w6.heap[bA]? = some (.cells #[.int .i64 ((1 + s : Nat) : Int)] 3 (0, 0))) := by show _ = _; rw [hw6]; exact Has.alloc X5.out _
    have xa0 := (Has.cell X6.out 0).trans rfl
    have g1 : ¬ ((n : Int) < 1) := by omega
    have g2 : ¬ ((3 : Int) < (n : Int)) := by omega
    have g3 : (1 : Int) < 1 + (s : Int) := by omega
    go_upto_region 3 with fail
    rw [← hw6]
    clear hw6 n1 n3
    go_wp2_with fail
    go_ret
    exact ⟨rfl, B6.out⟩
end Go.Proofs.YtkcggmhllijgcaaDoor
