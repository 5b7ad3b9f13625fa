/- The law LearnAll: it returns true, and all that the call was given reads as before. No conditions. -/
import Derived.Test.YtkcggmhllijgcaaLqy
import Derived.Test.YtkcggmhllijgcaaSam
import Derived.Test.YtkcggmhllijgcaaBad
namespace Go.Proofs.Ytkcggmhllijgcaa
open Go.RowKit Go.Deep
def LawPost (W : World) (e : Ending) (w' : World) : Prop := e = .returned (.bool true) ∧ Below W.heap.size W w'
theorem below_gr {W w w' : World} {r : Option Nat} (h : Below W.heap.size W w) (hg : w.grownBy w' r) (hr : ∀ b, r = some b → W.heap.size ≤ b) : Below W.heap.size W w' :=
  ⟨hg.os.trans h.os, hg.tape.trans h.tape, hg.output.trans h.output, Nat.le_trans h.size hg.size, fun b hb => (hg.block b (by have := h.size; omega) (fun e => by have := hr b e.symm; omega)).trans (h.block b hb)⟩
set_option maxRecDepth 100000 in
set_option maxHeartbeats 4000000 in
theorem learnAll_walk (m : MachD) (v : Value) (W : World) (hv : MachIn (fun b => b < W.heap.size) W v m) :
    Calls Try.prog 4 #[v] W (LawPost W) := by
  have HV := hid hv
  obtain ⟨o', n', rfl, ⟨A1, c1, rfl, _, hrow⟩, ⟨A2, c2, rfl, _, _⟩⟩ := hv
  have HROW := hid hrow
  obtain ⟨w1, hw1⟩ : ∃ w1, w1 = W.alloc (.cells #[.slice A1 m.out.length c1, .slice A2 m.next.length c2] 24) := ⟨_, rfl⟩
  obtain ⟨bm, hbm⟩ : ∃ bm, bm = W.heap.size := ⟨_, rfl⟩
  have HBM := hid hbm
  have s1 : w1.heap.size = W.heap.size + 1 := by rw [hw1]; simp
  have B1 : Hid (Below W.heap.size W w1) := by show Below _ _ _; rw [hw1]; exact (Below.refl _ _).alloc (Nat.le_refl _) _
  have X1 : Hid (w1.heap[bm]? = some (.cells #[.slice A1 m.out.length c1, .slice A2 m.next.length c2] 24 (0, 0))) := by show _ = _; rw [hw1, hbm]; exact Has.new W _
  have x0 := (Has.cell X1.out 0).trans rfl
  have x1 := (Has.cell X1.out 1).trans rfl
  have V1 : Hid (MachIn (fun b => b < W.heap.size) w1 (.agg #[.slice A1 m.out.length c1, .slice A2 m.next.length c2]) m) := HV.out.keep (Same.of_below B1.out fun b h => h)
  clear hrow
  by_cases hc : chk m = 0
  · have GM := hid (chk_good hc)
    have g1 := GM.out.pos
    have i1 := GM.out.ins1
    have i3 := GM.out.ins3
    clear hc
    go_enter Try.func4, Try.ntmps4
    go_upto_region 1 with fail
    rw [← hw1, ← hbm]
    clear hw1 hbm
    go_wp2_with fail
    refine (least_ok m (fun b => b < W.heap.size) _ w1 (fun b h => by omega) V1.out GM.out).mono ?_
    rintro e w2 ⟨v2, cc, l, rfl, hco, hld, hm2, hb2⟩
    have CO := hid hco
    have LD := hid hld
    have s2 := hb2.size
    have B2 := hid (B1.out.trans (hb2.mono (by omega)))
    have X2 := hid (Has.below X1.out hb2 (Has.lt X1.out))
    have L2 := hid hm2
    obtain ⟨oo, nn, rfl, ⟨A3, c3, rfl, -, -⟩, ⟨A4, c4, rfl, -, -⟩⟩ := hm2
    clear hco hld hb2 x0 x1
    -- boxes: the least machine, the count
    obtain ⟨w3, hw3⟩ : ∃ w3, w3 = w2.alloc (.cells #[.slice A3 l.out.length c3, .slice A4 l.next.length c4] 24) := ⟨_, rfl⟩
    obtain ⟨w4, hw4⟩ : ∃ w4, w4 = w3.alloc (.cells #[.int .i64 0] 3) := ⟨_, rfl⟩
    obtain ⟨bl, hbl⟩ : ∃ bl, bl = w2.heap.size := ⟨_, rfl⟩
    obtain ⟨bA, hbA⟩ : ∃ bA, bA = w2.heap.size + 1 := ⟨_, rfl⟩
    have HS : Hid (bl = w2.heap.size ∧ bA = w2.heap.size + 1 ∧ w3.heap.size = w2.heap.size + 1 ∧ w4.heap.size = w2.heap.size + 2) := by
      show _ ∧ _
      refine ⟨hbl, hbA, by rw [hw3]; simp, by rw [hw4, hw3]; simp⟩
    have Q24 : Hid (Below w2.heap.size w2 w4) := by
      show Below _ _ _
      rw [hw4, hw3]; exact ((Below.refl _ _).alloc (Nat.le_refl _) _).alloc (by simp) _
    have XA4 : Hid (w4.heap[bA]? = some (.cells #[.int .i64 0] 3 (0, 0))) := by show _ = _; rw [hw4]; exact Has.newAt _ _ (by have := HS.out; omega)
    have XL4 : Hid (w4.heap[bl]? = some (.cells #[.slice A3 l.out.length c3, .slice A4 l.next.length c4] 24 (0, 0))) := by show _ = _; rw [hw4, hw3, hbl]; exact Has.alloc (Has.new w2 _) _
    have X4 := hid (Has.below X2.out Q24.out (Has.lt X2.out))
    have B4 := hid (B2.out.trans (Q24.out.mono (by omega)))
    have V4 : Hid (MachIn (fun b => b < w4.heap.size ∧ b ≠ bA) w4 (.agg #[.slice A1 m.out.length c1, .slice A2 m.next.length c2]) m) := (HV.out.keep (Same.of_below B4.out fun b h => h)).more fun b h => ⟨by have := HS.out; omega, by have := HS.out; omega⟩
    have R4 : Hid (RA m bA bm w4.heap.size (.slice A1 m.out.length c1) (.slice A2 m.next.length c2) 0 w4) := ⟨⟨0, XA4.out, fun _ => rfl⟩, X4.out, V4.out⟩
    obtain ⟨b0, f0, rfl, hb0, k0⟩ := HROW.out g1
    obtain ⟨r0, q0, hr0⟩ := k0 0 g1
    have R0 := hid hr0
    have q4 := (B4.out.cell (p := ⟨b0, f0 + 0, none⟩) hb0).trans q0
    obtain ⟨A0, c0, rfl, -, -, -⟩ := hr0
    have x40 := (Has.cell X4.out 0).trans rfl
    have hA9 : bA < w4.heap.size := by have := HS.out; omega
    have hm9 : bm < w4.heap.size := by have := HS.out; have := HBM.out; omega
    have hne9 : bm ≠ bA := by have := HS.out; have := HBM.out; omega
    have IN : Hid ((rowAt m.out 0).length = ins m) := rfl
    rw [IN.out] at q4
    rw [Nat.add_zero] at q4
    obtain ⟨n, hn⟩ : ∃ n, n = ins m := ⟨_, rfl⟩
    have HN := hid hn
    rw [← hn] at q4 i1 i3
    have HTO := hid (fun k => tells_ok GM.out (bA := bA) (bm := bm) (B0 := w4.heap.size) (o := .slice (some ⟨b0, f0, none⟩) m.out.length c1) (nx := .slice A2 m.next.length c2) hA9 hm9 k)
    have HWO := hid (wrong_ok GM.out (bA := bA) (bm := bm) (B0 := w4.heap.size) (o := .slice (some ⟨b0, f0, none⟩) m.out.length c1) (nx := .slice A2 m.next.length c2) hA9 hm9 hne9)
    have hRU := hid (ruleM GM.out)
    rw [← hn] at HTO HWO hRU
    clear q0 k0 hn
    go_upto_region 5 with fail
    rw [← hw3, ← hbl, ← hw4]
    have e1 : bl + 1 = bA := by rw [hbA, hbl]
    rw [e1]
    clear e1 hbA hbl hw3 hw4
    go_wp2_with fail
    refine (learn_any HTO.out HWO.out hRU.out i1 i3 w4 R4.out (Nat.le_refl _)).mono ?_
    rintro e w5 ⟨a, heads, tails, r', c5, l5, v5, s, hI, ht, hC, hco5, hld5, hW, ha1, ha7, rfl, hv5, hg5, hR5, -, -⟩
    have LE : Hid (l5 = l ∧ a ≤ l.out.length) := by
      rw [HN.out] at ht hC hco5 hld5
      exact learnt GM.out hI ht hC hco5 hld5 hW CO.out LD.out
    have LA := LE.out.2
    have hA1 := hid ha1
    have B5 := hid (below_gr B4.out hg5 fun b e => by injection e with e; have := HS.out; omega)
    have XL5 := hid ((gr_block hg5 (b := bl) (by have := HS.out; omega) (fun e => by injection e with e; have := HS.out; omega)).trans XL4.out)
    have XM5 := hid (hR5.x)
    have VL5 : Hid (MachIn (fun b => b < w5.heap.size) w5 v5 l) := by
      have := hv5.more (F' := fun b => b < w5.heap.size) fun b h => h.2
      rw [LE.out.1] at this
      exact this
    have L5 : Hid (MachIn (fun b => b < w5.heap.size) w5 (.agg #[.slice A3 l.out.length c3, .slice A4 l.next.length c4]) l) := by
      refine (L2.out.keep (w' := w5) fun b hb => ?_).more fun b hb => ?_
      · exact (gr_block hg5 (by have := HS.out; have := hb.2; omega) (fun e => by injection e with e; have := HS.out; have := hb.2; omega)).trans (Q24.out.block b hb.2)
      · have := HS.out; have := hb.2; have := hg5.size; omega
    obtain ⟨x, hxa, hxk⟩ := hR5.a
    obtain rfl : x = (a : Int) := hxk (by omega)
    have XA5 := hid hxa
    have s5 : w4.heap.size ≤ w5.heap.size := hg5.size
    obtain ⟨o5, n5, rfl, ⟨A5, c6, rfl, -, -⟩, ⟨A6, c7, rfl, -, -⟩⟩ := hv5
    clear hI ht hC hco5 hld5 hW hg5 hR5 hxa hxk ha7 HTO HWO hRU q4 x40
    obtain ⟨w6, hw6⟩ : ∃ w6, w6 = w5.alloc (.cells #[.slice A5 l5.out.length c6, .slice A6 l5.next.length c7] 24) := ⟨_, rfl⟩
    obtain ⟨br, hbr⟩ : ∃ br, br = w5.heap.size := ⟨_, rfl⟩
    have s6 : w6.heap.size = w5.heap.size + 1 := by rw [hw6]; simp
    have Q56 : Hid (Below w5.heap.size w5 w6) := by
      show Below _ _ _
      rw [hw6]; exact (Below.refl _ _).alloc (Nat.le_refl _) _
    have XR6 : Hid (w6.heap[br]? = some (.cells #[.slice A5 l5.out.length c6, .slice A6 l5.next.length c7] 24 (0, 0))) := by show _ = _; rw [hw6, hbr]; exact Has.new w5 _
    have XL6 := hid (Has.below XL5.out Q56.out (Has.lt XL5.out))
    have B6 := hid (B5.out.trans (Q56.out.mono (by have := B5.out.size; omega)))
    have VL6 := hid ((VL5.out.keep (Same.of_below Q56.out fun b h => h)).more (F' := fun b => b < w6.heap.size) fun b h => by omega)
    have L6 := hid ((L5.out.keep (Same.of_below Q56.out fun b h => h)).more (F' := fun b => b < w6.heap.size) fun b h => by omega)
    have xr0 := (Has.cell XR6.out 0).trans rfl
    have xr1 := (Has.cell XR6.out 1).trans rfl
    have xl0 := (Has.cell XL6.out 0).trans rfl
    have xl1 := (Has.cell XL6.out 1).trans rfl
    go_upto_region 6 with fail
    rw [← hw6, ← hbr]
    clear hw6 hbr
    go_wp2_with fail
    refine (samach_any l l (fun b => b < w6.heap.size) _ _ w6 (fun b h => h) VL6.out L6.out).mono ?_
    rintro e w7 ⟨rfl, hb7⟩
    have HD : decide (l.out = l.out ∧ l.next = l.next) = true := by simp
    rw [HD]
    have B7 := hid (B6.out.trans (hb7.mono (by have := B6.out.size; omega)))
    have XA7 := hid (Has.below (Has.below XA5.out Q56.out (Has.lt XA5.out)) hb7 (by have := Has.lt XA5.out; omega))
    have XL7 := hid (Has.below XL6.out hb7 (Has.lt XL6.out))
    have xa0 := (Has.cell XA7.out 0).trans rfl
    have xl70 := (Has.cell XL7.out 0).trans rfl
    clear hb7 HD xr0 xr1 xl0 xl1
    have ga : (1 : Int) ≤ (a : Int) := by have := hA1.out; omega
    have gl : (a : Int) ≤ (l.out.length : Int) := by omega
    go_wp2_with fail
    go_ret
    exact ⟨rfl, B7.out⟩
  · have HC := hid hc
    go_enter Try.func4, Try.ntmps4
    go_upto_region 1 with fail
    rw [← hw1, ← hbm]
    clear hw1 hbm
    go_wp2_with fail
    refine (least_bad m (fun b => b < W.heap.size) _ w1 (fun b h => by omega) V1.out HC.out).mono ?_
    rintro e w2 ⟨rfl, hb2⟩
    have B2 := hid (B1.out.trans (hb2.mono (by omega)))
    have s2 := hb2.size
    clear hb2 hc
    go_wp2_with fail
    refine (lit_any _).mono ?_
    rintro e w3 ⟨rfl, hb3⟩
    have B3 := hid ((B2.out.alloc (by have := B2.out.size; omega) _).trans (hb3.mono (by have := B2.out.size; simp; omega)))
    go_wp2_with fail
    go_ret
    exact ⟨rfl, B3.out⟩
end Go.Proofs.Ytkcggmhllijgcaa
