/- The law TopKnown: it returns true, and all that the call was given reads as before. No conditions. -/
import Derived.Test.YtkcggmhllijgcaaTkm
import Derived.Test.YtkcggmhllijgcaaBad
namespace Go.Proofs.Ytkcggmhllijgcaa
open Go.RowKit Go.Deep
def LawPost (W : World) (e : Ending) (w' : World) : Prop := e = .returned (.bool true) ∧ Below W.heap.size W w'
set_option maxRecDepth 100000 in
set_option maxHeartbeats 4000000 in
theorem topKnown_walk (m : MachD) (v : Value) (x : Int) (W : World) (hv : MachIn (fun b => b < W.heap.size) W v m) :
    Calls Try.prog 3 #[v, .int .i64 x] W (LawPost W) := by
  have HV := hid hv
  obtain ⟨o', n', rfl, ⟨A1, c1, rfl, _, hrow⟩, ⟨A2, c2, rfl, _, _⟩⟩ := hv
  have HROW := hid hrow
  obtain ⟨w1, hw1⟩ : ∃ w1, w1 = W.alloc (.cells #[.slice A1 m.out.length c1, .slice A2 m.next.length c2] 24) := ⟨_, rfl⟩
  obtain ⟨bm, hbm⟩ : ∃ bm, bm = W.heap.size := ⟨_, rfl⟩
  have HBM := hid hbm
  have s1 : w1.heap.size = W.heap.size + 1 := by rw [hw1]; simp
  have B1 : Hid (Below W.heap.size W w1) := by show Below _ _ _; rw [hw1]; exact (Below.refl _ _).alloc (Nat.le_refl _) _
  have X1 : Hid (w1.heap[bm]? = some (.cells #[.slice A1 m.out.length c1, .slice A2 m.next.length c2] 24 (0, 0))) := by show _ = _; rw [hw1, hbm]; exact Has.new W _
  have x0 := (Has.cell X1.out 0).trans rfl
  have x1 := (Has.cell X1.out 1).trans rfl
  have V1 : Hid (MachIn (fun b => b < W.heap.size) w1 (.agg #[.slice A1 m.out.length c1, .slice A2 m.next.length c2]) m) := HV.out.keep (Same.of_below B1.out fun b h => h)
  clear hrow
  by_cases hc : chk m = 0
  · have GM := hid (chk_good hc)
    have g1 : 0 < m.out.length := GM.out.pos
    have i1 := GM.out.ins1
    have i3 := GM.out.ins3
    clear hc
    go_enter Try.func3, Try.ntmps3
    go_upto_region 1 with fail
    rw [← hw1, ← hbm]
    clear hw1 hbm
    go_wp2_with fail
    refine (least_ok m (fun b => b < W.heap.size) _ w1 (fun b h => by omega) V1.out GM.out).mono ?_
    rintro e w2 ⟨v2, cc, l, rfl, hco, hld, hm2, hb2⟩
    have CO := hid hco
    have LD := hid hld
    have s2 := hb2.size
    have B2 := hid (B1.out.trans (hb2.mono (by omega)))
    have X2 := hid (Has.below X1.out hb2 (Has.lt X1.out))
    have L2 := hid hm2
    obtain ⟨oo, nn, rfl, ⟨A3, c3, rfl, -, -⟩, ⟨A4, c4, rfl, -, -⟩⟩ := hm2
    clear hco hld hb2 x0 x1
    obtain ⟨w3, hw3⟩ : ∃ w3, w3 = w2.alloc (.cells #[.slice A3 l.out.length c3, .slice A4 l.next.length c4] 24) := ⟨_, rfl⟩
    obtain ⟨bl, hbl⟩ : ∃ bl, bl = w2.heap.size := ⟨_, rfl⟩
    have HS : Hid (bl = w2.heap.size ∧ w3.heap.size = w2.heap.size + 1) := by show _ ∧ _; exact ⟨hbl, by rw [hw3]; simp⟩
    have Q23 : Hid (Below w2.heap.size w2 w3) := by show Below _ _ _; rw [hw3]; exact (Below.refl _ _).alloc (Nat.le_refl _) _
    have XL3 : Hid (w3.heap[bl]? = some (.cells #[.slice A3 l.out.length c3, .slice A4 l.next.length c4] 24 (0, 0))) := by show _ = _; rw [hw3, hbl]; exact Has.new w2 _
    have B3 := hid (B2.out.trans (Q23.out.mono (by omega)))
    go_upto_region 2 with fail
    rw [← hw3, ← hbl]
    clear hw3 hbl
    obtain ⟨w7, hw7⟩ : ∃ w7, w7 = (((w3.alloc (.cells #[.int .i64 7] 3)).alloc (.cells #[.slice (some ⟨w3.heap.size, 0, none⟩) 1 1] 29)).alloc (.cells #[.int .i64 0] 3)).alloc (.cells #[.slice (some ⟨w3.heap.size + 1 + 1, 0, none⟩) 1 1] 29) := ⟨_, rfl⟩
    have FM := hid (fact_in hw7)
    have s7 : w7.heap.size = w3.heap.size + 4 := by rw [hw7]; simp
    have Q37 : Hid (Below w3.heap.size w3 w7) := by show Below _ _ _; rw [hw7]; exact ((((Below.refl _ _).alloc (Nat.le_refl _) _).alloc (by simp) _).alloc (by simp; omega) _).alloc (by simp; omega) _
    obtain ⟨w8, hw8⟩ : ∃ w8, w8 = w7.alloc (.cells #[.int .i64 0] 3) := ⟨_, rfl⟩
    have s8 : w8.heap.size = w7.heap.size + 1 := by rw [hw8]; simp
    have Q78 : Hid (Below w7.heap.size w7 w8) := by show Below _ _ _; rw [hw8]; exact (Below.refl _ _).alloc (Nat.le_refl _) _
    have X8 : Hid (w8.heap[w3.heap.size + 1 + 1 + 1 + 1]? = some (.cells #[.int .i64 0] 3 (0, 0))) := by show _ = _; rw [hw8]; exact Has.newAt _ _ (by omega)
    have FM8 := hid ((FM.out.keep (Same.of_below Q78.out fun b h => h)).more (F' := fun b => b < w8.heap.size) fun b h => by omega)
    have I8 : Hid (IntsIn .i64 (fun b => b < w8.heap.size) w8 (.slice (some ⟨w3.heap.size + 1 + 1 + 1 + 1, 0, none⟩) 1 1) [0]) := ints1 (by omega) ((Has.cell X8.out 0).trans rfl) (by decide)
    have Q38 := hid (Q37.out.trans (Q78.out.mono (by omega)))
    go_wp2_with fail
    rw [← hw7, ← hw8]
    clear hw7 hw8
    refine (run_any factD 0 [0] (fun b => b < w8.heap.size) _ _ w8 (fun b h => h) FM8.out I8.out (by decide)).mono ?_
    rintro e w9 ⟨-, h2, hb9⟩
    obtain ⟨u, rfl, hu⟩ := h2 fact_run
    have hul : ∃ A c, u = .slice A 1 c := by
      obtain ⟨A, c, e, -, -⟩ := hu
      exact ⟨A, c, e⟩
    obtain ⟨A9, c9, rfl⟩ := hul
    have Q39 := hid (Q38.out.trans (hb9.mono (by omega)))
    have s9 := hb9.size
    clear hu h2 hb9
    -- the machine's boxes at w9
    have B9 := hid (B3.out.trans (Q39.out.mono (by have := B3.out.size; omega)))
    have Q29 := hid (Q23.out.trans (Q39.out.mono (by have := HS.out; omega)))
    have X9 := hid (Has.below X2.out Q29.out (Has.lt X2.out))
    have XL9 := hid (Has.below XL3.out Q39.out (Has.lt XL3.out))
    have V9 : Hid (MachIn (fun b => b < w9.heap.size) w9 (.agg #[.slice A1 m.out.length c1, .slice A2 m.next.length c2]) m) := (HV.out.keep (Same.of_below B9.out fun b h => h)).more fun b h => by have := B9.out.size; omega
    have L9 : Hid (MachIn (fun b => b < w9.heap.size) w9 (.agg #[.slice A3 l.out.length c3, .slice A4 l.next.length c4]) l) := (L2.out.keep (w' := w9) fun b hb => Q29.out.block b hb.2).more fun b h => by have := h.2; have := Q29.out.size; omega
    obtain ⟨b0, f0, rfl, hb0, k0⟩ := HROW.out g1
    obtain ⟨r0, q0, hr0⟩ := k0 0 g1
    have q9 := (B9.out.cell (p := ⟨b0, f0 + 0, none⟩) hb0).trans q0
    obtain ⟨A0, c0, rfl, -, -, -⟩ := hr0
    have IN : Hid ((rowAt m.out 0).length = ins m) := rfl
    rw [IN.out] at q9
    rw [Nat.add_zero] at q9
    obtain ⟨n, hn⟩ : ∃ n, n = ins m := ⟨_, rfl⟩
    have HN := hid hn
    rw [← hn] at q9 i1 i3
    have R9 : Hid (MA m bm w9.heap.size (.slice (some ⟨b0, f0, none⟩) m.out.length c1) (.slice A2 m.next.length c2) w9) := ⟨X9.out, V9.out⟩
    have HTO := hid (tellS_ok GM.out (bm := bm) (B0 := w9.heap.size) (o := .slice (some ⟨b0, f0, none⟩) m.out.length c1) (nx := .slice A2 m.next.length c2) (Has.lt X9.out))
    have HWO := hid (wrongS_ok GM.out (bm := bm) (B0 := w9.heap.size) (o := .slice (some ⟨b0, f0, none⟩) m.out.length c1) (nx := .slice A2 m.next.length c2) (Has.lt X9.out))
    have hRU := hid (ruleM GM.out)
    rw [← hn] at HTO HWO hRU
    have xm0 := (Has.cell X9.out 0).trans rfl
    clear q0 k0 hn
    go_wp2_with fail
    refine (learn_any (fun _ => HTO.out) HWO.out hRU.out i1 i3 w9 R9.out (Nat.le_refl _)).mono ?_
    rintro e w10 ⟨a, heads, tails, r', c5, l5, v5, s, hI, ht, hC, hco5, hld5, hW, ha1, ha7, rfl, hv5, hg5, hR5, -, -⟩
    have LE : Hid (l5 = l) := by
      rw [HN.out] at ht hC hco5 hld5
      exact (learnt GM.out hI ht hC hco5 hld5 hW CO.out LD.out).1
    have LP : Hid (Good l ∧ ins l = ins m ∧ XEqv m 0 l 0) := by
      have := least_props GM.out CO.out LD.out
      exact ⟨this.1, this.2.1, this.2.2.1⟩
    have G10 : Hid (Below w9.heap.size w9 w10) := ⟨hg5.os, hg5.tape, hg5.output, hg5.size, fun b hb => hg5.block b hb (fun e => by cases e)⟩
    have V10 := hid hv5
    obtain ⟨o5, n5, rfl, ⟨A5, c6, rfl, -, -⟩, ⟨A7, c7, rfl, -, -⟩⟩ := hv5
    clear hI ht hC hco5 hld5 hW hg5 hR5 ha1 ha7 HTO HWO hRU q9 xm0
    have s10 := G10.out.size
    obtain ⟨w11, hw11⟩ : ∃ w11, w11 = w10.alloc (.cells #[.slice A5 l5.out.length c6, .slice A7 l5.next.length c7] 24) := ⟨_, rfl⟩
    obtain ⟨b8, hb8⟩ : ∃ b, b = w10.heap.size := ⟨_, rfl⟩
    have S11 : Hid (b8 = w10.heap.size ∧ w11.heap.size = w10.heap.size + 1) := by show _ ∧ _; exact ⟨hb8, by rw [hw11]; simp⟩
    have Q1011 : Hid (Below w10.heap.size w10 w11) := by show Below _ _ _; rw [hw11]; exact (Below.refl _ _).alloc (Nat.le_refl _) _
    have XH11 : Hid (w11.heap[b8]? = some (.cells #[.slice A5 l5.out.length c6, .slice A7 l5.next.length c7] 24 (0, 0))) := by show _ = _; rw [hw11, hb8]; exact Has.new w10 _
    have Q911 := hid (G10.out.trans (Q1011.out.mono (by omega)))
    have s11 := Q911.out.size
    have XL11 := hid (Has.below XL9.out Q911.out (Has.lt XL9.out))
    have X11 := hid (Has.below X9.out Q911.out (Has.lt X9.out))
    have B11 := hid (B9.out.trans (Q911.out.mono (by have := B9.out.size; omega)))
    have V11 := hid ((V9.out.keep (Same.of_below Q911.out fun b h => h)).more (F' := fun b => b < w11.heap.size) fun b h => by omega)
    have L11 := hid ((L9.out.keep (Same.of_below Q911.out fun b h => h)).more (F' := fun b => b < w11.heap.size) fun b h => by omega)
    have H11 : Hid (MachIn (fun b => b < w11.heap.size) w11 (.agg #[.slice A5 l5.out.length c6, .slice A7 l5.next.length c7]) l5) := (V10.out.keep (w' := w11) fun b hb => Q1011.out.block b hb.2).more fun b hb => by have := hb.2; have := S11.out; omega
    have xl0 := (Has.cell XL11.out 0).trans rfl
    have xl1 := (Has.cell XL11.out 1).trans rfl
    go_upto_region 8 with fail
    rw [← hw11, ← hb8]
    clear hw11 hb8
    by_cases hx : 0 ≤ x ∧ x ≤ 2
    · obtain ⟨e0, rfl⟩ : ∃ e : Nat, x = e := ⟨x.toNat, by omega⟩
      have he : e0 ≤ 2 := by omega
      have HE := hid he
      clear hx
      go_wp2_with fail
      refine (suite_ok l e0 (fun b => b < w11.heap.size) _ w11 (fun b h => h) L11.out LP.out.1 he).mono ?_
      rintro e w12 ⟨r12, seen, reach, rfl, hRe, hr12, hb12⟩
      have SW : Hid (∀ w ∈ suiteL l e0 reach, word l w ∧ w.length ≤ 19) := fun w h => by
        have := suite_word LP.out.1 hRe h
        exact ⟨this.1, by have := HE.out; omega⟩
      have Q12 := hid hb12
      have s12 := hb12.size
      have R12 := hid (hr12.more (F' := fun b => b < w12.heap.size) fun b hb => hb.2)
      have L12 := hid ((L11.out.keep (Same.of_below Q12.out fun b h => h)).more (F' := fun b => b < w12.heap.size) fun b h => by omega)
      have V12 := hid ((V11.out.keep (Same.of_below Q12.out fun b h => h)).more (F' := fun b => b < w12.heap.size) fun b h => by omega)
      have H12 := hid ((H11.out.keep (Same.of_below Q12.out fun b h => h)).more (F' := fun b => b < w12.heap.size) fun b h => by omega)
      have XL12 := hid (Has.below XL11.out Q12.out (Has.lt XL11.out))
      have X12 := hid (Has.below X11.out Q12.out (Has.lt X11.out))
      have XH12 := hid (Has.below XH11.out Q12.out (Has.lt XH11.out))
      have y0 := (Has.cell XL12.out 0).trans rfl
      have y1 := (Has.cell XL12.out 1).trans rfl
      have y2 := (Has.cell XH12.out 0).trans rfl
      have y3 := (Has.cell XH12.out 1).trans rfl
      have PA : Hid (passFault l l5 (suiteL l e0 reach) = 0 ∧ passB l l5 (suiteL l e0 reach) = true) := by
        show _ ∧ _
        rw [LE.out]
        exact pass_same LP.out.1 LP.out.1 rfl (fun w h => (SW.out w h).1) (fun _ _ => rfl)
      have PB : Hid (passFault m l (suiteL l e0 reach) = 0 ∧ passB m l (suiteL l e0 reach) = true) := by
        have hw : ∀ w ∈ suiteL l e0 reach, word m w := fun w h y hy => by
          have := (SW.out w h).1 y hy
          unfold letter at *
          rw [← LP.out.2.1]; exact this
        exact pass_same GM.out LP.out.1 LP.out.2.1.symm hw (fun w h => LP.out.2.2 w (hw w h))
      obtain ⟨A12, c12, rfl, -, -⟩ := hr12
      clear hb12 hRe xl0 xl1
      go_wp2_with fail
      refine (passes_one l l5 (suiteL l e0 reach) (fun b => b < w12.heap.size) _ _ _ w12 (fun b h => h) L12.out H12.out R12.out (fun w h => by have := (SW.out w h).2; omega)).mono ?_
      rintro e w13 ⟨rfl, hb13⟩
      rw [PA.out.1, PA.out.2, errV_ok]
      have Q13 := hid hb13
      have s13 := hb13.size
      have L13 := hid ((L12.out.keep (Same.of_below Q13.out fun b h => h)).more (F' := fun b => b < w13.heap.size) fun b h => by omega)
      have V13 := hid ((V12.out.keep (Same.of_below Q13.out fun b h => h)).more (F' := fun b => b < w13.heap.size) fun b h => by omega)
      have R13 := hid ((R12.out.keep (w' := w13) fun b hb => Q13.out.block b hb).more (F' := fun b => b < w13.heap.size) fun b h => by omega)
      have XL13 := hid (Has.below XL12.out Q13.out (Has.lt XL12.out))
      have X13 := hid (Has.below X12.out Q13.out (Has.lt X12.out))
      clear hb13 y0 y1 y2 y3
      have y0 := (Has.cell XL13.out 0).trans rfl
      have y1 := (Has.cell XL13.out 1).trans rfl
      have y2 := (Has.cell X13.out 0).trans rfl
      have y3 := (Has.cell X13.out 1).trans rfl
      go_wp2_with fail
      refine (passes_one m l (suiteL l e0 reach) (fun b => b < w13.heap.size) _ _ _ w13 (fun b h => h) V13.out L13.out R13.out (fun w h => by have := (SW.out w h).2; omega)).mono ?_
      rintro e w14 ⟨rfl, hb14⟩
      rw [PB.out.1, PB.out.2, errV_ok]
      have B14 := hid (B11.out.trans ((Q12.out.trans (Q13.out.trans (hb14.mono s13) |>.mono s12)).mono (by have := B11.out.size; omega)))
      clear hb14 y0 y1 y2 y3
      go_wp2_with fail
      go_ret
      exact ⟨rfl, B14.out⟩
    · have hx' : x < 0 ∨ 2 < x := by omega
      have HX := hid hx'
      clear hx hx'
      go_wp2_with fail
      refine (suite_range l x (fun b => b < w11.heap.size) _ w11 (fun b h => h) L11.out LP.out.1 HX.out).mono ?_
      rintro e w12 ⟨rfl, hb12⟩
      have B12 := hid (B11.out.trans (hb12.mono (by have := B11.out.size; omega)))
      clear hb12 xl0 xl1
      by_cases h0 : x < 0
      · go_wp2_with fail
        go_ret
        exact ⟨rfl, B12.out⟩
      · have h2 : 2 < x := by have := HX.out; omega
        have h3 : 0 ≤ x := by omega
        go_wp2_with fail
        go_ret
        exact ⟨rfl, B12.out⟩
  · have HC := hid hc
    go_enter Try.func3, Try.ntmps3
    go_upto_region 1 with fail
    rw [← hw1, ← hbm]
    clear hw1 hbm hc
    go_wp2_with fail
    refine (least_bad m (fun b => b < W.heap.size) _ w1 (fun b h => by omega) V1.out HC.out).mono ?_
    rintro e w2 ⟨rfl, hb2⟩
    have s2 := hb2.size
    have B2 := hid (B1.out.trans (hb2.mono (by omega)))
    clear hb2 x0 x1
    obtain ⟨w3, hw3⟩ : ∃ w3, w3 = w2.alloc (.cells #[.slice none 0 0, .slice none 0 0] 24) := ⟨_, rfl⟩
    obtain ⟨bl, hbl⟩ : ∃ bl, bl = w2.heap.size := ⟨_, rfl⟩
    have HS : Hid (bl = w2.heap.size ∧ w3.heap.size = w2.heap.size + 1) := by show _ ∧ _; exact ⟨hbl, by rw [hw3]; simp⟩
    have Q23 : Hid (Below w2.heap.size w2 w3) := by show Below _ _ _; rw [hw3]; exact (Below.refl _ _).alloc (Nat.le_refl _) _
    have XL3 : Hid (w3.heap[bl]? = some (.cells #[.slice none 0 0, .slice none 0 0] 24 (0, 0))) := by show _ = _; rw [hw3, hbl]; exact Has.new w2 _
    have B3 := hid (B2.out.trans (Q23.out.mono (by omega)))
    go_upto_region 2 with fail
    rw [← hw3, ← hbl]
    clear hw3 hbl
    obtain ⟨w7, hw7⟩ : ∃ w7, w7 = (((w3.alloc (.cells #[.int .i64 7] 3)).alloc (.cells #[.slice (some ⟨w3.heap.size, 0, none⟩) 1 1] 29)).alloc (.cells #[.int .i64 0] 3)).alloc (.cells #[.slice (some ⟨w3.heap.size + 1 + 1, 0, none⟩) 1 1] 29) := ⟨_, rfl⟩
    have FM := hid (fact_in hw7)
    have s7 : w7.heap.size = w3.heap.size + 4 := by rw [hw7]; simp
    have Q37 : Hid (Below w3.heap.size w3 w7) := by show Below _ _ _; rw [hw7]; exact ((((Below.refl _ _).alloc (Nat.le_refl _) _).alloc (by simp) _).alloc (by simp; omega) _).alloc (by simp; omega) _
    obtain ⟨w8, hw8⟩ : ∃ w8, w8 = w7.alloc (.cells #[.int .i64 0] 3) := ⟨_, rfl⟩
    have s8 : w8.heap.size = w7.heap.size + 1 := by rw [hw8]; simp
    have Q78 : Hid (Below w7.heap.size w7 w8) := by show Below _ _ _; rw [hw8]; exact (Below.refl _ _).alloc (Nat.le_refl _) _
    have X8 : Hid (w8.heap[w3.heap.size + 1 + 1 + 1 + 1]? = some (.cells #[.int .i64 0] 3 (0, 0))) := by show _ = _; rw [hw8]; exact Has.newAt _ _ (by omega)
    have FM8 := hid ((FM.out.keep (Same.of_below Q78.out fun b h => h)).more (F' := fun b => b < w8.heap.size) fun b h => by omega)
    have I8 : Hid (IntsIn .i64 (fun b => b < w8.heap.size) w8 (.slice (some ⟨w3.heap.size + 1 + 1 + 1 + 1, 0, none⟩) 1 1) [0]) := ints1 (by omega) ((Has.cell X8.out 0).trans rfl) (by decide)
    have Q38 := hid (Q37.out.trans (Q78.out.mono (by omega)))
    go_wp2_with fail
    rw [← hw7, ← hw8]
    clear hw7 hw8
    refine (run_any factD 0 [0] (fun b => b < w8.heap.size) _ _ w8 (fun b h => h) FM8.out I8.out (by decide)).mono ?_
    rintro e w9 ⟨-, h2, hb9⟩
    obtain ⟨u, rfl, hu⟩ := h2 fact_run
    have hul : ∃ A c, u = .slice A 1 c := by
      obtain ⟨A, c, e, -, -⟩ := hu
      exact ⟨A, c, e⟩
    obtain ⟨A9, c9, rfl⟩ := hul
    have Q39 := hid (Q38.out.trans (hb9.mono (by omega)))
    have XL9 := hid (Has.below XL3.out Q39.out (Has.lt XL3.out))
    have B9 := hid (B3.out.trans (Q39.out.mono (by have := B3.out.size; omega)))
    clear hu h2 hb9
    have y0 := (Has.cell XL9.out 0).trans rfl
    go_wp2_with fail
    go_ret
    exact ⟨rfl, B9.out⟩
end Go.Proofs.Ytkcggmhllijgcaa
