/- The law HadaOwn: it returns true, and all that the call was given reads as before. Condition: errors.errorType holds its handle. -/
import Derived.Test.YtcnhccpoakldnaaDoorHtb
import Derived.Test.YtcnhccpoakldnaaDoorHbk
import Derived.Test.YtcnhccpoakldnaaDoorIna
import Derived.Test.YtcnhccpoakldnaaDoorAst
import Derived.Deep.RegionHeld3
namespace Go.Proofs.YtcnhccpoakldnaaDoor
open Go.RowKit Go.Deep
def LawPost (W : World) (e : Ending) (w' : World) : Prop := e = .returned (.bool true) ∧ Below W.heap.size W w'
theorem TabInv.keep {B n i : Nat} {v : Value} {w w' : World} (h : TabInv B n i v w) (hs : Same (fun b => B ≤ b ∧ b < w.heap.size) w w') : TabInv B n i v w' := by
  obtain ⟨cs, G, C, o1, o2, o3⟩ := h.ex
  refine ⟨cs, G, C, own_keep o1 fun k hk => hs k ⟨own_ge o1 k hk, own_lt o1 k hk⟩, fun j hj => ?_, o3⟩
  obtain ⟨ys, q1, q2, q3, q4, q5⟩ := o2 j hj
  exact ⟨ys, q1, q2, own_keep q3 fun k hk => hs k ⟨own_ge q3 k hk, own_lt q3 k hk⟩, q4, q5⟩
theorem ints_two {w : World} {b c : Nat} {x y : Int} (h0 : w.cell? ⟨b, 0, none⟩ = some (.int .i64 x)) (h1 : w.cell? ⟨b, 1, none⟩ = some (.int .i64 y)) (hx : ∀ n ∈ [x, y], (Lit.int .i64 n).wf = true) (hc : 2 ≤ c ∧ c ≤ maxLen := by simp [maxLen]) : IntsIn .i64 (fun _ => True) w (.slice (some ⟨b, 0, none⟩) 2 c) [x, y] :=
  ⟨_, c, rfl, hc, hx, fun _ => ⟨b, 0, rfl, trivial, fun i hi => by
    match i, hi with
    | 0, _ => simpa using h0
    | 1, _ => simpa using h1⟩⟩
theorem fact_c : effC 0 ([7] : List Int).length = 0 := by decide
theorem fact_n : effN 0 ([7] : List Int).length = 1 := by decide
set_option maxRecDepth 100000 in
set_option maxHeartbeats 2000000 in
theorem hadaOwn_walk (k : Int) (zs : List Int) (v : Value) (x : Int) (W : World) (hL : Laid W) (h : IntsIn .i64 (fun b => b < W.heap.size) W v zs) (hz : zs.length * 8 ≤ 140737488351232) :
    Calls Tryd.prog 3 #[.int .i64 k, v, .int .i64 x] W (LawPost W) := by
  have HL := hid hL
  have H := hid h
  have WF : Hid (∀ z ∈ zs, (Lit.int .i64 z).wf = true) := by obtain ⟨_, _, _, _, wf, _⟩ := h; exact wf
  obtain ⟨A, c, rfl, hm, _, _⟩ := h
  have HZ : zs.length ≤ 17592186043904 := by omega
  clear hL hm hz
  go_enter Tryd.func3, Tryd.ntmps3
  go_wp2_with fail
  refine (copy_any zs (fun b => b < W.heap.size) _ W (fun b h => h) H.out (by omega)).mono ?_
  rintro e w1 ⟨vo, rfl, hO, hb⟩
  have B1 := hid hb
  have s1 := hb.size
  have IO := hid (ints_of_own hO WF.out)
  clear hO hb
  go_wp2_with fail
  refine (effects_all k zs (fun b => W.heap.size ≤ b ∧ b < w1.heap.size) vo w1 (fun b h => h.2) IO.out).mono ?_
  rintro e w2 ⟨va, ya, rfl, hO, hya, hb⟩
  have P2 := hid hb
  have s2 := hb.size
  have OA2 := hid hO
  obtain ⟨Aa, ca, rfl, _, _⟩ := own_slice1 hO
  have HYA := hid hya
  have yal : ya.length ≤ 64 := by have := effN_le k zs.length; omega
  clear hO hb hya
  go_wp2_with fail
  refine (back_all k zs (fun b => W.heap.size ≤ b ∧ b < w1.heap.size) vo w2 (fun b h => by omega) (IO.out.keep (Same.of_below P2.out fun b h => h.2))).mono ?_
  rintro e w3 ⟨vb, yb, c2, rfl, hO, ybl, hc2, hb⟩
  have P3 := hid (P2.out.trans (hb.mono s2))
  have s3 := hb.size
  have OA3 := hid (own_below OA2.out hb)
  have OB3 := hid hO
  have HC2 := hid hc2
  clear hO hb hc2 P2
  generalize hc1 : effC k zs.length = c1 at *
  have HC1 := hid hc1
  clear hc1
  go_wp2_with fail
  refine (table_any k w3).mono ?_
  rintro e w4 ⟨vt, c3, rfl, hb, ht⟩
  have P4 := hid (P3.out.trans (hb.mono (by omega)))
  have s4 := hb.size
  have OA4 := hid (own_below OA3.out hb)
  have OB4 := hid (own_below OB3.out hb)
  have HT := hid ht
  clear hb ht P3 OA3
  go_wp2_with fail
  refine (effects_all 0 [7] (fun b => b = w4.heap.size) _ _ (fun b h => by subst h; simp) (ints1 rfl (by simp) (by decide))).mono ?_
  rintro e w5 ⟨vf, yf, rfl, hO, hyf, hb⟩
  obtain ⟨Af, cf, rfl, _, _⟩ := own_slice1 hO
  rw [fact_n] at hyf
  rw [hyf, fact_c, errV_0]
  have BB : Hid (Below w4.heap.size w4 w5) := ((Below.refl _ _).alloc (Nat.le_refl _) _).trans (hb.mono (by simp))
  have s5 := BB.out.size
  have P5 := hid (P4.out.trans (BB.out.mono (by omega)))
  have OA5 := hid (own_below OA4.out BB.out)
  have OB5 := hid (own_below OB4.out BB.out)
  clear hO hyf hb P4 OA4
  go_wp2_with fail
  refine (spoil_any x ya w1.heap.size _ w5 OA5.out (by omega)).mono ?_
  rintro e w6 ⟨rfl, _, hg⟩
  have s6 := hg.size
  have P6 := hid (P5.out.grown hg (by omega) (own_ge OA5.out))
  have G6 := hid hg
  have OB6 := hid (OB5.out.kept hg (own_apart' OA2.out OB5.out (Nat.le_refl _)))
  clear hg P5
  go_wp2_with fail
  refine (spoil_any x yb w2.heap.size _ w6 OB6.out (by omega)).mono ?_
  rintro e w7 ⟨rfl, _, hg⟩
  have s7 := hg.size
  have P7 := hid (P6.out.grown hg (by omega) fun k hk => by have := own_ge OB6.out k hk; omega)
  have ST : Hid (Same (fun b => w3.heap.size ≤ b ∧ b < w4.heap.size) w4 w7) := fun b hb => by
    have e1 := hg.block b (by omega) (fun e => by have := own_lt OB3.out b e.symm; omega)
    have e2 := G6.out.block b (by omega) (fun e => by have := own_lt OA2.out b e.symm; omega)
    exact e1.trans (e2.trans (BB.out.block b hb.2))
  clear hg P6 G6 OB6 OB5 OB4 OA5 BB
  have IO7 := hid (IO.out.keep (Same.of_below P7.out fun b h => h.2))
  have IL7 := hid (H.out.keep (Same.of_below (B1.out.trans (P7.out.mono s1)) fun b h => h))
  go_wp2_with fail
  refine (ints_any zs zs (fun b => b < w1.heap.size) vo _ w7 (IO7.out.more fun b h => h.2) (IL7.out.more fun b h => by omega)).mono ?_
  rintro e w8 ⟨rfl, q, rfl⟩
  rw [show decide (zs = zs) = true from decide_eq_true rfl]
  have P8 : Hid (Below w1.heap.size w1 (w7.drewN q)) := below_drewN P7.out q
  have ST8 : Hid (Same (fun b => w3.heap.size ≤ b ∧ b < w4.heap.size) w4 (w7.drewN q)) := ST.out
  have s8 : w7.heap.size ≤ (w7.drewN q).heap.size := Nat.le_refl _
  clear IO7 IL7 P7 ST
  generalize w7.drewN q = w8 at *
  have VT : ∃ At nt ct, vt = .slice At nt ct ∧ nt ≤ 64 := by
    rcases HT.out with ⟨_, _, rfl⟩ | ⟨_, h1, h2, h3⟩
    · exact ⟨_, _, _, rfl, by omega⟩
    · obtain ⟨_, _, _, o1, _⟩ := h3.ex
      obtain ⟨At, ct, e, _⟩ := own_slice1 o1
      exact ⟨At, _, ct, e, Nat.le_trans (Nat.pow_le_pow_right (by omega) (show k.toNat ≤ 6 by omega)) (by decide)⟩
  obtain ⟨At, nt, ct, rfl, nt64⟩ := VT
  go_upto_if 56 with fail
  go_cut [] (fun wx => Hid (Below w1.heap.size w1 wx))
  case first =>
    by_cases hnt : 1 < nt
    · have T0 : Hid (TabInv w3.heap.size nt nt (.slice At nt ct) w8 ∧ nt = 2 ^ k.toNat) := by
        rcases HT.out with ⟨_, _, e⟩ | ⟨_, h1, h2, h3⟩
        · injection e with _ e _; omega
        · obtain ⟨_, _, _, o1, _⟩ := h3.ex
          obtain ⟨At', ct', e, _⟩ := own_slice1 o1
          injection e with _ e _
          rw [e]
          exact ⟨by rw [← e] at h3 ⊢; exact h3.keep ST8.out, rfl⟩
      obtain ⟨cs, G, C, o1, o2, o3⟩ := T0.out.1.ex
      obtain ⟨y0, q1, q2, q3, _, q5⟩ := o2 0 (by omega)
      obtain ⟨y1, r1, r2, r3, r4, r5⟩ := o2 1 (by omega)
      have r6 := r4 rfl
      have G01 := o3 0 1 (by omega) (by omega)
      obtain ⟨gt, cgt, et, gt1, gt2, _, _, _⟩ := own_open o1 (by omega)
      injection et with et1 _ et3
      subst et1 et3
      have hy1 : ∃ tl, y1 = 1 :: -1 :: tl := by
        match y1, r6 with
        | [], h => simp at h
        | [a], h => have := h.2 (by omega); simp at this
        | a :: b :: tl, h =>
          have h1 := h.1
          have h2 := h.2 (by omega)
          simp at h1 h2
          exact ⟨tl, by rw [h1, h2]⟩
      obtain ⟨tl, rfl⟩ := hy1
      have n1 : decide ((1 : Int) < (nt : Int)) = true := by simp; omega
      have n2 : decide (1 < nt) = true := by simp; omega
      have n3 : (0 : Int) < (nt : Int) := by omega
      have n4 : (1 : Int) < (nt : Int) := by omega
      have k0 : w8.cell? ⟨gt, 0, none⟩ = some (.slice (some ⟨G 0, 0, none⟩) nt (C 0)) := (o1.cellAt 0 (by omega)).trans q1
      have K1 : Hid (w8.cell? ⟨gt, 1, none⟩ = some (.slice (some ⟨G 1, 0, none⟩) nt (C 1))) := (o1.cellAt 1 (by omega)).trans r1
      have Q3 := hid q3
      have R3 := hid r3
      have O1 := hid o1
      have Q2 := hid q2
      have R2 := hid r2
      have Q5 := hid q5
      have GG := hid G01
      clear o1 o2 o3 q1 q2 q3 q5 r1 r2 r3 r4 r5 r6 G01 T0
      go_wp2_with fail
      refine (spoil_at x y0 nt w3.heap.size _ w8 Q2.out Q3.out (by omega)).mono ?_
      rintro e w9 ⟨rfl, _, hg⟩
      have s9 := hg.size
      have P9 := hid (P8.out.grown hg (by omega) fun k hk => by have := own_ge Q3.out k hk; omega)
      have kk1 : w9.cell? ⟨gt, 1, none⟩ = some (.slice (some ⟨G 1, 0, none⟩) nt (C 1)) := hg.cell K1.out (fun e => Q5.out (by simpa [Value.ownBlock] using e))
      have c0 : w8.cell? ⟨G 1, 0, none⟩ = some (.int .i64 1) := (R3.out.cellAt 0 (by omega)).trans rfl
      have c1' : w8.cell? ⟨G 1, 1, none⟩ = some (.int .i64 (-1)) := (R3.out.cellAt 1 (by omega)).trans rfl
      have kc0 : w9.cell? ⟨G 1, 0, none⟩ = some (.int .i64 1) := hg.cell c0 (fun e => GG.out (by simp [Value.ownBlock] at e; exact e.symm))
      have kc1 : w9.cell? ⟨G 1, 1, none⟩ = some (.int .i64 (-1)) := hg.cell c1' (fun e => GG.out (by simp [Value.ownBlock] at e; exact e.symm))
      have lg1 := cell_lt kc0
      have lgt := cell_lt kk1
      simp only at lg1 lgt
      clear hg k0 c0 c1'
      have z1 : (nt = 0) = False := eq_false (by omega)
      have z2 : (0 < nt) = True := eq_true (by omega)
      have z3 : ((0 : Int) < (nt : Int)) = True := eq_true (by omega)
      have z4 : ((1 : Int) < (nt : Int)) = True := eq_true (by omega)
      have z5 : (1 < nt) = True := eq_true (by omega)
      clear n1 n2 n3 n4 hnt
      go_upto_region 11 with fail
      go_region_held3 (fun w' => w'.cell? ⟨gt, 1, none⟩ = some (.slice (some ⟨G 1, 0, none⟩) nt (C 1)) ∧ w'.cell? ⟨G 1, 0, none⟩ = some (.int .i64 1) ∧ w'.cell? ⟨G 1, 1, none⟩ = some (.int .i64 (-1)))
        (first | go_keep | exact ⟨kk1, kc0, kc1⟩)
        (first
          | (go_at_call 9; refine (ints_any [1, -1] [1, -1] (fun _ => True) _ _ _ (ints_two (by simp) (by simp) (by decide)) (ints_two (by simp) (by simp) (by decide))).mono ?_; rintro e w10 ⟨rfl, q2, rfl⟩; rw [show decide (([1, -1] : List Int) = [1, -1]) = true from rfl]))
      all_goals
        go_wp2_with fail
        go_meet
        exact below_drewN ((P9.out.alloc (by omega) _).alloc (by simp; omega) _) _
    · rcases (show nt = 0 ∨ nt = 1 by omega) with h0 | h0
      · subst h0
        clear hnt
        go_wp2_with fail
        go_meet
        exact P8
      · subst h0
        clear hnt
        go_wp2_with fail
        go_meet
        exact P8
  case rest =>
  have P9 := hid hcut.out
  obtain ⟨w9, rfl⟩ : ∃ w9 : World, w9 = wc := ⟨_, rfl⟩
  have s9 := P9.out.size
  clear P8 ST8 hcut
  go_wp2_with fail
  have BW := hid (B1.out.trans (P9.out.mono s1))
  refine (effects_all k zs (fun b => b < W.heap.size) _ w9 (fun b h => by omega) (H.out.keep (Same.of_below BW.out fun b h => h))).mono ?_
  rintro e w10 ⟨vc, yc, rfl, hO, hyc, hb⟩
  obtain ⟨Ac, cc, rfl, _, _⟩ := own_slice1 hO
  have YY : yc.length = ya.length := by rw [hyc, HYA.out]
  rw [YY, HC1.out]
  have B10 := hid (BW.out.trans (hb.mono (by omega)))
  clear hO hyc hb YY
  go_wp2_with fail
  refine (stold_any c1 c1 w10 (HL.out.below B10.out)).mono ?_
  rintro e w11 ⟨rfl, hb⟩
  rw [show decide (c1 = c1) = true from decide_eq_true rfl]
  have B11 := hid (B10.out.trans (hb.mono B10.out.size))
  clear hb B10
  rcases HT.out with ⟨h3, hk, _⟩ | ⟨h3, _⟩
  · have h1 : c1 ≠ 0 := by rw [← HC1.out]; unfold effC; rw [if_pos hk]; decide
    rw [errV_no h3, errV_no h1, errV_no (HC2.out h1)]
    clear h3 hk h1
    go_wp2_with fail
    go_ret
    exact ⟨rfl, B11.out⟩
  · rw [h3, errV_0]
    clear h3
    go_wp2_with fail
    go_ret
    exact ⟨rfl, B11.out⟩
end Go.Proofs.YtcnhccpoakldnaaDoor
