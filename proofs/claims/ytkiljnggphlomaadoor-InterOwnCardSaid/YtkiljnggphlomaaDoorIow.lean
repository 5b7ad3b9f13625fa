/- The law InterOwn: it returns true, and all that the call was given reads as before. Condition: errors.errorType holds its handle. -/
import Derived.Test.YtkiljnggphlomaaDoorItr
import Derived.Test.YtkiljnggphlomaaDoorIna
import Derived.Test.YtkiljnggphlomaaDoorSpo
import Derived.Test.YtkiljnggphlomaaDoorAst
namespace Go.Proofs.YtkiljnggphlomaaDoor
open Go.RowKit Go.Deep
def LawPost (W : World) (e : Ending) (w' : World) : Prop := e = .returned (.bool true) ∧ Below W.heap.size W w'
theorem firO_le (l : List Nat) (k : Nat) : firO l k ≤ l.length := by
  unfold firO
  cases h : (List.range l.length).find? (fun i => decide (k < upO l (i + 1))) with
  | none => simp
  | some i =>
    have := List.mem_of_find?_eq_some h
    simp at this
    simp; omega
theorem nthO_mem : ∀ (m : Nat) (l : List Nat) (k : Nat), ∀ z ∈ nthO m l k, 0 ≤ z ∧ z ≤ (l.length : Int)
  | 0, _, _, z, h => by simp [nthO] at h
  | m + 1, l, k, z, h => by
    simp only [nthO, List.mem_cons] at h
    rcases h with rfl | h
    · have := firO_le l k; omega
    · have := nthO_mem m _ _ z h
      rw [dec_len] at this; exact this
theorem nthOL_facts (lens : List Int) (k : Int) : (nthOL lens k).length ≤ 20 ∧ ∀ z ∈ nthOL lens k, (Lit.int .i64 z).wf = true := by
  unfold nthOL
  split
  · simp
  · rename_i h
    have h0 : interC lens = 0 := by
      unfold nthOC at h
      by_cases h1 : interC lens = 0
      · exact h1
      · rw [if_pos h1] at h; exact absurd h1 (by simpa using h)
    have ok := (interC_ok h0).1
    refine ⟨by rw [nthO_len]; exact ok.sum, fun z hz => ?_⟩
    have := nthO_mem _ _ _ z hz
    have := ok.len
    exact WalkArith.wf_i64 (by omega)
theorem fact_nil : interC [] = 0 ∧ cntO (([] : List Int).map Int.toNat) = 1 := by decide
set_option maxRecDepth 100000 in
set_option maxHeartbeats 4000000 in
theorem interOwn_walk (lens : List Int) (v : Value) (k : Int) (order : List Int) (u : Value) (x : Int) (W : World) (hL : Laid W) (hv : IntsIn .i64 (fun b => b < W.heap.size) W v lens) (hu : IntsIn .i64 (fun b => b < W.heap.size) W u order) (hz : lens.length * 8 ≤ 140737488351232) (hz2 : order.length * 8 ≤ 140737488351232) :
    Calls Tryd.prog 7 #[v, .int .i64 k, u, .int .i64 x] W (LawPost W) := by
  have HL := hid hL
  have HV := hid hv
  have HU := hid hu
  have WF : Hid (∀ z ∈ lens, (Lit.int .i64 z).wf = true) := by obtain ⟨_, _, _, _, h, _⟩ := hv; exact h
  have WF2 : Hid (∀ z ∈ order, (Lit.int .i64 z).wf = true) := by obtain ⟨_, _, _, _, h, _⟩ := hu; exact h
  have l1 : lens.length ≤ 17592186043904 := by omega
  have l2 : order.length ≤ 17592186043904 := by omega
  obtain ⟨A, c, rfl, _, _, _⟩ := hv
  obtain ⟨A', c', rfl, _, _, _⟩ := hu
  clear hL hz hz2
  obtain ⟨q, hq⟩ : ∃ q, q = nthOL lens k := ⟨_, rfl⟩
  have HQ := hid hq
  have QF := nthOL_facts lens k
  rw [← hq] at QF
  have q20 := QF.1
  have QW := hid QF.2
  obtain ⟨cN, hcN⟩ : ∃ cN, cN = nthOC lens k := ⟨_, rfl⟩
  have HCN := hid hcN
  obtain ⟨cR, hcR⟩ : ∃ cR, cR = rankOC lens order := ⟨_, rfl⟩
  have HCR := hid hcR
  clear hq hcN hcR QF
  go_enter Tryd.func7, Tryd.ntmps7
  go_wp2_with fail
  refine (copy_any lens (fun b => b < W.heap.size) _ W (fun b h => h) HV.out (by omega)).mono ?_
  rintro e w1 ⟨v1, rfl, hO, hb⟩
  have s1 := hb.size
  have B1 := hid hb
  have I1 := hid ((ints_of_own hO WF.out).more (F' := fun b => b < w1.heap.size) fun b h => h.2)
  obtain ⟨A1, c1, rfl, _, _⟩ := own_sl hO
  clear hO hb
  go_wp2_with fail
  refine (copy_any order (fun b => b < W.heap.size) _ w1 (fun b h => by omega) (HU.out.keep (Same.of_below B1.out fun b h => h)) (by omega)).mono ?_
  rintro e w2 ⟨v2, rfl, hO, hb⟩
  have s2 := hb.size
  have B2 := hid (B1.out.trans (hb.mono s1))
  have I2 := hid ((I1.out.keep (Same.of_below hb fun b h => h)).more (F' := fun b => b < w2.heap.size) fun b h => by omega)
  have J2 := hid ((ints_of_own hO WF2.out).more (F' := fun b => b < w2.heap.size) fun b h => h.2)
  obtain ⟨A2, c2, rfl, _, _⟩ := own_sl hO
  clear hO hb I1 B1
  go_wp2_with fail
  refine (inth_any lens k (fun b => b < w2.heap.size) _ w2 (fun b h => h) I2.out).mono ?_
  rintro e w3 ⟨hb, r3, rfl, hO⟩
  rw [← HQ.out] at hO
  rw [← HCN.out]
  have s3 := hb.size
  have P3 := hid hb
  have O3 := hid hO
  obtain ⟨A3, c3, rfl, _, _⟩ := own_sl hO
  clear hb hO
  go_wp2_with fail
  refine (irank_any lens order (fun b => b < w2.heap.size) _ _ w3 (fun b h => by omega) (I2.out.keep (Same.of_below P3.out fun b h => h)) (J2.out.keep (Same.of_below P3.out fun b h => h))).mono ?_
  rintro e w4 ⟨hb, r4, rfl⟩
  rw [← HCR.out]
  have P4 := hid (P3.out.trans (hb.mono s3))
  have O4 := hid (own_below O3.out hb)
  have s4 := P4.out.size
  clear hb P3 O3
  go_wp2_with fail
  refine (iCount_any [] (fun _ => False) _ w4 (fun b h => h.elim) IntsIn.nil_).mono ?_
  rintro e w5 ⟨rfl, rfl⟩
  rw [fact_nil.1, if_pos rfl, fact_nil.2, errV_0]
  go_wp2_with fail
  refine (ints_any lens lens (fun _ => True) _ _ w5 ((I2.out.keep (Same.of_below P4.out fun b h => h)).more fun _ _ => trivial) ((HV.out.keep (Same.of_below (B2.out.trans (P4.out.mono (by omega))) fun b h => h)).more fun _ _ => trivial)).mono ?_
  rintro e w6 ⟨rfl, n6, rfl⟩
  rw [show decide (lens = lens) = true from decide_eq_true rfl]
  have P6 := hid (below_drewN P4.out n6)
  have O6 := hid (own_below O4.out (below_drewN (Below.refl _ _) n6))
  have s6 : w2.heap.size ≤ (w5.drewN n6).heap.size := s4
  generalize w5.drewN n6 = w6 at *
  clear P4 O4 s4
  go_wp2_with fail
  refine (ints_any order order (fun _ => True) _ _ w6 ((J2.out.keep (Same.of_below P6.out fun b h => h)).more fun _ _ => trivial) ((HU.out.keep (Same.of_below (B2.out.trans (P6.out.mono (by omega))) fun b h => h)).more fun _ _ => trivial)).mono ?_
  rintro e w7 ⟨rfl, n7, rfl⟩
  rw [show decide (order = order) = true from decide_eq_true rfl]
  have P7 := hid (below_drewN P6.out n7)
  have O7 := hid (own_below O6.out (below_drewN (Below.refl _ _) n7))
  have s7 : w2.heap.size ≤ (w6.drewN n7).heap.size := s6
  generalize w6.drewN n7 = w7 at *
  clear P6 O6 s6
  have I7 := hid ((ints_of_own O7.out QW.out).more (F' := fun b => b < w7.heap.size) fun b h => h.2)
  go_wp2_with fail
  refine (copy_any q (fun b => b < w7.heap.size) _ w7 (fun b h => h) I7.out (by omega)).mono ?_
  rintro e w8 ⟨v8, rfl, hO, hb⟩
  have s8 := hb.size
  have P8 := hid (P7.out.trans (hb.mono s7))
  have O8 := hid (own_below O7.out hb)
  have LO7 := hid (own_lt O7.out)
  have V8 := hid (ints_of_own hO QW.out)
  obtain ⟨A8, c8, rfl, _, _⟩ := own_sl hO
  clear hO hb I7 P7
  go_wp2_with fail
  refine (spoil_any x q w2.heap.size _ w8 O8.out (by omega)).mono ?_
  rintro e w9 ⟨rfl, _, hg⟩
  have s9 := hg.size
  have P9 := hid (P8.out.grown hg (by omega) (own_ge O8.out))
  have V9 := hid (V8.out.keep (w' := w9) fun b hb => hg.block b hb.2 (fun e => by have := LO7.out b e.symm; omega))
  have B9 := hid (B2.out.trans (P9.out.mono (by omega)))
  clear hg P8 O8 V8 LO7 O7
  go_wp2_with fail
  refine (inth_any lens k (fun b => b < W.heap.size) _ w9 (fun b h => by have := B9.out.size; omega) (HV.out.keep (Same.of_below B9.out fun b h => h))).mono ?_
  rintro e w10 ⟨hb, r10, rfl, hO⟩
  rw [← HQ.out] at hO
  rw [← HCN.out]
  have s10 := hb.size
  have B10 := hid (B9.out.trans (hb.mono (by have := B9.out.size; omega)))
  have N10 := hid (ints_of_own hO QW.out)
  have V10 := hid (V9.out.keep (Same.of_below hb fun b h => by have := h.2; omega))
  obtain ⟨A10, c10, rfl, _, _⟩ := own_sl hO
  clear hb hO
  go_wp2_with fail
  refine (ints_any q q (fun _ => True) _ _ w10 (N10.out.more fun _ _ => trivial) (V10.out.more fun _ _ => trivial)).mono ?_
  rintro e w11 ⟨rfl, n11, rfl⟩
  rw [show decide (q = q) = true from decide_eq_true rfl]
  have B11 := hid (below_drewN B10.out n11)
  have s11 : w9.heap.size ≤ (w10.drewN n11).heap.size := s10
  generalize w10.drewN n11 = w11 at *
  clear B10
  go_wp2_with fail
  refine (stold_any cN cN w11 (HL.out.below B11.out)).mono ?_
  rintro e w12 ⟨rfl, hb⟩
  have B12 := hid (B11.out.trans (hb.mono (by have := B11.out.size; omega)))
  clear hb
  rw [show decide (cN = cN) = true from decide_eq_true rfl]
  go_wp2_with fail
  refine (irank_any lens order (fun b => b < W.heap.size) _ _ w12 (fun b h => by have := B12.out.size; omega) (HV.out.keep (Same.of_below B12.out fun b h => h)) (HU.out.keep (Same.of_below B12.out fun b h => h))).mono ?_
  rintro e w13 ⟨hb, r13, rfl⟩
  rw [← HCR.out]
  have B13 := hid (B12.out.trans (hb.mono (by have := B12.out.size; omega)))
  clear hb
  go_wp2_with fail
  refine (stold_any cR cR w13 (HL.out.below B13.out)).mono ?_
  rintro e w14 ⟨rfl, hb⟩
  have B14 := hid (B13.out.trans (hb.mono (by have := B13.out.size; omega)))
  clear hb
  rw [show decide (cR = cR) = true from decide_eq_true rfl]
  go_wp2_with fail
  go_ret
  exact ⟨rfl, B14.out⟩
end Go.Proofs.YtkiljnggphlomaaDoor
