/- The law PathOwn: it returns true, and all that the call was given reads as before. Condition: errors.errorType holds its handle. -/
import Derived.Test.YtkiljnggphlomaaDoorPnt
import Derived.Test.YtkiljnggphlomaaDoorEds
import Derived.Test.YtkiljnggphlomaaDoorIna
import Derived.Test.YtkiljnggphlomaaDoorSpo
import Derived.Test.YtkiljnggphlomaaDoorAst
namespace Go.Proofs.YtkiljnggphlomaaDoor
open Go.RowKit Go.Deep
def LawPost (W : World) (e : Ending) (w' : World) : Prop := e = .returned (.bool true) ∧ Below W.heap.size W w'
noncomputable def nthC (n : Int) (l : EdgeL) (k : Int) : Int := if pathC n l ≠ 0 then pathC n l else match madeF n.toNat l with | none => 0 | some s => if 0 ≤ k ∧ k < at0 s.pth 0 then 0 else 1
noncomputable def nthL (n : Int) (l : EdgeL) (k : Int) : List Int := if pathC n l ≠ 0 then [] else match madeF n.toNat l with | none => [] | some s => if 0 ≤ k ∧ k < at0 s.pth 0 then nthF s n.toNat 13 0 k [0] else []
theorem nth_said {W : World} {n : Int} {l : EdgeL} {k : Int} {e : Ending} {w' : World} (h : NthPost W n l k e w') : Below W.heap.size W w' ∧ ∃ v, e = .returned (.tuple #[v, errV (nthC n l k)]) ∧ w'.ownsRow W.heap.size 3 1 v (nthL n l k).length ((nthL n l k).map (Value.int .i64)) ∧ (nthL n l k).length ≤ 100 ∧ ∀ x ∈ nthL n l k, (Lit.int .i64 x).wf = true := by
  obtain ⟨hb, ⟨h0, rfl⟩ | ⟨h0, s, hm, ⟨hk, rfl⟩ | ⟨hk, v, rfl, ho, hl, hw⟩⟩⟩ := h
  · refine ⟨hb, _, by unfold nthC; rw [if_pos h0], ?_⟩
    have e : nthL n l k = [] := by unfold nthL; rw [if_pos h0]
    rw [e]
    exact ⟨World.ownsRow_nil _ _ _ _, by simp, by simp⟩
  · refine ⟨hb, _, by unfold nthC; rw [if_neg (fun e => e h0), hm]; simp only []; rw [if_neg hk], ?_⟩
    have e : nthL n l k = [] := by unfold nthL; rw [if_neg (fun e => e h0), hm]; simp only []; rw [if_neg hk]
    rw [e]
    exact ⟨World.ownsRow_nil _ _ _ _, by simp, by simp⟩
  · refine ⟨hb, v, by unfold nthC; rw [if_neg (fun e => e h0), hm]; simp only []; rw [if_pos hk]; rfl, ?_⟩
    have e : nthL n l k = nthF s n.toNat 13 0 k [0] := by unfold nthL; rw [if_neg (fun e => e h0), hm]; simp only []; rw [if_pos hk]
    rw [e]
    exact ⟨ho, hl, hw⟩
set_option maxRecDepth 100000 in
theorem one_count {W : World} {e : Ending} {w' : World} (h : CountPost W 1 [] e w') : Below W.heap.size W w' ∧ e = .returned (.tuple #[.int .i64 1, .nilIface]) := by
  have e0 : srt [] = [] := by unfold srt; simp
  have hm : madeF 1 [] = some ⟨[[]], [1], [false]⟩ := by
    have r0 : rowAt (ptgts [] 1) 0 = [] := rfl
    have e1 : enterS (s0P 1 []) 0 = ⟨[[]], [-1], [true]⟩ := by unfold enterS; rw [show (s0P 1 []).rows = ptgts [] 1 from rfl, r0, e0]; rfl
    have e2 : cntS 1 2 (s0P 1 []) 0 = some ⟨[[]], [1], [false]⟩ := by
      rw [cntS, if_neg (by decide), if_neg (by decide), show rowAt (s0P 1 []).rows 0 = [] from r0, e0, e1]
      rfl
    show (some (s0P 1 [])).bind (fun s' => cntS 1 2 s' 0) = _
    exact e2
  have h0 : pathC 1 [] = 0 := pathC_ok (s := ⟨[[]], [1], [false]⟩) (by decide) (by rintro ⟨i, hi, _⟩; simp at hi) hm
  obtain ⟨hb, ⟨h1, _⟩ | ⟨_, s', hm', rfl⟩⟩ := h
  · exact absurd h0 h1
  · have hm' : madeF 1 [] = some s' := hm'
    rw [hm] at hm'
    injection hm' with hm'
    subst hm'
    exact ⟨hb, rfl⟩
set_option maxRecDepth 100000 in
set_option maxHeartbeats 2000000 in
theorem pathOwn_walk (n : Int) (l : EdgeL) (v : Value) (k : Int) (x : Int) (W : World) (hL : Laid W) (_hn : (Lit.int .i64 n).wf = true) (hv : EdgesIn (fun b => b < W.heap.size) W v l) (hk : (Lit.int .i64 k).wf = true) (_hx : (Lit.int .i64 x).wf = true) (hz : l.length * 16 ≤ 140737488351232) :
    Calls Tryd.prog 8 #[.int .i64 n, v, .int .i64 k, .int .i64 x] W (LawPost W) := by
  have HL := hid hL
  have H := hid hv
  have HK := hid hk
  obtain ⟨A, c, rfl, hc, hwf, _⟩ := hv
  have WF := hid hwf
  unfold maxLen at hc
  have LN : l.length ≤ 8796093021952 := by omega
  clear hL hwf hz hk
  obtain ⟨i0, hi, hz0, hz1, hz2⟩ := info_parts infoEdge
  have O0 := hid (World.ownsRow_lit (e := 32) (size := 2) (base := W.heap.size) W #[] 0 (Nat.le_refl _) (by unfold maxLen; omega) rfl)
  have C0 := hid (H.out.cells.keep (w' := W.alloc (Obj.cells #[] 32)) (fun b hb => Below.heap_alloc _ _ _ hb))
  go_enter Tryd.func8, Tryd.ntmps8
  go_wp2_with (at_builtin; refine wpList_app _ rfl (.tmp 20) (.tmp 21) 22 rfl W.heap.size 32 i0 (.agg #[.int .i64 0, .int .i64 0]) 2 16 Tryd.underlying22 hi hz0 hz1 hz2 rfl (by decide) _ 0 [] rfl O0.out _ _ l.length _ rfl C0.out (ecells_one _) (by unfold maxLen; omega) (by omega) (by simp) ?_; intro v1 w1 hown hgrow hat; have B1 : Hid (Below W.heap.size W w1) := ((Below.refl _ _).alloc (Nat.le_refl _) _).grown hgrow (by simp) (own_ge O0.out); have O1 : Hid (w1.ownsRow W.heap.size 32 2 v1 l.length (ecells l)) := (by have := hown; rw [Nat.zero_add, List.nil_append] at this; exact this); clear hown hgrow hat)
  have s1 := B1.out.size
  have E1 := hid ((edges_of_own O1.out WF.out).more (F' := fun b => b < w1.heap.size) fun b h => h.2)
  obtain ⟨A3, c3, rfl, _, _⟩ := own_sl O1.out
  clear O1
  refine (pnth_any n l k (fun b => b < w1.heap.size) _ w1 (fun b h => h) E1.out HK.out).mono ?_
  intro e w2 hr
  obtain ⟨hb, v2, rfl, ho, hq, hw⟩ := nth_said hr
  obtain ⟨q, hQ⟩ : ∃ q, q = nthL n l k := ⟨_, rfl⟩
  obtain ⟨cc, hcc⟩ : ∃ cc, cc = nthC n l k := ⟨_, rfl⟩
  rw [← hQ] at ho hq hw
  have HQ := hid hQ
  have HC := hid hcc
  rw [← hcc]
  have QW := hid hw
  have s2 := hb.size
  have P2 := hid hb
  have O2 := hid ho
  obtain ⟨A4, c4, rfl, _, _⟩ := own_sl ho
  clear hr hb ho hQ hcc hw
  go_wp2_with fail
  refine (pcount_any 1 [] (fun _ => False) _ w2 (fun b h => h.elim) EdgesIn.nil_).mono ?_
  intro e w3 hr
  obtain ⟨hb, rfl⟩ := one_count hr
  have s3 := hb.size
  have s3' : w1.heap.size ≤ w3.heap.size := by omega
  have P3 := hid (P2.out.trans (hb.mono s2))
  have O3 := hid (own_below O2.out hb)
  clear hr hb P2 O2
  go_wp2_with fail
  refine (edges_any l l (fun _ => True) _ _ w3 ((E1.out.keep (Same.of_below P3.out fun b h => h)).more fun _ _ => trivial) ((H.out.keep (Same.of_below (B1.out.trans (P3.out.mono (by omega))) fun b h => h)).more fun _ _ => trivial)).mono ?_
  rintro e w4 ⟨rfl, n4, rfl⟩
  rw [show decide (l = l) = true from decide_eq_true rfl]
  have P4 := hid (below_drewN P3.out n4)
  have O4 := hid (own_below O3.out (below_drewN (Below.refl _ _) n4))
  have s4 : w1.heap.size ≤ (w3.drewN n4).heap.size := s3'
  generalize w3.drewN n4 = w4 at *
  clear P3 O3 s3 s3'
  have I4 := hid ((ints_of_own O4.out QW.out).more (F' := fun b => b < w4.heap.size) fun b h => h.2)
  go_wp2_with fail
  refine (copy_any q (fun b => b < w4.heap.size) _ w4 (fun b h => h) I4.out (by omega)).mono ?_
  rintro e w5 ⟨v5, rfl, hO, hb⟩
  have s5 := hb.size
  have P5 := hid (P4.out.trans (hb.mono s4))
  have O5 := hid (own_below O4.out hb)
  have LO4 := hid (own_lt O4.out)
  have V5 := hid (ints_of_own hO QW.out)
  obtain ⟨A5, c5, rfl, _, _⟩ := own_sl hO
  clear hO hb I4 P4
  go_wp2_with fail
  refine (spoil_any x q w1.heap.size _ w5 O5.out (by omega)).mono ?_
  rintro e w6 ⟨rfl, _, hg⟩
  have s6 := hg.size
  have P6 := hid (P5.out.grown hg (by omega) (own_ge O5.out))
  have V6 := hid (V5.out.keep (w' := w6) fun b hb => hg.block b hb.2 (fun e => by have := LO4.out b e.symm; omega))
  have B6 := hid (B1.out.trans (P6.out.mono (by omega)))
  clear hg P5 O5 V5 LO4 O4
  go_wp2_with fail
  refine (pnth_any n l k (fun b => b < W.heap.size) _ w6 (fun b h => by have := B6.out.size; omega) (H.out.keep (Same.of_below B6.out fun b h => h)) HK.out).mono ?_
  intro e w7 hr
  obtain ⟨hb, v7, rfl, ho, _, hw⟩ := nth_said hr
  rw [← HQ.out] at ho
  rw [← HC.out]
  have s7 := hb.size
  have B7 := hid (B6.out.trans (hb.mono (by have := B6.out.size; omega)))
  have N7 := hid (ints_of_own ho QW.out)
  have V7 := hid (V6.out.keep (Same.of_below hb fun b h => by have := h.2; omega))
  obtain ⟨A7, c7, rfl, _, _⟩ := own_sl ho
  clear hr hb ho hw
  go_wp2_with fail
  refine (ints_any q q (fun _ => True) _ _ w7 (N7.out.more fun _ _ => trivial) (V7.out.more fun _ _ => trivial)).mono ?_
  rintro e w8 ⟨rfl, n8, rfl⟩
  rw [show decide (q = q) = true from decide_eq_true rfl]
  have B8 := hid (below_drewN B7.out n8)
  have s8 : w6.heap.size ≤ (w7.drewN n8).heap.size := s7
  generalize w7.drewN n8 = w8 at *
  clear B7
  go_wp2_with fail
  refine (stold_any cc cc w8 (HL.out.below B8.out)).mono ?_
  rintro e w9 ⟨rfl, hb⟩
  have B9 := hid (B8.out.trans (hb.mono (by have := B8.out.size; omega)))
  clear hb
  rw [show decide (cc = cc) = true from decide_eq_true rfl]
  go_wp2_with fail
  go_ret
  exact ⟨rfl, B9.out⟩
end Go.Proofs.YtkiljnggphlomaaDoor
