/- SuiteOwn as a walk: tests and sets that are handed in stay. Conditions: the search's table is laid; errors.errorType holds its handle. -/
import Derived.Test.YtfkklhmamhcbhaaDoorStt
import Derived.Test.YtfkklhmamhcbhaaDoorStg
import Derived.Test.YtfkklhmamhcbhaaDoorLss
import Derived.Test.YtfkklhmamhcbhaaDoorUst
import Derived.Test.YtfkklhmamhcbhaaDoorSpl
import Derived.Test.YtfkklhmamhcbhaaDoorAst
namespace Go.Proofs.YtfkklhmamhcbhaaDoor
open Go.RowKit Go.Deep
def LawPost (W : World) (e : Ending) (w' : World) : Prop := e = .returned (.bool true) ∧ Below W.heap.size W w'
theorem hit_one : hitC [1] = 0 ∧ (hitR [1]).length = 1 := by
  have h0 : hitC [1] = 0 := by decide
  have hh : ∀ g, Hit [1] g ↔ g &&& 1 ≠ 0 := fun g => by simp [Hit]
  refine ⟨h0, ?_⟩
  unfold hitR
  rw [if_pos h0]
  obtain ⟨h1, h2⟩ := hitsN_ok [1] (by intro s hs; simp at hs; omega)
  rw [asc_ext h2 (show Asc [1] by unfold Asc; simp) fun x => ?_]
  · rfl
  · rw [h1]
    have k1 : Hit [1] 1 := by rw [hh]; decide
    constructor
    · intro h
      have hx : x < 2 := min_small (l := [1]) (n := 1) (by intro s hs; simp at hs; omega) h
      have : x = 0 ∨ x = 1 := by omega
      rcases this with rfl | rfl
      · exact absurd rfl ((hh 0).1 h.1)
      · simp
    · intro h
      simp at h
      subst h
      refine ⟨k1, fun g hg hq => ?_⟩
      have := sub_le hg
      have : g = 0 ∨ g = 1 := by omega
      rcases this with rfl | rfl
      · exact absurd rfl ((hh 0).1 hq)
      · rfl
theorem sets_same (a : List Int) (u v : Value) (w : World) (hu : IntsIn .u32 (fun _ => True) w u a) (hv : IntsIn .u32 (fun _ => True) w v a) :
    Calls Tryd.prog 10 #[u, v] w fun e w' => e = .returned (.bool true) ∧ Below w.heap.size w w' := by
  refine (sets_any a a _ _ _ w hu hv).mono ?_
  rintro e w' ⟨rfl, q, rfl⟩
  exact ⟨by rw [decide_eq_true (rfl : a = a)], below_drewN (Below.refl _ _) _⟩
theorem stold_same (c : Int) (w : World) (hg : Laid w) : Calls Tryd.prog 11 #[errV c, errV c] w fun e w' => e = .returned (.bool true) ∧ Below w.heap.size w w' := by
  refine (stold_any c c w hg).mono ?_
  rintro e w' ⟨rfl, hb⟩
  exact ⟨by rw [decide_eq_true (rfl : c = c)], hb⟩
/-- a row that one may write into, whatever it holds -/
def Row (B H : Nat) (e : TypeId) (k : IntKind) (v : Value) (n : Nat) (w : World) : Prop := (∃ zs : List Int, w.ownsRow B e 1 v n (zs.map (Value.int k))) ∧ ∀ q, v.ownBlock = some q → q < H
theorem Row.ge {B H : Nat} {e : TypeId} {k : IntKind} {v : Value} {n : Nat} {w : World} (h : Row B H e k v n w) : ∀ q, v.ownBlock = some q → B ≤ q ∧ q < H := fun q hq => by
  obtain ⟨⟨zs, hz⟩, h2⟩ := h
  exact ⟨own_ge hz q hq, h2 q hq⟩
theorem Row.keep {B H : Nat} {e : TypeId} {k : IntKind} {v : Value} {n : Nat} {w w' : World} (h : Row B H e k v n w) (hs : ∀ q, B ≤ q → q < H → w'.heap[q]? = w.heap[q]?) : Row B H e k v n w' := by
  obtain ⟨⟨zs, hz⟩, h2⟩ := h
  exact ⟨⟨zs, own_keep hz fun q hq => hs q (own_ge hz q hq) (h2 q hq)⟩, h2⟩
theorem Row.below {B H : Nat} {e : TypeId} {k : IntKind} {v : Value} {n : Nat} {w w' : World} (h : Row B H e k v n w) (hb : Below w.heap.size w w') (hH : H ≤ w.heap.size) : Row B H e k v n w' := h.keep fun q _ hq => hb.block q (Nat.lt_of_lt_of_le hq hH)
theorem Row.grown {B H : Nat} {e : TypeId} {k : IntKind} {v : Value} {n : Nat} {w w' : World} (h : Row B H e k v n w) {row : Option Nat} (hg : w.grownBy w' row) (hH : H ≤ w.heap.size) (hr : ∀ q, row = some q → q < B ∨ H ≤ q) : Row B H e k v n w' := h.keep fun q h1 h2 => hg.block q (Nat.lt_of_lt_of_le h2 hH) fun e => by have := hr q e.symm; omega
theorem spoil_row (x : Int) (B H n : Nat) (v : Value) (w : World) (hv : Row B H 3 .i64 v n w) :
    Calls Tryd.prog 9 #[v, .int .i64 x] w fun e w' => e = .returned (.tuple #[]) ∧ w.grownBy w' v.ownBlock := by
  obtain ⟨⟨zs, hz⟩, _⟩ := hv
  have hl : zs.length = n := by have := hz.1; simpa using this
  obtain ⟨A, c, e, h1, h2⟩ := own_sl hz
  unfold maxLen at h2
  refine (spoil_at x zs n B v w hl hz (by omega)).mono ?_
  rintro e w' ⟨rfl, _, hg⟩
  exact ⟨rfl, hg⟩
theorem bstep {a b c : World} (h : Below a.heap.size a b) (k : Below b.heap.size b c) : Below a.heap.size a c := h.trans (k.mono h.size)
theorem row_of {w w' : World} {e : TypeId} {k : IntKind} {v : Value} {n : Nat} {zs : List Int} (h : w'.ownsRow w.heap.size e 1 v n (zs.map (Value.int k))) : Row w.heap.size w'.heap.size e k v n w' := ⟨⟨zs, h⟩, own_lt h⟩
theorem ints_own_u {w w' : World} {B n : Nat} {e : TypeId} {v : Value} {l : List Nat} (h : w.ownsRow B e 1 v n ((ofN l).map (Value.int .u32))) (hw : ∀ z ∈ ofN l, (Lit.int .u32 z).wf = true) (hb : Below w.heap.size w w') : IntsIn .u32 (fun b => b < w'.heap.size) w' v (ofN l) := by
  have h1 := own_below h hb
  have hl : (ofN l).length = n := by have := h.1; simpa using this
  rw [← hl] at h1
  exact (ints_of_own h1 hw).more fun b hb => hb.2
theorem ints_bel {k : IntKind} {w w' : World} {v : Value} {zs : List Int} (h : IntsIn k (fun b => b < w.heap.size) w v zs) (hb : Below w.heap.size w w') : IntsIn k (fun b => b < w.heap.size) w' v zs := h.keep (Same.of_below hb fun _ h => h)
theorem ints_any {k : IntKind} {F : Nat → Prop} {w : World} {v : Value} {zs : List Int} (h : IntsIn k F w v zs) : IntsIn k (fun _ => True) w v zs := h.more fun _ _ => trivial
theorem hit_fact (w : World) : Calls Tryd.prog 6 #[.slice (some ⟨w.heap.size, 0, none⟩) 1 1] (w.alloc (.cells #[.int .u32 1] 30)) fun e w' => ∃ A c, e = .returned (.tuple #[.slice A 1 c, .nilIface]) ∧ Below w.heap.size w w' := by
  have h : IntsIn .u32 (fun b => b < (w.alloc (.cells #[.int .u32 1] 30)).heap.size) (w.alloc (.cells #[.int .u32 1] 30)) (.slice (some ⟨w.heap.size, 0, none⟩) 1 1) (ofN [1]) := by
    refine ⟨_, 1, rfl, ⟨Nat.le_refl _, by decide⟩, by intro z hz; simp [ofN] at hz; subst hz; decide, fun _ => ⟨w.heap.size, 0, rfl, by simp, fun i hi => ?_⟩⟩
    have hi' : i < 1 := hi
    obtain rfl : i = 0 := by omega
    exact (Has.cell (Has.new _ _) 0).trans rfl
  refine (hits_any [1] _ _ _ (fun _ h => h) h).mono ?_
  rintro e w' ⟨r, rfl, hr⟩
  obtain ⟨A, c, rfl, _, _⟩ := hr.len
  rw [hit_one.1, hit_one.2, errV_0]
  exact ⟨A, c, rfl, ((Below.refl _ _).alloc (Nat.le_refl _) _).trans (hr.2.mono (by simp))⟩
theorem Row.write {B H n : Nat} {e : TypeId} {k : IntKind} {A : Option Addr} {c : Nat} {w : World} (h : Row B H e k (.slice A n c) n w) {j : Nat} (hj : j < n) :
    ∃ g u, A = some ⟨g, 0, none⟩ ∧ w.cell? ⟨g, j, none⟩ = some u ∧ w.frozen? ⟨g, j, none⟩ = false ∧ ∀ y, Row B H e k (.slice A n c) n (w.setCell ⟨g, j, none⟩ (.int k y)) ∧ w.grownBy (w.setCell ⟨g, j, none⟩ (.int k y)) (Value.slice A n c).ownBlock := by
  obtain ⟨⟨zs, hz⟩, h2⟩ := h
  obtain ⟨g, cap, e, _, _, _, _, hc⟩ := own_open hz (by omega)
  injection e with e1 _ e3
  subst e1 e3
  have hl : zs.length = n := by have := hz.1; simpa using this
  have c1 := hz.cellAt j (by omega)
  rw [List.getElem?_map, List.getElem?_eq_getElem (by omega)] at c1
  refine ⟨g, _, rfl, c1, hz.frozenAt j, fun y => ?_⟩
  have h3 := hz.stored j (.int k y)
  rw [← List.map_set] at h3
  exact ⟨⟨⟨_, h3.1⟩, h2⟩, h3.2⟩
theorem gtrans {a b c : World} {row : Option Nat} (h1 : a.grownBy b row) (h2 : b.grownBy c row) : a.grownBy c row := ⟨h2.os.trans h1.os, h2.tape.trans h1.tape, h2.output.trans h1.output, Nat.le_trans h1.size h2.size, fun k hk hne => (h2.block k (Nat.lt_of_lt_of_le hk h1.size) hne).trans (h1.block k hk hne)⟩
set_option maxRecDepth 100000 in
set_option maxHeartbeats 8000000 in
theorem suiteOwn_walk (n : Int) (zt : List Int) (vt : Value) (zs : List Int) (vs : Value) (x : Int) (W : World) (hL : Tz W ∧ Laid W) (ht : IntsIn .u32 (fun b => b < W.heap.size) W vt zt) (hs : IntsIn .u32 (fun b => b < W.heap.size) W vs zs) (hzt : zt.length * 4 ≤ 140737488351232) (hzs : zs.length * 4 ≤ 140737488351232) :
    Calls Tryd.prog 4 #[.int .i64 n, vt, vs, .int .i64 x] W (LawPost W) := by
  obtain ⟨ts, rfl⟩ := nat_of_ints ht
  obtain ⟨ss, rfl⟩ := nat_of_ints hs
  have HL := hid hL.2
  have HT := hid hL.1
  have tzl : 2 < W.heap.size := cell_lt (p := ⟨2, 0, none⟩) (hL.1 0 (by decide))
  have VT := hid ht
  have VS := hid hs
  have LT := ofN_len ts
  have LS := ofN_len ss
  rw [LT] at hzt
  rw [LS] at hzs
  have ZT := hid hzt
  have ZS := hid hzs
  have WT : Hid (∀ z ∈ ofN ts, (Lit.int .u32 z).wf = true) := by obtain ⟨_, _, _, _, h, _⟩ := ht; exact h
  have WS : Hid (∀ z ∈ ofN ss, (Lit.int .u32 z).wf = true) := by obtain ⟨_, _, _, _, h, _⟩ := hs; exact h
  obtain ⟨At, ct, rfl, -, -, -⟩ := ht
  obtain ⟨As, cs, rfl, -, -, -⟩ := hs
  rw [LT] at VT ⊢
  rw [LS] at VS ⊢
  obtain ⟨i0, hi, hz0, hz1, hz2⟩ := info_parts infoU32
  have O0 := hid (World.ownsRow_lit (e := 30) (size := 1) (base := W.heap.size) W #[] 0 (Nat.le_refl _) (by unfold maxLen; omega) rfl)
  have C0 : Hid (CellsIn (fun b => b < W.heap.size) (W.alloc (Obj.cells #[] 30)) 1 (.slice At ts.length ct) ts.length ((ofN ts).map (Value.int .u32))) := by
    have := VT.out.cells.keep (w' := W.alloc (Obj.cells #[] 30)) (fun b hb => Below.heap_alloc _ _ _ hb)
    show CellsIn _ _ _ _ _ _
    rwa [LT] at this
  clear hL hzt hzs LT LS
  go_enter Tryd.func4, Tryd.ntmps4
  go_upto_region 2 with (at_builtin; refine wpList_app _ rfl (.tmp 29) (.tmp 30) 22 rfl W.heap.size 30 i0 (.int .u32 0) 1 4 Tryd.underlying22 hi hz0 hz1 hz2 rfl (by decide) _ 0 [] rfl O0.out _ _ ts.length _ rfl C0.out (ints_one _ _) (by have := ZT.out; unfold maxLen; omega) (by have := ZT.out; omega) (by simp) ?_; intro v1 w1 hown hgrow _; have O1 : Hid (w1.ownsRow W.heap.size 30 1 v1 ts.length ((ofN ts).map (Value.int .u32))) := (by show World.ownsRow _ _ _ _ _ _ _; simpa using hown); have B1 : Hid (Below W.heap.size W w1) := ((Below.refl _ _).alloc (Nat.le_refl _) _).grown hgrow (by simp) (own_ge O0.out); clear hown hgrow)
  have O3 := hid (World.ownsRow_lit (e := 30) (size := 1) (base := w1.heap.size) w1 #[] 0 (Nat.le_refl _) (by unfold maxLen; omega) rfl)
  have C3 : Hid (CellsIn (fun b => b < W.heap.size) (w1.alloc (Obj.cells #[] 30)) 1 (.slice As ss.length cs) ss.length ((ofN ss).map (Value.int .u32))) := by
    have := VS.out.cells.keep (w' := w1.alloc (Obj.cells #[] 30)) (fun b hb => (Below.heap_alloc _ _ _ (Nat.lt_of_lt_of_le hb B1.out.size)).trans (B1.out.block b hb))
    show CellsIn _ _ _ _ _ _
    rwa [ofN_len] at this
  clear O0 C0
  go_upto_region 3 with (at_builtin; refine wpList_app _ rfl (.tmp 32) (.tmp 33) 22 rfl w1.heap.size 30 i0 (.int .u32 0) 1 4 Tryd.underlying22 hi hz0 hz1 hz2 rfl (by decide) _ 0 [] rfl O3.out _ _ ss.length _ rfl C3.out (ints_one _ _) (by have := ZS.out; unfold maxLen; omega) (by have := ZS.out; omega) (by simp) ?_; intro v2 w2 hown hgrow _; have O2 : Hid (w2.ownsRow w1.heap.size 30 1 v2 ss.length ((ofN ss).map (Value.int .u32))) := (by show World.ownsRow _ _ _ _ _ _ _; simpa using hown); have B2 : Hid (Below w1.heap.size w1 w2) := ((Below.refl _ _).alloc (Nat.le_refl _) _).grown hgrow (by simp) (own_ge O3.out); clear hown hgrow)
  clear O3 C3 hi hz0 hz1 hz2
  have T1 := hid (ints_own_u O1.out WT.out B2.out)
  have T2 := hid (ints_own_u O2.out WS.out (Below.refl _ _))
  have CW2 := hid (bstep B1.out B2.out)
  have TZ := hid (HT.out.below CW2.out tzl)
  clear O1 O2 B1 B2 HT tzl
  go_wp2_with fail
  refine (greedy_any n ts _ v1 w2 (fun _ h => h) TZ.out T1.out).mono ?_
  rintro e w3 ⟨v3, q3, rfl, h3, -⟩
  have R3 := hid (row_of h3.1)
  have B3 := hid h3.2
  clear h3
  have T1' := hid (ints_bel T1.out B3.out)
  have T2' := hid (ints_bel T2.out B3.out)
  have TZ3 := hid (TZ.out.below B3.out (cell_lt (p := ⟨2, 0, none⟩) (TZ.out 0 (by decide))))
  go_wp2_with fail
  refine (sleast_any n ts (fun b => b < w2.heap.size) v1 w3 (fun _ h => Nat.lt_of_lt_of_le h B3.out.size) TZ3.out T1'.out).mono ?_
  rintro e w4 ⟨v4, rfl, h4⟩
  have R4 := hid (row_of (zs := ofN (leastR n ts)) h4.1)
  have B4 := hid h4.2
  clear h4 TZ TZ3
  have X1 := hid (T1'.out.keep (Same.of_below B4.out fun _ h => Nat.lt_of_lt_of_le h B3.out.size))
  have X2 := hid (T2'.out.keep (Same.of_below B4.out fun _ h => Nat.lt_of_lt_of_le h B3.out.size))
  have s34 := hid (bstep B3.out B4.out)
  clear T1' T2'
  go_wp2_with fail
  refine (hits_any ss (fun b => b < w2.heap.size) v2 w4 (fun _ h => Nat.lt_of_lt_of_le h s34.out.size) X2.out).mono ?_
  rintro e w5 ⟨v5, rfl, h5⟩
  have R5 := hid (row_of h5.1)
  have B5 := hid h5.2
  clear h5
  have s35 := hid (bstep s34.out B5.out)
  have T2' := hid (X2.out.keep (Same.of_below B5.out fun _ h => Nat.lt_of_lt_of_le h s34.out.size))
  clear X1 X2 s34
  go_wp2_with fail
  refine (hleast_any ss (fun b => b < w2.heap.size) v2 w5 (fun _ h => Nat.lt_of_lt_of_le h s35.out.size) T2'.out).mono ?_
  rintro e w6 ⟨v6, rfl, h6⟩
  have R6 := hid (row_of h6.1)
  have B6 := hid h6.2
  clear h6
  have s36 := hid (bstep s35.out B6.out)
  clear T2' s35
  go_wp2_with fail
  refine (hit_fact w6).mono ?_
  rintro e w8 ⟨A7, c7, rfl, h8⟩
  have C6 := hid h8
  have C5 := hid (bstep B6.out C6.out)
  have C4 := hid (bstep B5.out C5.out)
  have C3 := hid (bstep B4.out C4.out)
  have C2 := hid (bstep B3.out C3.out)
  have Z3 := hid B3.out.size
  have Z4 := hid B4.out.size
  have Z5 := hid B5.out.size
  have Z6 := hid B6.out.size
  have Q3 := hid (R3.out.below C3.out (Nat.le_refl _))
  have Q4 := hid (R4.out.below C4.out (Nat.le_refl _))
  have Q5 := hid (R5.out.below C5.out (Nat.le_refl _))
  have Q6 := hid (R6.out.below C6.out (Nat.le_refl _))
  obtain ⟨A5, c5, rfl, _, m5⟩ : ∃ A c, v5 = .slice A (hitR ss).length c ∧ (hitR ss).length ≤ c ∧ c ≤ maxLen := by obtain ⟨⟨_, h⟩, _⟩ := R5.out; exact own_sl h
  obtain ⟨A6, c6, rfl, _, m6⟩ : ∃ A c, v6 = .slice A (leastS ss).length c ∧ (leastS ss).length ≤ c ∧ c ≤ maxLen := by obtain ⟨⟨_, h⟩, _⟩ := R6.out; exact own_sl h
  unfold maxLen at m5 m6
  generalize hitR ss = l5 at *
  generalize leastS ss = l6 at *
  generalize l5.length = n5 at *
  generalize l6.length = n6 at *
  clear h8 B3 B4 B5 B6 R3 R4 R5 R6 s36
  go_wp2_with fail
  go_loopw [21] (fun iv wr => ∃ j : Nat, j ≤ n5 ∧ iv = .int .i64 j ∧ Hid (Row w4.heap.size w5.heap.size 30 .u32 (.slice A5 n5 c5) n5 wr) ∧ Hid (w8.grownBy wr (Value.slice A5 n5 c5).ownBlock)) (fun iv _ => n5 - (intOf iv).toNat)
  case atStart => exact ⟨0, Nat.zero_le _, rfl, Q5.out, World.grownBy.refl w8 _⟩
  case round =>
    obtain ⟨j, hj, rfl, hR, hG⟩ := hrel
    obtain ⟨w9, hw9⟩ : ∃ z : World, z = wr := ⟨_, rfl⟩
    subst hw9
    by_cases hlt : j < n5
    · obtain ⟨g, u, rfl, c1, f1, HW'⟩ := hR.out.write hlt
      have HW := hid HW'
      have i1 : (j : Int) < (n5 : Int) := by omega
      clear HW'
      go_wp2_with fail
      go_roundw
      case rel => exact ⟨j + 1, by omega, by go_num, (HW.out _).1, gtrans hG.out (HW.out _).2⟩
      case measure => simp [intOf]; omega
    · obtain rfl : j = n5 := by omega
      have P6 := hid (Q6.out.grown hG.out C6.out.size fun q hq => .inl (hR.out.ge q hq).2)
      go_wp2_with fail
      have E3 := hid (Q3.out.grown hG.out C3.out.size fun q hq => .inr (Nat.le_trans Z4.out (hR.out.ge q hq).1))
      have E4 := hid (Q4.out.grown hG.out C4.out.size fun q hq => .inr (hR.out.ge q hq).1)
      have K9 := hid (C2.out.grown hG.out C2.out.size fun q hq => Nat.le_trans Z3.out (Nat.le_trans Z4.out (hR.out.ge q hq).1))
      have Z9 := hid hG.out.size
      clear Q3 Q4 Q5 Q6 hR hG
      go_loopw [22] (fun iv wr => ∃ j : Nat, j ≤ n6 ∧ iv = .int .i64 j ∧ Hid (Row w5.heap.size w6.heap.size 30 .u32 (.slice A6 n6 c6) n6 wr) ∧ Hid (w9.grownBy wr (Value.slice A6 n6 c6).ownBlock)) (fun iv _ => n6 - (intOf iv).toNat)
      case atStart => exact ⟨0, Nat.zero_le _, rfl, P6.out, World.grownBy.refl w9 _⟩
      case round =>
        obtain ⟨j, hj, rfl, hR, hG⟩ := hrel
        obtain ⟨w10, hw10⟩ : ∃ z : World, z = wr := ⟨_, rfl⟩
        subst hw10
        by_cases hlt : j < n6
        · obtain ⟨g, u, rfl, c1, f1, HW'⟩ := hR.out.write hlt
          have HW := hid HW'
          have i1 : (j : Int) < (n6 : Int) := by omega
          clear HW'
          go_wp2_with fail
          go_roundw
          case rel => exact ⟨j + 1, by omega, by go_num, (HW.out _).1, gtrans hG.out (HW.out _).2⟩
          case measure => simp [intOf]; omega
        · obtain rfl : j = n6 := by omega
          have Q3 := hid (E3.out.grown hG.out (Nat.le_trans C3.out.size Z9.out) fun q hq => .inr (Nat.le_trans Z4.out (Nat.le_trans Z5.out (hR.out.ge q hq).1)))
          have Q4 := hid (E4.out.grown hG.out (Nat.le_trans C4.out.size Z9.out) fun q hq => .inr (Nat.le_trans Z5.out (hR.out.ge q hq).1))
          have K10 := hid (K9.out.grown hG.out K9.out.size fun q hq => Nat.le_trans Z3.out (Nat.le_trans Z4.out (Nat.le_trans Z5.out (hR.out.ge q hq).1)))
          have Y3 := hid (Nat.le_trans C3.out.size (Nat.le_trans Z9.out hG.out.size))
          have Y4 := hid (Nat.le_trans C4.out.size (Nat.le_trans Z9.out hG.out.size))
          clear E3 E4 K9 hR hG P6
          go_wp2_with fail
          refine (spoil_row x _ _ _ v3 w10 Q3.out).mono ?_
          rintro e w11 ⟨rfl, g11⟩
          have E4 := hid (Q4.out.grown g11 Y4.out fun q hq => .inl (Q3.out.ge q hq).2)
          have K11 := hid (K10.out.grown g11 K10.out.size fun q hq => (Q3.out.ge q hq).1)
          clear g11 Q3 Q4 K10
          go_wp2_with fail
          refine (spoil_row x _ _ _ v4 w11 E4.out).mono ?_
          rintro e w12 ⟨rfl, g12⟩
          have K12 := hid (K11.out.grown g12 K11.out.size fun q hq => Nat.le_trans Z3.out (E4.out.ge q hq).1)
          have D12 := hid (CW2.out.trans (K12.out.mono CW2.out.size))
          clear g12 E4 K11 C2 C3 C4 C5 C6 Z3 Z4 Z5 Z6 Z9 Y3 Y4
          go_wp2_with fail
          refine (sets_same (ofN ts) v1 _ w12 (ints_any (T1.out.keep (Same.of_below K12.out fun _ h => h))) (ints_any (ints_bel VT.out D12.out))).mono ?_
          rintro e w13 ⟨rfl, h13⟩
          have K13 := hid (K12.out.trans (h13.mono K12.out.size))
          have D13 := hid (bstep D12.out h13)
          clear h13 K12 D12
          go_wp2_with fail
          refine (sets_same (ofN ss) v2 _ w13 (ints_any (T2.out.keep (Same.of_below K13.out fun _ h => h))) (ints_any (ints_bel VS.out D13.out))).mono ?_
          rintro e w14 ⟨rfl, h14⟩
          have D14 := hid (bstep D13.out h14)
          clear h14 K13 D13
          go_wp2_with fail
          refine (hleast_any ss (fun b => b < W.heap.size) _ w14 (fun _ h => Nat.lt_of_lt_of_le h D14.out.size) (ints_bel VS.out D14.out)).mono ?_
          rintro e w15 ⟨v15, rfl, h15⟩
          have V15 := hid h15
          have D15 := hid (bstep D14.out h15.2)
          clear h15 D14
          go_wp2_with fail
          refine (stold_same (stC n ts) w15 (HL.out.below D15.out)).mono ?_
          rintro e w16 ⟨rfl, h16⟩
          have D16 := hid (bstep D15.out h16)
          have G16 := hid h16
          clear h16
          go_wp2_with fail
          refine (stold_same (hitC ss) w16 (HL.out.below D16.out)).mono ?_
          rintro e w17 ⟨rfl, h17⟩
          have D17 := hid (bstep D16.out h17)
          have G17 := hid (bstep G16.out h17)
          clear h17 G16 D16 D15
          by_cases hg : hitC ss = 0
          · have lsm := (hitC_good hg).2
            have R : leastS ss = leastN ss := if_pos hg
            rw [R] at V15
            have V17 : Hid (IntsIn .u32 (fun b => b < w15.heap.size) w17 v15 (ofN (leastN ss))) := ints_bel (V15.out.ints fun x hx => Nat.lt_of_lt_of_le (lsm x ((leastN_mem (fun y hy => Nat.lt_of_lt_of_le (lsm y hy) (by decide)) x).1 hx).1) (by decide)) G17.out
            have LS := hid (leastsets_any ss (fun b => b < W.heap.size) _ w17 (fun _ h => Nat.lt_of_lt_of_le h D17.out.size) (ints_bel VS.out D17.out))
            rw [lsN_least lsm] at LS
            have LSM := hid lsm
            rw [hg, errV_0]
            clear hg lsm V15 R
            go_wp2_with fail
            refine LS.out.mono ?_
            rintro e w18 ⟨v18, rfl, h18⟩
            have V18 := hid (h18.ints fun x hx => Nat.lt_of_lt_of_le (LSM.out x ((leastN_mem (fun y hy => Nat.lt_of_lt_of_le (LSM.out y hy) (by decide)) x).1 hx).1) (by decide))
            have V15 := hid (V17.out.keep (Same.of_below (h18.2.mono G17.out.size) fun _ h => h))
            have D18 := hid (bstep D17.out h18.2)
            clear h18 LS LSM V17 G17 D17
            go_wp2_with fail
            refine (sets_same (ofN (leastN ss)) v15 v18 w18 (ints_any V15.out) (ints_any V18.out)).mono ?_
            rintro e w19 ⟨rfl, h19⟩
            have D19 := hid (bstep D18.out h19)
            clear h19 V15 V18 D18
            go_wp2_with fail
            go_ret
            exact ⟨rfl, D19.out⟩
          · have HE : Hid (errV (hitC ss) = .iface 43 (.int .i64 (hitC ss))) := errV_no hg
            rw [HE.out]
            clear hg
            go_wp2_with fail
            go_ret
            exact ⟨rfl, D17.out⟩
end Go.Proofs.YtfkklhmamhcbhaaDoor
