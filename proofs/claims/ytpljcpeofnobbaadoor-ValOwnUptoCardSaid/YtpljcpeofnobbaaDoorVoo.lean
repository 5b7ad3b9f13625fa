/- The law ValOwn as a walk: who writes into a value that was read changes nothing that is read later. Conditions: the library's variables hold what they are laid with, errors.errorType its handle; the text has at most 1048576 bytes. -/
import Derived.Test.YtpljcpeofnobbaaDoorVbr
import Derived.Test.YtpljcpeofnobbaaDoorVit
import Derived.Test.YtpljcpeofnobbaaDoorVvt
import Derived.Test.YtpljcpeofnobbaaDoorAst
namespace Go.Proofs.YtpljcpeofnobbaaDoor
open Go.RowKit Go.Deep
def codeP (l : List UInt8) : Int := if (parseF l).isSome then 0 else 3
theorem parse_facts {l : List UInt8} {v : Va} (h : parseF l = some v) : v.size ≤ l.length ∧ v.text = l := by
  unfold parseF at h
  split at h
  · rename_i v' r hv
    split at h
    · rename_i hp
      injection h with h
      subst h
      have h1 := (valF_eats 7 _ _ _ hv).1
      unfold parseB at hp
      simp at hp
      exact ⟨by omega, hp.2⟩
    · cases h
  · cases h
/-- a row of values that one may write into, whatever it holds -/
def RowV (B H : Nat) (v : Value) (n : Nat) (w : World) : Prop := (∃ cs, w.ownsRow B 24 3 v n cs) ∧ ∀ q, v.ownBlock = some q → q < H
theorem RowV.ge {B H n : Nat} {v : Value} {w : World} (h : RowV B H v n w) : ∀ q, v.ownBlock = some q → B ≤ q ∧ q < H := fun q hq => by
  obtain ⟨⟨zs, hz⟩, h2⟩ := h
  exact ⟨own_ge hz q hq, h2 q hq⟩
theorem RowV.keep {B H n : Nat} {v : Value} {w w' : World} (h : RowV B H v n w) (hs : ∀ q, B ≤ q → q < H → w'.heap[q]? = w.heap[q]?) : RowV B H v n w' := by
  obtain ⟨⟨zs, hz⟩, h2⟩ := h
  exact ⟨⟨zs, own_keep hz fun q hq => hs q (own_ge hz q hq) (h2 q hq)⟩, h2⟩
theorem RowV.below {B H n : Nat} {v : Value} {w w' : World} (h : RowV B H v n w) (hb : Below w.heap.size w w') (hH : H ≤ w.heap.size) : RowV B H v n w' := h.keep fun q _ hq => hb.block q (Nat.lt_of_lt_of_le hq hH)
theorem gtr {a b c : World} {row : Option Nat} (h1 : a.grownBy b row) (h2 : b.grownBy c row) : a.grownBy c row := ⟨h2.os.trans h1.os, h2.tape.trans h1.tape, h2.output.trans h1.output, Nat.le_trans h1.size h2.size, fun k hk hne => (h2.block k (Nat.lt_of_lt_of_le hk h1.size) hne).trans (h1.block k hk hne)⟩
theorem RowV.write {B H n : Nat} {A : Option Addr} {c : Nat} {w : World} (h : RowV B H (.slice A n c) n w) {j : Nat} (hj : j < n) :
    ∃ g u0 u1 u2, A = some ⟨g, 0, none⟩ ∧ g < H ∧ B ≤ g ∧ w.cell? ⟨g, j * 3, none⟩ = some u0 ∧ w.cell? ⟨g, j * 3 + 1, none⟩ = some u1 ∧ w.cell? ⟨g, j * 3 + 2, none⟩ = some u2 ∧ (∀ k, w.frozen? ⟨g, k, none⟩ = false) ∧
      ∀ a b d, RowV B H (.slice A n c) n (((w.setCell ⟨g, j * 3, none⟩ a).setCell ⟨g, j * 3 + 1, none⟩ b).setCell ⟨g, j * 3 + 2, none⟩ d) ∧ w.grownBy (((w.setCell ⟨g, j * 3, none⟩ a).setCell ⟨g, j * 3 + 1, none⟩ b).setCell ⟨g, j * 3 + 2, none⟩ d) (Value.slice A n c).ownBlock := by
  obtain ⟨⟨zs, hz⟩, h2⟩ := h
  obtain ⟨g, cap, e, hg, _, _, _, hc⟩ := own_open hz (by omega)
  injection e with e1 _ e3
  subst e1 e3
  have hl : zs.length = n * 3 := hz.1
  have c0 := hz.cellAt (j * 3) (by omega)
  have c1 := hz.cellAt (j * 3 + 1) (by omega)
  have c2 := hz.cellAt (j * 3 + 2) (by omega)
  rw [List.getElem?_eq_getElem (by omega)] at c0 c1 c2
  refine ⟨g, _, _, _, rfl, h2 g rfl, hg, c0, c1, c2, fun k => hz.frozenAt k, fun a b d => ?_⟩
  have s0 := hz.stored (j * 3) a
  have s1 := s0.1.stored (j * 3 + 1) b
  have s2 := s1.1.stored (j * 3 + 2) d
  exact ⟨⟨⟨_, s2.1⟩, h2⟩, gtr (gtr s0.2 s1.2) s2.2⟩
structure Parsed (l : List UInt8) (w : World) (k : Bool) (n : Int) (A : Option Addr) (m c : Nat) (w' : World) : Prop where
  bel : Below w.heap.size w w'
  row : RowV w.heap.size w'.heap.size (.slice A m c) m w'
  cap : m ≤ 9223372036854775807
  va : ∀ v, parseF l = some v → VaIn (fun b => b < w'.heap.size) w' v (.bool k) (.int .i64 n) (.slice A m c)
theorem parse_sum (l : List UInt8) (w : World) (hl : l.length ≤ 1048576) (hL : LaidV w) :
    Calls Tryd.prog 5 #[.string (strB l)] w fun e w' => ∃ k n A m c, e = .returned (.tuple #[.agg #[.bool k, .int .i64 n, .slice A m c], errV (codeP l)]) ∧ Parsed l w k n A m c w' := by
  refine (parse_any SmallS l w ix_all hl (by omega) hL.l1 hL.l2 hL.errs hL.tab).mono ?_
  rintro e w' ⟨hb, hp⟩
  unfold codeP
  cases hv : parseF l with
  | none =>
    rw [hv] at hp
    exact ⟨false, 0, none, 0, 0, hp, hb, ⟨⟨[], World.ownsRow_nil _ _ _ _⟩, fun q h => by cases h⟩, by omega, fun v h => by rw [hv] at h; cases h⟩
  | some v =>
    rw [hv] at hp
    obtain ⟨k, n, xs⟩ := v
    obtain ⟨c, rfl, hr, hw⟩ := hp
    obtain ⟨A, cc, rfl⟩ := hr.slice
    have hva := hr.va (k := k) hw
    obtain ⟨⟨cs, h1, _⟩, _⟩ := hr
    refine ⟨k, n, A, xs.length, cc, rfl, hb, ⟨⟨cs, h1⟩, own_lt h1⟩, ?_, fun v h => ?_⟩
    · obtain ⟨_, _, e, h2, h3⟩ := own_sliceV h1
      unfold maxLen at h3
      omega
    · rw [hv] at h
      injection h with h
      subst h
      exact VaIn.more (fun b h => h.2.1) _ hva
theorem LaidV.next {W w : World} (h : LaidV W) (hb : Below W.heap.size W w) : LaidV w :=
  ⟨fun w' h' => h.tab w' (hb.trans (h'.mono hb.size)), h.errs.below hb h.l2 h.l1, Nat.lt_of_lt_of_le h.l1 hb.size, Nat.lt_of_lt_of_le h.l2 hb.size⟩
theorem fact_code : codeP [40, 53, 41] = 0 := by unfold codeP; rw [fact_parse]; rfl
theorem fact_sum (w : World) (hL : LaidV w) :
    Calls Tryd.prog 5 #[.string ⟨#[40, 53, 41]⟩] w fun e w' => ∃ k n A c, e = .returned (.tuple #[.agg #[.bool k, .int .i64 n, .slice A 1 c], .nilIface]) ∧ Below w.heap.size w w' := by
  refine (parse_sum [40, 53, 41] w (by decide) hL).mono ?_
  rintro e w' ⟨k, n, A, m, c, rfl, hp⟩
  rw [fact_code, errV_0]
  have := hp.va _ fact_parse
  obtain ⟨A', c', _, _, e, _⟩ := this.boxT
  injection e with e1 e2 e3
  subst e2
  exact ⟨k, n, A, c, rfl, hp.bel⟩
set_option maxRecDepth 100000 in
set_option maxHeartbeats 8000000 in
theorem valOwn_list (l : List UInt8) (x : Int) (W : World) (hL : LaidV W ∧ Laid W) (hl : l.length ≤ 1048576) :
    Calls Tryd.prog 4 #[.string (strB l), .int .i64 x] W (LawPost W) := by
  have HL := hid hL
  have SL := hid hl
  have P1 := hid (parse_sum l W hl hL.1)
  obtain ⟨S, hS⟩ : ∃ S, S = strB l := ⟨_, rfl⟩
  have HS := hid hS
  rw [← hS] at P1 ⊢
  clear hL hl hS
  go_enter Tryd.func4, Tryd.ntmps4
  go_wp2_with fail
  refine P1.out.mono ?_
  rintro e w1 ⟨k, n, A, m, c, rfl, hp⟩
  have HP := hid hp
  have B1 := hid hp.bel
  have m0 := hp.cap
  clear hp P1
  obtain ⟨w2, hw2⟩ : ∃ z, z = w1.alloc (.cells #[.bool k, .int .i64 n, .slice A m c] 24) := ⟨_, rfl⟩
  have X2 : Hid (w2.heap[w1.heap.size]? = some (.cells #[.bool k, .int .i64 n, .slice A m c] 24 (0, 0))) := by show _ = _; rw [hw2]; exact Has.new _ _
  have A2 : Hid (Below w1.heap.size w1 w2) := by show Below _ _ _; rw [hw2]; exact (Below.refl _ _).alloc (Nat.le_refl _) _
  have B2 := hid (B1.out.trans (A2.out.mono B1.out.size))
  have P2 := hid (fact_sum w2 (HL.out.1.next B2.out))
  have HW2 := hid hw2
  clear hw2
  go_wp2_with fail
  rw [← HW2.out]
  refine P2.out.mono ?_
  rintro e w3 ⟨k3, n3, A3, c3, rfl, hb⟩
  obtain ⟨w4, hw4⟩ : ∃ z, z = w3.alloc (.cells #[.bool k3, .int .i64 n3, .slice A3 1 c3] 24) := ⟨_, rfl⟩
  have A4 : Hid (Below w2.heap.size w2 w4) := by show Below _ _ _; rw [hw4]; exact hb.alloc hb.size _
  have X4 : Hid (w4.heap[w1.heap.size]? = some (.cells #[.bool k, .int .i64 n, .slice A m c] 24 (0, 0))) := (A4.out.block _ (Has.lt X2.out)).trans X2.out
  have B4 := hid (B2.out.trans (A4.out.mono B2.out.size))
  have R4 := hid ((HP.out.row.below A2.out (Nat.le_refl _)).below A4.out A2.out.size)
  have Z4 := hid (Nat.le_trans A2.out.size A4.out.size)
  have HW4 := hid hw4
  have ZB := hid B1.out.size
  clear hb hw4 HW2 X2 A2 B2 P2 A4
  go_wp2_with fail
  rw [← HW4.out]
  go_loopw [9] (fun iv wr => ∃ j : Nat, j ≤ m ∧ iv = .int .i64 j ∧ Hid (wr.heap[w1.heap.size]? = some (.cells #[.bool k, .int .i64 n, .slice A m c] 24 (0, 0))) ∧ Hid (RowV W.heap.size w1.heap.size (.slice A m c) m wr) ∧ Hid (w4.grownBy wr (Value.slice A m c).ownBlock)) (fun iv _ => m - (intOf iv).toNat)
  case atStart => exact ⟨0, Nat.zero_le _, rfl, X4.out, R4.out, World.grownBy.refl w4 _⟩
  case round =>
    obtain ⟨j, hj, rfl, hX, hR, hG⟩ := hrel
    obtain ⟨wo, hwo⟩ : ∃ z : World, z = wr := ⟨_, rfl⟩
    subst hwo
    have x2 := Has.cell hX.out 2
    simp at x2
    by_cases hlt : j < m
    · obtain ⟨g, u0, u1, u2, rfl, g1, g2, q0, q1, q2, hf, HW'⟩ := hR.out.write hlt
      have HW := hid HW'
      have f0 := hf (j * 3)
      have f1 := hf (j * 3 + 1)
      have f2 := hf (j * 3 + 2)
      have i1 : (j : Int) < (m : Int) := by omega
      clear HW' hf
      go_wp2_with fail
      go_roundw
      case rel =>
        refine ⟨j + 1, by omega, by go_num, ?_, (HW.out _ _ _).1, gtr hG.out (HW.out _ _ _).2⟩
        exact ((HW.out _ _ _).2.block _ (Has.lt hX.out) (fun e => by have e' : some w1.heap.size = some g := e; injection e' with e'; omega)).trans hX.out
      case measure => exact meas_step (by omega)
    · obtain rfl : j = m := by omega
      have B5 := hid (B4.out.grown hG.out B4.out.size fun q hq => (hR.out.ge q hq).1)
      go_wp2_with fail
      have P2 := hid (parse_sum l wo SL.out (HL.out.1.next B5.out))
      rw [← HS.out] at P2
      clear hR hG hX R4 X4 Z4 ZB m0 HP
      refine P2.out.mono ?_
      rintro e w6 ⟨k6, n6, A6, m6, c6, rfl, hp⟩
      obtain ⟨w7, hw7⟩ : ∃ z, z = w6.alloc (.cells #[.bool k6, .int .i64 n6, .slice A6 m6 c6] 24) := ⟨_, rfl⟩
      have X7 : Hid (w7.heap[w6.heap.size]? = some (.cells #[.bool k6, .int .i64 n6, .slice A6 m6 c6] 24 (0, 0))) := by show _ = _; rw [hw7]; exact Has.new _ _
      have A7 : Hid (Below w6.heap.size w6 w7) := by show Below _ _ _; rw [hw7]; exact (Below.refl _ _).alloc (Nat.le_refl _) _
      have B6 := hid (B5.out.trans (hp.bel.mono B5.out.size))
      have B7 := hid (B6.out.trans (A7.out.mono B6.out.size))
      have VA := hid hp.va
      have HW7 := hid hw7
      clear hp hw7 P2
      go_wp2_with fail
      rw [← HW7.out]
      refine (stold_any (codeP l) (codeP l) w7 (HL.out.2.below B7.out)).mono ?_
      rintro e w8 ⟨rfl, hb⟩
      rw [decide_eq_true (rfl : codeP l = codeP l)]
      have X8 := hid ((hb.block _ (Has.lt X7.out)).trans X7.out)
      have B8 := hid (B7.out.trans (hb.mono B7.out.size))
      have A8 := hid (A7.out.trans (hb.mono A7.out.size))
      clear hb X7 A7 HW7
      cases hv : parseF l with
      | none =>
        have e3 : codeP l = 3 := by unfold codeP; rw [hv]; rfl
        have HE : Hid (errV (codeP l) = .iface 40 (.int .i64 3)) := by show _ = _; rw [e3]; exact errV_no (by decide)
        rw [HE.out]
        clear hv e3
        go_wp2_with fail
        go_ret
        exact ⟨rfl, B8.out⟩
      | some v =>
        have e0 : codeP l = 0 := by unfold codeP; rw [hv]; rfl
        obtain ⟨vs, vt⟩ := parse_facts hv
        have VI := hid (VA.out v hv)
        have FW := hid (fun b h => Nat.lt_of_lt_of_le h A8.out.size : ∀ b, b < w6.heap.size → b < w8.heap.size)
        have V8 := hid (VaIn.keep (Same.of_below A8.out fun b h => h) _ VI.out)
        have T1 := hid (vtext_any v (fun b => b < w6.heap.size) _ _ _ w8 FW.out V8.out (by have := SL.out; omega) (HL.out.1.next B8.out).tab)
        have SZ : Hid (v.size ≤ 4000000000) := by have := SL.out; show _ ≤ _; omega
        have ST : Hid (strB v.text = S) := by show _ = _; rw [vt, HS.out]
        have x0 := Has.cell X8.out 0
        have x1 := Has.cell X8.out 1
        have x2 := Has.cell X8.out 2
        simp at x0 x1 x2
        rw [e0, errV_0]
        clear hv e0 vs vt VI VA
        go_wp2_with fail
        refine T1.out.mono ?_
        rintro e w9 ⟨rfl, hb⟩
        rw [ST.out]
        have X9 := hid ((hb.block _ (Has.lt X8.out)).trans X8.out)
        have B9 := hid (B8.out.trans (hb.mono B8.out.size))
        have V9 := hid (VaIn.keep (Same.of_below hb FW.out) _ V8.out)
        have R1 := hid (rtext_any v (fun b => b < w6.heap.size) _ _ _ w9 (fun b h => Nat.lt_of_lt_of_le (FW.out b h) hb.size) V9.out SZ.out)
        clear hb T1 V8 V9 X8 B8 x0 x1 x2
        have x0 := Has.cell X9.out 0
        have x1 := Has.cell X9.out 1
        have x2 := Has.cell X9.out 2
        simp at x0 x1 x2
        go_wp2_with fail
        refine R1.out.mono ?_
        rintro e w10 ⟨rfl, hb⟩
        rw [ST.out]
        have B10 := hid (B9.out.trans (hb.mono B9.out.size))
        clear hb R1 X9 B9 x0 x1 x2
        go_wp2_with fail
        go_ret
        exact ⟨rfl, B10.out⟩
theorem valOwn_walk (s : ByteArray) (x : Int) (W : World) (hL : LaidV W ∧ Laid W) (hs : s.size ≤ 1048576) :
    Calls Tryd.prog 4 #[.string s, .int .i64 x] W (LawPost W) := by
  have e : s = strB s.data.toList := by apply ByteArray.ext; simp [strB]
  rw [e]
  exact valOwn_list s.data.toList x W hL (by rw [← Lib.size_eq]; exact hs)
end Go.Proofs.YtpljcpeofnobbaaDoor
