/- What gen.count and gen.Count return, and rank's count and product of right generators. Conditions: those. -/
import Derived.Test.YtopehfmppfibhaaDoorRkn
import Derived.Test.YtopehfmppfibhaaDoorGck
namespace Go.Proofs.YtopehfmppfibhaaDoor
open Go.RowKit
set_option maxHeartbeats 400000 in
theorem capped_any (n : Nat) (w : World) : Calls Tryd.prog 55 #[.int .i64 n] w fun e w' => e = .returned (.int .i64 (capN n : Nat)) ∧ w = w' := by
  by_cases h : n ≤ 1048577
  · have E : Hid (capN n = n) := cap_self h
    have h' : (n : Int) ≤ 1048577 := by omega
    clear h
    go_enter Tryd.func55, Tryd.ntmps55
    go_wp2_with fail
    go_ret
    exact ⟨by rw [E.out]; first | rfl | (congr 2; omega) | (show Ending.returned (Value.int .i64 (min (n : Int) 1048577)) = Ending.returned (Value.int .i64 (n : Int)); rw [Int.min_eq_left h']), rfl⟩
  · have E : Hid (capN n = 1048577) := by show _ = _; unfold capN; omega
    have h' : ¬ (n : Int) ≤ 1048577 := by omega
    clear h
    go_enter Tryd.func55, Tryd.ntmps55
    go_wp2_with fail
    go_ret
    exact ⟨by rw [E.out]; first | rfl | (congr 2; omega) | (show Ending.returned (Value.int .i64 (min (n : Int) 1048577)) = Ending.returned (Value.int .i64 ((1048577 : Nat) : Int)); rw [Int.min_eq_right (by omega)]; rfl), rfl⟩
theorem capped_sum (a b : Nat) (w : World) : Calls Tryd.prog 55 #[.int .i64 ((a : Int) + (b : Int))] w fun e w' => e = .returned (.int .i64 (capN (a + b) : Nat)) ∧ w = w' := by
  have h := capped_any (a + b) w
  rw [Int.natCast_add] at h
  exact h
theorem capped_prod (a b : Nat) (w : World) : Calls Tryd.prog 55 #[.int .i64 ((a : Int) * (b : Int))] w fun e w' => e = .returned (.int .i64 (capN (a * b) : Nat)) ∧ w = w' := by
  have h := capped_any (a * b) w
  rw [Int.natCast_mul] at h
  exact h
theorem wrap_prod {a b : Nat} (ha : a ≤ 1048577) (hb : b ≤ 1048577) : wrap64 ((a : Int) * (b : Int)) = (a : Int) * (b : Int) := by
  have h : a * b ≤ 1048577 * 1048577 := Nat.mul_le_mul ha hb
  have e : (a : Int) * (b : Int) = ((a * b : Nat) : Int) := (Int.natCast_mul a b).symm
  rw [e]
  generalize a * b = c at *
  unfold wrap64
  omega
theorem wrap_sum {a b : Nat} (ha : a ≤ 1048577) (hb : b ≤ 1048577) : wrap64 ((a : Int) + (b : Int)) = (a : Int) + (b : Int) := by
  unfold wrap64
  omega
def NumPost (n : Nat) (w : World) (e : Ending) (w' : World) : Prop := e = .returned (.int .i64 (n : Int)) ∧ Below w.heap.size w w'
def GCountOk (g : Ge) : Prop := g.err = 0 → ∀ (F : Nat → Prop) (u v x c : Value) (w : World), (∀ b, F b → b < w.heap.size) → GeIn F w g u v x c →
  Calls Tryd.prog 35 #[.agg #[u, v, x, c]] w (NumPost (capN g.ways) w)
theorem prod_take {s : List Ge} {i : Nat} (h : i < s.length) : Ges.prod (s.take (i + 1)) = Ges.prod (s.take i) * s[i].ways := by rw [gtake_succ h, prod_app, prod_one]
theorem tot_take {s : List Ge} {i : Nat} (h : i < s.length) : Ges.tot (s.take (i + 1)) = Ges.tot (s.take i) + s[i].ways := by rw [gtake_succ h, tot_app, tot_one]
set_option maxRecDepth 100000 in
set_option maxHeartbeats 1000000 in
theorem gcount_int (a b : Int) (A : Option Addr) (n cp : Nat) (w : World) (h1 : oneE 2 a b n = 0) :
    Calls Tryd.prog 35 #[.agg #[.int .i64 2, .int .i64 a, .int .i64 b, .slice A n cp]] w (NumPost (capN (b - a + 1).toNat) w) := by
  obtain ⟨q1, q2, q3⟩ := oneE_int h1
  obtain ⟨m, hm⟩ : ∃ m : Nat, b - a = m := ⟨(b - a).toNat, by omega⟩
  have E : Hid ((b - a) = (m : Int)) := hm
  have E2 : Hid (capN (b - a + 1).toNat = m + 1) := by show _ = _; rw [hm]; unfold capN; omega
  have q4 : wrap64 (b - a) = (m : Int) := by rw [q3, hm]
  have q5 : wrap64 ((m : Int) + 1) = (m : Int) + 1 := by unfold wrap64; omega
  have B0 : Hid (Below w.heap.size w (w.alloc (.cells #[.int .i64 2, .int .i64 a, .int .i64 b, .slice A n cp] 24))) := (Below.refl _ _).alloc (Nat.le_refl _) _
  clear h1 q1 q2 q3 hm
  go_enter Tryd.func35, Tryd.ntmps35
  go_wp2_with fail
  go_ret
  exact ⟨by rw [E2.out]; first | rfl | (simp [q4, q5]), B0.out⟩
set_option maxRecDepth 100000 in
set_option maxHeartbeats 2000000 in
theorem gcount_step (k a b : Int) (s : List Ge) (ih : ∀ y ∈ s, GCountOk y) : GCountOk (.mk k a b s) := by
  intro he F u v x c w hF hx
  obtain ⟨hk, h2, h4, h5, hs'⟩ := right_kind he
  have IH : Hid (∀ y ∈ s, GCountOk y) := ih
  have SE := hid hs'
  have WP : Hid (∀ y ∈ s, 1 ≤ y.ways) := fun y hy => ways_pos y (hs' y hy)
  have HF := hid hF
  obtain ⟨A, cp, rfl, rfl, rfl, rfl, l1, l2, hs⟩ := hx.box
  have HS := hid hs
  have O1 := hid (Ge.err_parts he).1
  have B0 : Hid (Below w.heap.size w (w.alloc (.cells #[.int .i64 k, .int .i64 a, .int .i64 b, .slice A s.length cp] 24))) := (Below.refl _ _).alloc (Nat.le_refl _) _
  have X0 := hid (Has.new w (.cells #[.int .i64 k, .int .i64 a, .int .i64 b, .slice A s.length cp] 24))
  clear ih hF hx hs hs' he
  rcases hk with rfl | rfl | rfl | rfl | rfl
  · have E : Hid (capN (Ge.mk 1 a b s).ways = 1) := by show _ = _; rw [Ge.ways, if_neg (by decide), if_neg (by decide), if_neg (by decide), if_neg (by decide)]; rfl
    clear h2 h4 h5
    go_enter Tryd.func35, Tryd.ntmps35
    go_wp2_with fail
    go_ret
    exact ⟨by rw [E.out]; rfl, B0.out⟩
  · have e : (Ge.mk 2 a b s).ways = (b - a + 1).toNat := by rw [Ge.ways, if_pos rfl]
    rw [e]
    exact gcount_int a b A s.length cp w O1.out
  · have E : Hid ((Ge.mk 3 a b s).ways = Ges.prod s) := by show _ = _; rw [Ge.ways, if_neg (by decide), if_pos rfl]
    clear h2 h4 h5
    go_enter Tryd.func35, Tryd.ntmps35
    go_wp2_with fail
    clear X0
    go_loopw [3, 25] (fun nv iv wr => ∃ i : Nat, i ≤ s.length ∧ nv = .int .i64 (capN (Ges.prod (s.take i)) : Nat) ∧ iv = .int .i64 i ∧ Hid (Below w.heap.size w wr)) (fun _ iv _ => s.length - (intOf iv).toNat)
    case atStart => exact ⟨0, Nat.zero_le _, by rw [List.take_zero, Ges.prod]; rfl, rfl, B0⟩
    case round =>
      obtain ⟨i, hi, rfl, rfl, hB⟩ := hrel
      obtain ⟨wo, rfl⟩ : ∃ wo : World, wo = wr := ⟨_, rfl⟩
      have lB := hB.out.size
      clear B0
      by_cases hlt : i < s.length
      · obtain ⟨bl, off, rfl, hFb, hex⟩ := HS.out (by omega)
        have lb := HF.out bl hFb
        obtain ⟨a1, b1, c1, e1, q1, q2, q3, q4, hy⟩ := (GesIn.keep (Same.of_below hB.out HF.out) s hFb hex).at_ hlt
        have HY := hid hy
        have hm : s[i] ∈ s := List.getElem_mem hlt
        have PI := hid (IH.out s[i] hm (SE.out _ hm))
        have i1 : (i : Int) < (s.length : Int) := by omega
        have PE : Hid (capN (capN (Ges.prod (s.take i)) * capN s[i].ways) = capN (Ges.prod (s.take (i + 1)))) := by
          show _ = _
          rw [prod_take hlt, cap_mul (prod_pos _ fun y hy => WP.out y (List.mem_of_mem_take hy)) (WP.out _ hm)]
        have pl := hid (cap_le (Ges.prod (s.take i)))
        have pm := hid (cap_le s[i].ways)
        obtain ⟨⟨k1, m1, n1, s1⟩, hy0⟩ : ∃ y, y = s[i] := ⟨_, rfl⟩
        rw [← hy0] at HY PI PE pm
        obtain ⟨A1, cp1, rfl, rfl, rfl, rfl, _, _, _⟩ := HY.out.box
        generalize capN (Ges.prod (s.take i)) = p at *
        generalize capN (Ge.mk k1 m1 n1 s1).ways = q at *
        clear hex hy hy0 hm
        go_wp2_with fail
        refine (PI.out F _ _ _ _ _ (fun g hg => by have := HF.out g hg; simp; omega) (GeIn.keep (fun b hb => Below.heap_alloc _ _ _ (by have := HF.out b hb; omega)) _ HY.out)).mono ?_
        rintro e w2 ⟨rfl, hb2⟩
        have B2 := hid ((hB.out.alloc lB _).trans (hb2.mono (by simp; omega)))
        have wq := wrap_prod pl.out pm.out
        clear hb2 q1 q2 q3 q4
        go_wp2_with fail
        refine (capped_prod p q w2).mono ?_
        rintro e w3 ⟨rfl, rfl⟩
        rw [PE.out]
        go_wp2_with fail
        go_roundw
        case rel => exact ⟨i + 1, by omega, rfl, by go_num, B2⟩
        case measure => simp [intOf]; omega
      · obtain rfl : i = s.length := by omega
        have E2 : Hid (s.take s.length = s) := by show _ = _; simp
        rw [E2.out]
        go_wp2_with fail
        go_ret
        exact ⟨by rw [E.out]; rfl, hB.out⟩
  · obtain ⟨a0, a5, sl⟩ := h4 rfl
    obtain ⟨m, rfl⟩ : ∃ m : Nat, a = m := ⟨a.toNat, by omega⟩
    match s, sl with
    | [y], _ =>
      have E : Hid ((Ge.mk 4 m b [y]).ways = sumPow y.ways m) := by show _ = _; rw [Ge.ways, if_neg (by decide), if_neg (by decide), if_pos rfl, Ges.head]; rfl
      obtain ⟨bl, off, rfl, hFb, hex⟩ := HS.out (by simp)
      have lb := HF.out bl hFb
      obtain ⟨a1, b1, c1, e1, q1, q2, q3, q4, hy⟩ := (GesIn.keep (Same.of_below B0.out HF.out) [y] hFb hex).at_ (i := 0) (by simp)
      have hm : y ∈ [y] := by simp
      have HY : Hid (GeIn F (w.alloc (.cells #[.int .i64 4, .int .i64 m, .int .i64 b, .slice (some ⟨bl, off, none⟩) 1 cp] 24)) y a1 b1 c1 e1) := hy
      have PI := hid (IH.out y hm (SE.out _ hm))
      have yw := WP.out y hm
      have pm := hid (cap_le y.ways)
      have ST : Hid (∀ j, capN (capN (y.ways ^ j) * capN y.ways) = capN (y.ways ^ (j + 1)) ∧ capN (capN (sumPow y.ways j) + capN (y.ways ^ (j + 1))) = capN (sumPow y.ways (j + 1))) := fun j => ⟨by rw [cap_mul (Nat.pow_pos yw) yw, Nat.pow_succ], by rw [cap_add, sumPow]⟩
      obtain ⟨k1, m1, n1, s1⟩ := y
      obtain ⟨A1, cp1, rfl, rfl, rfl, rfl, _, _, _⟩ := HY.out.box
      simp only [Nat.zero_mul, Nat.add_zero, List.length_cons, List.length_nil, Nat.zero_add] at q1 q2 q3 q4
      generalize (Ge.mk k1 m1 n1 s1).ways = y at *
      clear hex hy hm h2 h4 h5 IH SE WP O1 yw
      go_enter Tryd.func35, Tryd.ntmps35
      go_wp2_with fail
      refine (PI.out F _ _ _ _ _ (fun g hg => by have := HF.out g hg; simp; omega) HY.out).mono ?_
      rintro e w2 ⟨rfl, hb2⟩
      have B2 := hid (B0.out.trans (hb2.mono (by simp)))
      have X2 := Has.below X0.out hb2 (by simp)
      have x1 := Has.cell X2 1
      simp at x1
      clear hb2 X2 X0 B0 q1 q2 q3 q4
      go_wp2_with fail
      clear x1
      go_loopw [3, 7, 44] (fun nv pv iv wr => ∃ i : Nat, i ≤ m ∧ nv = .int .i64 (capN (sumPow y i) : Nat) ∧ pv = .int .i64 (capN (y ^ i) : Nat) ∧ iv = .int .i64 i ∧ wr = w2) (fun _ _ iv _ => m - (intOf iv).toNat)
      case atStart => exact ⟨0, Nat.zero_le _, rfl, rfl, rfl, rfl⟩
      case round =>
        obtain ⟨i, hi, rfl, rfl, rfl, rfl⟩ := hrel
        by_cases hlt : i < m
        · obtain ⟨PE, PF⟩ := ST.out i
          have PE := hid PE
          have PF := hid PF
          have pl := hid (cap_le (y ^ i))
          have ps := hid (cap_le (sumPow y i))
          have pn := hid (cap_le (y ^ (i + 1)))
          have i1 : (i : Int) < (m : Int) := by omega
          generalize capN (y ^ i) = p at *
          generalize hp2 : capN (y ^ (i + 1)) = p2 at *
          have HP := hid hp2
          clear hp2
          generalize capN y = q at *
          generalize capN (sumPow y i) = u at *
          have wq := wrap_prod pl.out pm.out
          go_wp2_with fail
          refine (capped_prod p q _).mono ?_
          rintro e w3 ⟨rfl, rfl⟩
          rw [PE.out]
          have wu := wrap_sum ps.out pn.out
          go_wp2_with fail
          refine (capped_sum u p2 _).mono ?_
          rintro e w3 ⟨rfl, rfl⟩
          rw [PF.out]
          go_wp2_with fail
          go_roundw
          case rel => exact ⟨i + 1, by omega, rfl, by first | rfl | (rw [HP.out]), by go_num, by first | rfl | trivial⟩
          case measure => simp [intOf]; omega
        · obtain rfl : i = m := by omega
          go_wp2_with fail
          go_ret
          exact ⟨by rw [E.out]; rfl, B2.out⟩
  · have E : Hid ((Ge.mk 5 a b s).ways = Ges.tot s) := by show _ = _; rw [Ge.ways, if_neg (by decide), if_neg (by decide), if_neg (by decide), if_pos rfl]
    clear h2 h4 h5
    go_enter Tryd.func35, Tryd.ntmps35
    go_wp2_with fail
    clear X0
    go_loopw [3, 60] (fun nv iv wr => ∃ i : Nat, i ≤ s.length ∧ nv = .int .i64 (capN (Ges.tot (s.take i)) : Nat) ∧ iv = .int .i64 i ∧ Hid (Below w.heap.size w wr)) (fun _ iv _ => s.length - (intOf iv).toNat)
    case atStart => exact ⟨0, Nat.zero_le _, by rw [List.take_zero, Ges.tot]; rfl, rfl, B0⟩
    case round =>
      obtain ⟨i, hi, rfl, rfl, hB⟩ := hrel
      obtain ⟨wo, rfl⟩ : ∃ wo : World, wo = wr := ⟨_, rfl⟩
      have lB := hB.out.size
      clear B0
      by_cases hlt : i < s.length
      · obtain ⟨bl, off, rfl, hFb, hex⟩ := HS.out (by omega)
        have lb := HF.out bl hFb
        obtain ⟨a1, b1, c1, e1, q1, q2, q3, q4, hy⟩ := (GesIn.keep (Same.of_below hB.out HF.out) s hFb hex).at_ hlt
        have HY := hid hy
        have hm : s[i] ∈ s := List.getElem_mem hlt
        have PI := hid (IH.out s[i] hm (SE.out _ hm))
        have i1 : (i : Int) < (s.length : Int) := by omega
        have PE : Hid (capN (capN (Ges.tot (s.take i)) + capN s[i].ways) = capN (Ges.tot (s.take (i + 1)))) := by
          show _ = _
          rw [tot_take hlt, cap_add]
        have pl := hid (cap_le (Ges.tot (s.take i)))
        have pm := hid (cap_le s[i].ways)
        obtain ⟨⟨k1, m1, n1, s1⟩, hy0⟩ : ∃ y, y = s[i] := ⟨_, rfl⟩
        rw [← hy0] at HY PI PE pm
        obtain ⟨A1, cp1, rfl, rfl, rfl, rfl, _, _, _⟩ := HY.out.box
        generalize capN (Ges.tot (s.take i)) = p at *
        generalize capN (Ge.mk k1 m1 n1 s1).ways = q at *
        clear hex hy hy0 hm
        go_wp2_with fail
        refine (PI.out F _ _ _ _ _ (fun g hg => by have := HF.out g hg; simp; omega) (GeIn.keep (fun b hb => Below.heap_alloc _ _ _ (by have := HF.out b hb; omega)) _ HY.out)).mono ?_
        rintro e w2 ⟨rfl, hb2⟩
        have B2 := hid ((hB.out.alloc lB _).trans (hb2.mono (by simp; omega)))
        have wq := wrap_sum pl.out pm.out
        clear hb2 q1 q2 q3 q4
        go_wp2_with fail
        refine (capped_sum p q w2).mono ?_
        rintro e w3 ⟨rfl, rfl⟩
        rw [PE.out]
        go_wp2_with fail
        go_roundw
        case rel => exact ⟨i + 1, by omega, rfl, by go_num, B2⟩
        case measure => simp [intOf]; omega
      · obtain rfl : i = s.length := by omega
        have E2 : Hid (s.take s.length = s) := by show _ = _; simp
        rw [E2.out]
        go_wp2_with fail
        go_ret
        exact ⟨by rw [E.out]; rfl, hB.out⟩
theorem gcount_any : ∀ g, GCountOk g := Ge.ind gcount_step
def cntE (g : Ge) : Int := if chkG g ≠ 0 then chkG g else if g.ways ≤ 1048576 then 0 else 4
def cntN (g : Ge) : Nat := if cntE g = 0 then g.ways else 0
def CountPost (g : Ge) (w : World) (e : Ending) (w' : World) : Prop := e = .returned (.tuple #[.int .i64 (cntN g : Int), errV (cntE g)]) ∧ Below w.heap.size w w'
theorem cnt_good {g : Ge} (h : cntE g = 0) : GoodG g ∧ g.ways ≤ 1048576 ∧ cntN g = g.ways := by
  have h' := h
  unfold cntE at h
  split at h
  · omega
  · rename_i hc
    split at h
    · exact ⟨chk_goodG (by omega), by assumption, by unfold cntN; rw [if_pos h']⟩
    · omega
set_option maxRecDepth 100000 in
set_option maxHeartbeats 1000000 in
theorem count_any (g : Ge) (F : Nat → Prop) (u v x c : Value) (w : World) (hF : ∀ b, F b → b < w.heap.size) (hx : GeIn F w g u v x c) :
    Calls Tryd.prog 18 #[.agg #[u, v, x, c]] w (CountPost g w) := by
  have HX := hid hx
  have HF := hid hF
  have CA := hid (gcount_any g)
  have CE : Hid (chkG g = 0 → g.err = 0) := fun h => (chk_goodG h).right
  have C1 : Hid (chkG g ≠ 0 → cntN g = 0 ∧ cntE g = chkG g) := fun h => by
    have e : cntE g = chkG g := by unfold cntE; rw [if_pos h]
    exact ⟨by unfold cntN; rw [e, if_neg h], e⟩
  have C2 : Hid (chkG g = 0 → (g.ways ≤ 1048576 → cntN g = capN g.ways ∧ cntE g = 0 ∧ capN g.ways ≤ 1048576) ∧ (¬ g.ways ≤ 1048576 → cntN g = 0 ∧ cntE g = 4 ∧ capN g.ways = 1048577)) := fun h => by
    refine ⟨fun h2 => ?_, fun h2 => ?_⟩
    · have e : cntE g = 0 := by unfold cntE; rw [if_neg (by omega), if_pos h2]
      have e2 : capN g.ways = g.ways := cap_self (by omega)
      exact ⟨by unfold cntN; rw [if_pos e, e2], e, by omega⟩
    · have e : cntE g = 4 := by unfold cntE; rw [if_neg (by omega), if_neg h2]
      exact ⟨by unfold cntN; rw [e, if_neg (by decide)], e, by unfold capN; omega⟩
  generalize hG : g = G at HX CA CE C1 C2 ⊢
  obtain ⟨k, a, b, s⟩ := g
  obtain ⟨A, cp, rfl, rfl, rfl, rfl, l1, l2, _⟩ := hx.box
  have B0 : Hid (Below w.heap.size w (w.alloc (.cells #[.int .i64 k, .int .i64 a, .int .i64 b, .slice A s.length cp] 24))) := (Below.refl _ _).alloc (Nat.le_refl _) _
  have X0 := hid (Has.new w (.cells #[.int .i64 k, .int .i64 a, .int .i64 b, .slice A s.length cp] 24))
  clear hF hx hG
  go_enter Tryd.func18, Tryd.ntmps18
  go_wp2_with fail
  refine (gcheck_any G F _ _ _ _ _ (fun g hg => by have := HF.out g hg; simp; omega) (GeIn.keep (fun b hb => Below.heap_alloc _ _ _ (HF.out b hb)) _ HX.out)).mono ?_
  rintro e w1 ⟨rfl, hb1⟩
  have B1 := hid (B0.out.trans (hb1.mono (by simp)))
  have X1 := Has.below X0.out hb1 (by simp)
  have x0 := Has.cell X1 0
  have x1 := Has.cell X1 1
  have x2 := Has.cell X1 2
  have x3 := Has.cell X1 3
  simp at x0 x1 x2 x3
  have s1 := B1.out.size
  clear hb1 X1
  by_cases hc : chkG G = 0
  · rw [hc, errV_0]
    have ER := hid (CE.out hc)
    obtain ⟨D1, D2⟩ := C2.out hc
    have D1 := hid D1
    have D2 := hid D2
    clear hc C1 C2 CE
    go_wp2_with fail
    refine (CA.out ER.out F _ _ _ _ w1 (fun g hg => by have := HF.out g hg; omega) (GeIn.keep (Same.of_below B1.out HF.out) _ HX.out)).mono ?_
    rintro e w2 ⟨rfl, hb2⟩
    have B2 := hid (B1.out.trans (hb2.mono s1))
    clear hb2
    by_cases hw : G.ways ≤ 1048576
    · obtain ⟨e1, e2, e3⟩ := D1.out hw
      have E1 := hid e1
      have E2 := hid e2
      have g1 : decide (((capN G.ways : Nat) : Int) ≤ 1048576) = true := by simp; omega
      have g2 : decide ((1048576 : Int) < ((capN G.ways : Nat) : Int)) = false := by simp; omega
      have g3 : ((capN G.ways : Nat) : Int) ≤ 1048576 := by omega
      clear hw e1 e2 e3
      generalize capN G.ways = n at *
      go_wp2_with fail
      go_ret2
      exact ⟨by rw [E1.out, E2.out]; rfl, B2.out⟩
    · obtain ⟨e1, e2, e3⟩ := D2.out hw
      have E1 := hid e1
      have E2 := hid e2
      rw [e3]
      clear hw e1 e2 e3
      go_wp2_with fail
      go_ret2
      exact ⟨by rw [E1.out, E2.out]; rfl, B2.out⟩
  · obtain ⟨e1, e2⟩ := C1.out hc
    have E1 := hid e1
    have E2 := hid (e2.trans rfl)
    rw [errV_no hc]
    have HC := hid hc
    clear hc C1 C2 CE e1 e2
    go_wp2_with fail
    go_ret2
    exact ⟨by rw [E1.out, E2.out, errV_no HC.out]; rfl, B1.out⟩
set_option maxRecDepth 100000 in
set_option maxHeartbeats 1000000 in
theorem rcount_any (g : Ge) (hg : GoodG g) (F : Nat → Prop) (u v x c : Value) (w : World) (hF : ∀ b, F b → b < w.heap.size) (hx : GeIn F w g u v x c) :
    Calls Tryd.prog 52 #[.agg #[u, v, x, c]] w (NumPost (capN g.ways) w) := by
  have HX := hid hx
  have HF := hid hF
  have C2 : Hid ((cntE g = 0 ∧ cntN g = capN g.ways) ∨ (cntE g = 4 ∧ capN g.ways = 1048577)) := by
    have h := goodG_chk hg
    by_cases h2 : g.ways ≤ 1048576
    · have e : cntE g = 0 := by unfold cntE; rw [if_neg (by omega), if_pos h2]
      exact .inl ⟨e, by unfold cntN; rw [if_pos e, cap_self (by omega)]⟩
    · exact .inr ⟨by unfold cntE; rw [if_neg (by omega), if_neg h2], by unfold capN; omega⟩
  have CA := hid (count_any g)
  generalize hG : g = G at HX CA C2 hg ⊢
  obtain ⟨k, a, b, s⟩ := g
  obtain ⟨A, cp, rfl, rfl, rfl, rfl, l1, l2, _⟩ := hx.box
  have B0 : Hid (Below w.heap.size w (w.alloc (.cells #[.int .i64 k, .int .i64 a, .int .i64 b, .slice A s.length cp] 24))) := (Below.refl _ _).alloc (Nat.le_refl _) _
  clear hF hx hG hg
  go_enter Tryd.func52, Tryd.ntmps52
  go_wp2_with fail
  refine (CA.out F _ _ _ _ _ (fun g hg => by have := HF.out g hg; simp; omega) (GeIn.keep (fun b hb => Below.heap_alloc _ _ _ (HF.out b hb)) _ HX.out)).mono ?_
  rintro e w1 ⟨rfl, hb1⟩
  have B1 := hid (B0.out.trans (hb1.mono (by simp)))
  clear hb1
  rcases C2.out with ⟨e1, e2⟩ | ⟨e1, e2⟩
  · rw [e1, e2, errV_0]
    clear e1 e2 C2
    go_wp2_with fail
    go_ret
    exact ⟨rfl, B1.out⟩
  · rw [e1, errV_no (by decide)]
    have E2 := hid e2
    clear e1 e2 C2
    go_wp2_with fail
    go_ret
    exact ⟨by rw [E2.out]; rfl, B1.out⟩
/-- a list of generators behind a slice -/
def GesV (F : Nat → Prop) (w : World) (v : Value) (l : List Ge) : Prop :=
  ∃ A c, v = .slice A l.length c ∧ l.length ≤ c ∧ c ≤ 9223372036854775807 ∧ (0 < l.length → ∃ bl off, A = some ⟨bl, off, none⟩ ∧ F bl ∧ GesIn F w l bl off)
theorem GesV.keep {F : Nat → Prop} {w w' : World} {v : Value} {l : List Ge} (hs : Same F w w') (h : GesV F w v l) : GesV F w' v l := by
  obtain ⟨A, c, h1, h2, h3, h4⟩ := h
  refine ⟨A, c, h1, h2, h3, fun hn => ?_⟩
  obtain ⟨bl, off, e, hF, hx⟩ := h4 hn
  exact ⟨bl, off, e, hF, GesIn.keep hs l hF hx⟩
theorem GesV.more {F F' : Nat → Prop} {w : World} {v : Value} {l : List Ge} (hF : ∀ b, F b → F' b) (h : GesV F w v l) : GesV F' w v l := by
  obtain ⟨A, c, h1, h2, h3, h4⟩ := h
  refine ⟨A, c, h1, h2, h3, fun hn => ?_⟩
  obtain ⟨bl, off, e, hFb, hx⟩ := h4 hn
  exact ⟨bl, off, e, hF _ hFb, GesIn.more hF l hx⟩
theorem prod_take_le {l : List Ge} (hg : ∀ y ∈ l, 1 ≤ y.ways) (i : Nat) : Ges.prod (l.take i) ≤ Ges.prod l := by
  have h : Ges.prod l = Ges.prod (l.take i) * Ges.prod (l.drop i) := by rw [← prod_app, List.take_append_drop]
  rw [h]
  exact Nat.le_mul_of_pos_right _ (prod_pos _ fun y hy => hg y (List.mem_of_mem_drop hy))
set_option maxRecDepth 100000 in
set_option maxHeartbeats 1000000 in
theorem product_any (l : List Ge) (hg : ∀ y ∈ l, GoodG y) (hp : Ges.prod l ≤ 1048576) (F : Nat → Prop) (v : Value) (w : World) (hF : ∀ b, F b → b < w.heap.size) (hv : GesV F w v l) :
    Calls Tryd.prog 33 #[v] w (NumPost (Ges.prod l) w) := by
  have HF := hid hF
  have HG := hid hg
  have HP := hid hp
  obtain ⟨A, cp, rfl, l1, l2, hs⟩ := hv
  have HS := hid hs
  have WP : Hid (∀ y ∈ l, 1 ≤ y.ways) := fun y hy => (hg y hy).ways
  clear hF hg hp hs
  go_enter Tryd.func33, Tryd.ntmps33
  go_wp2_with fail
  go_loopw [3, 8] (fun nv iv wr => ∃ i : Nat, i ≤ l.length ∧ nv = .int .i64 (Ges.prod (l.take i) : Nat) ∧ iv = .int .i64 i ∧ Hid (Below w.heap.size w wr)) (fun _ iv _ => l.length - (intOf iv).toNat)
  case atStart => exact ⟨0, Nat.zero_le _, by rw [List.take_zero, Ges.prod]; rfl, rfl, Below.refl _ _⟩
  case round =>
    obtain ⟨i, hi, rfl, rfl, hB⟩ := hrel
    obtain ⟨wo, rfl⟩ : ∃ wo : World, wo = wr := ⟨_, rfl⟩
    have lB := hB.out.size
    by_cases hlt : i < l.length
    · obtain ⟨bl, off, rfl, hFb, hex⟩ := HS.out (by omega)
      have lb := HF.out bl hFb
      obtain ⟨a1, b1, c1, e1, q1, q2, q3, q4, hy⟩ := (GesIn.keep (Same.of_below hB.out HF.out) l hFb hex).at_ hlt
      have HY := hid hy
      have hm : l[i] ∈ l := List.getElem_mem hlt
      have PI := hid (rcount_any l[i] (HG.out _ hm))
      have i1 : (i : Int) < (l.length : Int) := by omega
      have PE := hid (prod_take hlt)
      have P0 := hid (Nat.le_trans (prod_take_le WP.out i) HP.out)
      have P1 := hid (Nat.le_trans (prod_take_le WP.out (i + 1)) HP.out)
      have PP := hid (prod_pos (l.take i) fun y hy => WP.out y (List.mem_of_mem_take hy))
      have PW : Hid (l[i].ways ≤ 1048576) := by
        have h1 := P1.out
        rw [PE.out] at h1
        exact Nat.le_trans (Nat.le_mul_of_pos_left _ PP.out) h1
      have PC : Hid (capN l[i].ways = l[i].ways) := cap_self (by have := PW.out; omega)
      obtain ⟨⟨k1, m1, n1, s1⟩, hy0⟩ : ∃ y, y = l[i] := ⟨_, rfl⟩
      rw [← hy0] at HY PI PE PC PW
      obtain ⟨A1, cp1, rfl, rfl, rfl, rfl, _, _, _⟩ := HY.out.box
      have PI2 : Hid (∀ (F : Nat → Prop) (u v x c : Value) (w : World), (∀ b, F b → b < w.heap.size) → GeIn F w (.mk k1 m1 n1 s1) u v x c → Calls Tryd.prog 52 #[.agg #[u, v, x, c]] w (NumPost (Ge.mk k1 m1 n1 s1).ways w)) := by
        show ∀ _, _
        rw [← PC.out]; exact PI.out
      have wq := wrap_prod (Nat.le_trans P0.out (by omega : 1048576 ≤ 1048577)) (Nat.le_trans PW.out (by omega : 1048576 ≤ 1048577))
      generalize Ges.prod (l.take i) = p at *
      generalize (Ge.mk k1 m1 n1 s1).ways = q at *
      clear hex hy hy0 hm PI
      go_wp2_with fail
      refine (PI2.out F _ _ _ _ _ (fun g hg => by have := HF.out g hg; simp; omega) (GeIn.keep (fun b hb => Below.heap_alloc _ _ _ (by have := HF.out b hb; omega)) _ HY.out)).mono ?_
      rintro e w2 ⟨rfl, hb2⟩
      have B2 := hid ((hB.out.alloc lB _).trans (hb2.mono (by simp; omega)))
      clear hb2 q1 q2 q3 q4
      go_wp2_with fail
      go_roundw
      case rel => exact ⟨i + 1, by omega, by rw [PE.out, Int.natCast_mul]; first | rfl | rw [wq], by go_num, B2⟩
      case measure => simp [intOf]; omega
    · obtain rfl : i = l.length := by omega
      have E2 : Hid (l.take l.length = l) := by show _ = _; simp
      rw [E2.out]
      go_wp2_with fail
      go_ret
      exact ⟨rfl, hB.out⟩
end Go.Proofs.YtopehfmppfibhaaDoor
