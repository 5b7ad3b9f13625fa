/- The reference's ValueText: the value's text. No conditions. -/
import Derived.Test.YtpljcpeofnobbaaDoorVdg
namespace Go.Proofs.YtpljcpeofnobbaaDoor
open Go.RowKit Go.Deep
theorem vtake_size : ∀ (s : List Va) (i : Nat), Vas.size (s.take i) ≤ Vas.size s
  | [], i => by simp
  | y :: r, 0 => by simp [Vas.size]
  | y :: r, i + 1 => by rw [List.take_succ_cons, Vas.size, Vas.size]; have := vtake_size r i; omega
theorem join_snoc {l : List (List UInt8)} {x sep : List UInt8} (h : l ≠ []) : Lib.join (l ++ [x]) sep = Lib.join l sep ++ sep ++ x := by
  cases l with
  | nil => exact absurd rfl h
  | cons y r =>
    rw [List.cons_append, Lib.join_cons, Lib.join_cons]
    simp [Lib.joinTail]
def preT (s : List Va) (i : Nat) : List UInt8 := [40] ++ Lib.join (Vas.texts (s.take i)) [32]
theorem preT_zero (s : List Va) : preT s 0 = [40] := rfl
theorem preT_one {s : List Va} (h : 0 < s.length) : preT s 1 = ([40] : List UInt8) ++ s[0].text := by
  unfold preT
  rw [List.take_succ_eq_append_getElem h, texts_app]
  simp [Vas.texts, Lib.join_one]
theorem preT_succ {s : List Va} {i : Nat} (h0 : 0 < i) (h : i < s.length) : preT s (i + 1) = preT s i ++ [32] ++ s[i].text := by
  unfold preT
  rw [List.take_succ_eq_append_getElem h, texts_app, join_snoc (fun e => by
    have := congrArg List.length e
    rw [texts_len, List.length_take, List.length_nil] at this
    omega)]
  simp
theorem preT_len {s : List Va} (hw : ∀ y ∈ s, y.wf) (hs : Vas.size s ≤ 4000000000) (i : Nat) : (preT s i).length ≤ 100000000000 := by
  unfold preT
  have h1 := join_in (s.take i) fun y hy => hw y (List.mem_of_mem_take hy)
  have h2 := vtake_size s i
  simp only [List.length_append, List.length_singleton]
  omega
theorem preT_end (n : Int) (s : List Va) : preT s s.length ++ [41] = (Va.mk true n s).text := by
  unfold preT
  rw [List.take_length, Va.text]; simp
def RTextOk (v : Va) : Prop := ∀ (F : Nat → Prop) (a b c : Value) (w : World), (∀ g, F g → g < w.heap.size) → VaIn F w v a b c → v.size ≤ 4000000000 →
  Calls Tryd.prog 10 #[.agg #[a, b, c]] w (TextPost v w)
set_option maxRecDepth 100000 in
set_option maxHeartbeats 1000000 in
theorem rtext_num (n : Int) (s : List Va) (F : Nat → Prop) (a b c : Value) (w : World) (hx : VaIn F w (.mk false n s) a b c) :
    Calls Tryd.prog 10 #[.agg #[a, b, c]] w (TextPost (.mk false n s) w) := by
  obtain ⟨A, cp, rfl, rfl, rfl, _, _, hw, _⟩ := hx.boxT
  have XB := wf_bounds hw
  have E : Hid ((Va.mk false n s).text = Lib.itoa n) := by show _ = _; rw [Va.text]; simp
  have DG := hid (digits_any n XB.1 XB.2)
  have B0 : Hid (Below w.heap.size w (w.alloc (.cells #[.bool false, .int .i64 n, .slice A s.length cp] 24))) := (Below.refl _ _).alloc (Nat.le_refl _) _
  clear hx hw XB
  go_enter Tryd.func10, Tryd.ntmps10
  go_wp2_with fail
  refine (DG.out _).mono ?_
  rintro e w1 ⟨rfl, hb⟩
  have B1 := hid (B0.out.trans (hb.mono (by simp)))
  clear hb
  go_wp2_with fail
  go_ret
  exact ⟨by rw [E.out]; rfl, B1.out⟩
set_option maxRecDepth 100000 in
set_option maxHeartbeats 4000000 in
theorem rtext_list (n : Int) (s : List Va) (ih : ∀ y ∈ s, RTextOk y) (F : Nat → Prop) (a b c : Value) (w : World) (hF : ∀ g, F g → g < w.heap.size) (hx : VaIn F w (.mk true n s) a b c) (hs : (Va.mk true n s).size ≤ 4000000000) :
    Calls Tryd.prog 10 #[.agg #[a, b, c]] w (TextPost (.mk true n s) w) := by
  have HF := hid hF
  have IH := hid ih
  have WFS := VaIn.wfs _ hx
  rw [Va.wf] at WFS
  obtain ⟨A, cp, rfl, rfl, rfl, l1, l2, _, h3⟩ := hx.boxT
  have H3 := hid h3
  rw [Va.size] at hs
  have SZ : Hid (∀ y ∈ s, y.size ≤ 4000000000) := fun y hy => by have := vsize_mem hy; omega
  have sl : s.length ≤ 4000000000 := by have := vsize_len s; omega
  have PL := hid (preT_len (vwf_mem WFS.2) (by omega : Vas.size s ≤ 4000000000))
  have TL : Hid (∀ y ∈ s, y.text.length ≤ 100000000000) := fun y hy => by have h1 := text_le y (vwf_mem WFS.2 y hy); have h2 := SZ.out y hy; omega
  have B0 : Hid (Below w.heap.size w (w.alloc (.cells #[.bool true, .int .i64 n, .slice A s.length cp] 24))) := (Below.refl _ _).alloc (Nat.le_refl _) _
  clear hF hx ih h3 hs WFS
  go_enter Tryd.func10, Tryd.ntmps10
  go_wp2_with fail
  go_loopw [3, 4] (fun sv iv wr => ∃ i : Nat, i ≤ s.length ∧ iv = .int .i64 i ∧ sv = .string (strB (preT s i)) ∧ Hid (wr.heap[w.heap.size]? = some (.cells #[.bool true, .int .i64 n, .slice A s.length cp] 24 (0, 0))) ∧ Hid (Below w.heap.size w wr)) (fun _ iv _ => s.length - (intOf iv).toNat)
  case atStart => exact ⟨0, Nat.zero_le _, rfl, rfl, Has.new _ _, B0.out⟩
  case round =>
    obtain ⟨i, hi, rfl, rfl, hX, hB⟩ := hrel
    obtain ⟨wo, hwo⟩ : ∃ wo, wo = wr := ⟨_, rfl⟩
    subst hwo
    have x2 := Has.cell hX.out 2
    simp at x2
    obtain ⟨JT, hJT⟩ : ∃ JT, JT = strB (preT s i) := ⟨_, rfl⟩
    have HJT := hid hJT
    have jl : JT.size ≤ 100000000000 := by rw [hJT]; exact PL.out i
    rw [← hJT]
    clear hJT
    by_cases hlt : i < s.length
    · obtain ⟨bl, off, rfl, hFb, hex⟩ := H3.out (by omega)
      have lb := HF.out bl hFb
      obtain ⟨a1, b1, c1, q1, q2, q3, hy⟩ := (VasIn.keep (Same.of_below hB.out HF.out) s hFb hex).at_ hlt
      have HY := hid hy
      have PI := hid (IH.out s[i] (List.getElem_mem hlt))
      have SY := hid (SZ.out s[i] (List.getElem_mem hlt))
      have ST : Hid (0 < i → preT s (i + 1) = preT s i ++ [32] ++ s[i].text) := fun h0 => preT_succ h0 hlt
      have ST0 : Hid (i = 0 → preT s (i + 1) = ([40] : List UInt8) ++ s[i].text) := fun h0 => by subst h0; exact preT_one hlt
      have TY := TL.out s[i] (List.getElem_mem hlt)
      have i1 : (i : Int) < (s.length : Int) := by omega
      obtain ⟨⟨k1, n1, s1⟩, hy0⟩ : ∃ y, y = s[i] := ⟨_, rfl⟩
      rw [← hy0] at HY PI SY ST ST0 TY
      obtain ⟨A1, cp1, rfl, rfl, rfl, _, _, _, _⟩ := HY.out.boxT
      have FW := hid (fun g hg => Nat.lt_of_lt_of_le (HF.out g hg) hB.out.size : ∀ g, F g → g < wo.heap.size)
      obtain ⟨TX, hTX⟩ : ∃ TX, TX = strB (Va.mk k1 n1 s1).text := ⟨_, rfl⟩
      have HTX := hid hTX
      have tl : TX.size ≤ 100000000000 := by rw [hTX]; exact TY
      have CT : Hid (Calls Tryd.prog 10 #[.agg #[.bool k1, .int .i64 n1, .slice A1 s1.length cp1]] wo fun e w' => e = .returned (.string TX) ∧ Below wo.heap.size wo w') := by
        rw [hTX]; exact PI.out F _ _ _ _ FW.out HY.out SY.out
      clear hex hy hy0 hTX TY
      by_cases h0 : i = 0
      · subst h0
        simp only [Nat.zero_mul, Nat.add_zero] at q1 q2 q3
        have S0 : Hid (preT s 1 = ([40] : List UInt8) ++ (Va.mk k1 n1 s1).text) := ST0.out rfl
        clear ST ST0
        go_wp2_with fail
        refine CT.out.mono ?_
        rintro e w1 ⟨rfl, hb⟩
        have X1 := hid ((hb.block _ (Has.lt hX.out)).trans hX.out)
        have B1 := hid (hB.out.trans (hb.mono hB.out.size))
        clear hb
        go_wp2_with fail
        go_roundw
        case rel => exact ⟨1, by omega, rfl, by rw [S0.out, HJT.out, HTX.out, preT_zero, strB_app], X1.out, B1.out⟩
        case measure => simp [intOf]; omega
      · have p1 : (0 : Int) < (i : Int) := by omega
        go_wp2_with fail
        refine CT.out.mono ?_
        rintro e w1 ⟨rfl, hb⟩
        have X1 := hid ((hb.block _ (Has.lt hX.out)).trans hX.out)
        have B1 := hid (hB.out.trans (hb.mono hB.out.size))
        clear hb
        go_wp2_with fail
        go_roundw
        case rel => exact ⟨i + 1, by omega, by go_num, by rw [ST.out (by omega), HJT.out, HTX.out, ← strB_app, ← strB_app]; rfl, X1.out, B1.out⟩
        case measure => simp [intOf]; omega
    · obtain rfl : i = s.length := by omega
      have E := hid (preT_end n s)
      go_wp2_with fail
      go_ret
      exact ⟨by rw [← E.out, ← strB_app, ← HJT.out]; rfl, hB.out⟩
theorem rtext_any : ∀ v, RTextOk v := Va.ind fun l n s ih F a b c w hF hx hs => by
  cases l with
  | false => exact rtext_num n s F a b c w hx
  | true => exact rtext_list n s ih F a b c w hF hx hs
end Go.Proofs.YtpljcpeofnobbaaDoor
