/- What val.Text returns: a number's numeral, a list's texts in brackets, a blank between each two. Conditions: at most 4 * 10^9 parts; the library's table of powers holds what it is laid with. -/
import Derived.Test.YtpljcpeofnobbaaDoorVty
import Derived.Test.YtpljcpeofnobbaaDoorVai
import Derived.Test.YtpljcpeofnobbaaDoorShv
import Derived.Test.YtpljcpeofnobbaaDoorGen
import Derived.Deep.OwnRows
namespace Go.Proofs.YtpljcpeofnobbaaDoor
open Go.RowKit Go.Deep
theorem infoStr : (Tryd.prog.info? 9).map (fun i => (i.zero, i.size, i.bytes)) = some (some (.string ⟨#[]⟩), 1, 16) := by kernel_rfl
theorem grow_below (w : World) (k : Nat) (os : Array Obj) : Below w.heap.size w (Go.Sort.grow (w.drewN k) os) := by
  have h := below_drewN (Below.refl w.heap.size w) k
  refine ⟨h.os, h.tape, h.output, ?_, fun b hb => ?_⟩
  · have := h.size
    simp only [Go.Sort.grow, Array.size_append]; omega
  · have h1 := h.block b hb
    have h2 := h.size
    show ((w.drewN k).heap ++ os)[b]? = _
    rw [Array.getElem?_append_left (by omega)]
    exact h1
def Tab (w : World) : Prop := Lib.TabIs Tryd.prog w "internal/strconv.uint64pow10" .u64 Lib.pow10Tab
theorem cells_oneT (w : World) (x : Value) (t : TypeId) {g : Nat} (hg : g = w.heap.size) : CellsIn (fun b => b = g) (w.alloc (.cells #[x] t)) 1 (.slice (some ⟨g, 0, none⟩) 1 1) 1 [x] := by
  subst hg
  exact ⟨_, 1, rfl, rfl, fun _ => ⟨w.heap.size, 0, rfl, rfl, fun j u hj => by
    match j, hj with
    | 0, hj => simp at hj; subst hj; simp⟩⟩
theorem wf_bounds {x : Int} (h : (Lit.int .i64 x).wf = true) : -9223372036854775808 ≤ x ∧ x ≤ 9223372036854775807 := by
  simp [Lit.wf, IntKind.min, IntKind.max, IntKind.signed, IntKind.bits] at h; omega
theorem own_sl2 {w : World} {base : Nat} {e : TypeId} {size n : Nat} {v : Value} {xs : List Value} (h : w.ownsRow base e size v n xs) : ∃ A c, v = .slice A n c ∧ n ≤ c ∧ c ≤ maxLen := by
  rcases h.2 with ⟨rfl, rfl⟩ | ⟨g, cap, cur, rfl, hb, hh, hc1, hc2, _⟩
  · exact ⟨none, 0, rfl, Nat.le_refl _, by unfold maxLen; omega⟩
  · exact ⟨_, cap, rfl, hc1, hc2⟩
theorem VaIn.boxT {F : Nat → Prop} {w : World} {k : Bool} {n : Int} {s : List Va} {a b c : Value} (h : VaIn F w (.mk k n s) a b c) : ∃ A cp, a = .bool k ∧ b = .int .i64 n ∧ c = .slice A s.length cp ∧ s.length ≤ cp ∧ cp ≤ 9223372036854775807 ∧ (Lit.int .i64 n).wf = true ∧ (0 < s.length → ∃ bl off, A = some ⟨bl, off, none⟩ ∧ F bl ∧ VasIn F w s bl off) := by
  rw [VaIn] at h
  obtain ⟨h1, h2, h3, A, cp, h5, h6, h7⟩ := h
  exact ⟨A, cp, h1, h2, h5, h6.1, by have := h6.2; unfold maxLen at this; omega, h3, h7⟩
mutual
theorem VaIn.wfs {F : Nat → Prop} {w : World} : ∀ (x : Va) {a b c : Value}, VaIn F w x a b c → x.wf
  | .mk k n s, a, b, c, h => by
    obtain ⟨A, cp, _, _, _, _, _, h1, h2⟩ := h.boxT
    rw [Va.wf]
    refine ⟨wf_bounds h1, ?_⟩
    by_cases h0 : 0 < s.length
    · obtain ⟨bl, off, _, _, h3⟩ := h2 h0
      exact VasIn.wfs s h3
    · obtain rfl : s = [] := List.eq_nil_of_length_eq_zero (by omega)
      rw [Vas.wf]; trivial
theorem VasIn.wfs {F : Nat → Prop} {w : World} : ∀ (s : List Va) {bl o : Nat}, VasIn F w s bl o → Vas.wf s
  | [], _, _, _ => by rw [Vas.wf]; trivial
  | x :: r, bl, o, h => by
    rw [VasIn] at h
    obtain ⟨⟨a, b, c, _, _, _, h4⟩, h5⟩ := h
    rw [Vas.wf]
    exact ⟨VaIn.wfs x h4, VasIn.wfs r h5⟩
end
def strB (l : List UInt8) : ByteArray := ⟨l.toArray⟩
theorem strB_list (l : List (List UInt8)) : (l.map strB).map (·.data.toList) = l := by
  induction l with
  | nil => rfl
  | cons x r ih => rw [List.map_cons, List.map_cons, ih]; simp [strB]
theorem strB_brackets (j : List UInt8) : (⟨#[40]⟩ : ByteArray) ++ strB j ++ (⟨#[41]⟩ : ByteArray) = strB ([40] ++ j ++ [41]) := by
  apply ByteArray.ext
  simp [strB]
def TextPost (v : Va) (w : World) (e : Ending) (w' : World) : Prop := e = .returned (.string (strB v.text)) ∧ Below w.heap.size w w'
def TextOk (v : Va) : Prop := ∀ (F : Nat → Prop) (a b c : Value) (w : World), (∀ g, F g → g < w.heap.size) → VaIn F w v a b c → v.size ≤ 4000000000 → (∀ w', Below w.heap.size w w' → Tab w') →
  Calls Tryd.prog 7 #[.agg #[a, b, c]] w (TextPost v w)
set_option maxRecDepth 100000 in
set_option maxHeartbeats 1000000 in
theorem vtext_num (n : Int) (s : List Va) (F : Nat → Prop) (a b c : Value) (w : World) (hx : VaIn F w (.mk false n s) a b c) (ht : ∀ w', Below w.heap.size w w' → Tab w') :
    Calls Tryd.prog 7 #[.agg #[a, b, c]] w (TextPost (.mk false n s) w) := by
  have HT := hid ht
  obtain ⟨A, cp, rfl, rfl, rfl, _, _, hw, _⟩ := hx.boxT
  have XB := hid (wf_bounds hw)
  have E : Hid ((Va.mk false n s).text = Lib.itoa n) := by show _ = _; rw [Va.text]; simp
  have B0 : Hid (Below w.heap.size w (w.alloc (.cells #[.bool false, .int .i64 n, .slice A s.length cp] 24))) := (Below.refl _ _).alloc (Nat.le_refl _) _
  clear hx hw ht
  go_enter Tryd.func7, Tryd.ntmps7
  go_wp2_with (go_at_call 13; refine (Tryd.strconv_Itoa n XB.out.1 XB.out.2 _ (HT.out _ B0.out)).mono ?_)
  rintro e w1 ⟨rfl, k, os, rfl⟩
  have P1 := hid (grow_below (w.alloc (.cells #[.bool false, .int .i64 n, .slice A s.length cp] 24)) k os)
  generalize Go.Sort.grow ((w.alloc (.cells #[.bool false, .int .i64 n, .slice A s.length cp] 24)).drewN k) os = w1 at *
  have B1 := hid (B0.out.trans (P1.out.mono (by simp)))
  go_wp2_with fail
  go_ret
  exact ⟨by rw [E.out]; rfl, B1.out⟩
set_option maxRecDepth 100000 in
set_option maxHeartbeats 4000000 in
theorem vtext_list (n : Int) (s : List Va) (ih : ∀ y ∈ s, TextOk y) (F : Nat → Prop) (a b c : Value) (w : World) (hF : ∀ g, F g → g < w.heap.size) (hx : VaIn F w (.mk true n s) a b c) (hs : (Va.mk true n s).size ≤ 4000000000) (ht : ∀ w', Below w.heap.size w w' → Tab w') :
    Calls Tryd.prog 7 #[.agg #[a, b, c]] w (TextPost (.mk true n s) w) := by
  have HF := hid hF
  have HT := hid ht
  have IH := hid ih
  have WFS := hid (VaIn.wfs _ hx)
  obtain ⟨A, cp, rfl, rfl, rfl, l1, l2, _, h3⟩ := hx.boxT
  have H3 := hid h3
  rw [Va.size] at hs
  have SZ : Hid (∀ y ∈ s, y.size ≤ 4000000000) := fun y hy => by have := vsize_mem hy; omega
  have sl : s.length ≤ 4000000000 := by have := vsize_len s; omega
  have JL : Hid ((Lib.join (Vas.texts s) [32]).length ≤ 100000000000) := by
    have := join_in s fun y hy => by have h := WFS.out; rw [Va.wf] at h; exact vwf_mem h.2 y hy
    show _ ≤ _; omega
  have E : Hid ((Va.mk true n s).text = [40] ++ Lib.join (Vas.texts s) [32] ++ [41]) := by show _ = _; rw [Va.text]; simp
  obtain ⟨iS, hiS, hzS0, hzS1, hzS2⟩ := info_parts infoStr
  have B0 : Hid (Below w.heap.size w (w.alloc (.cells #[.bool true, .int .i64 n, .slice A s.length cp] 24))) := (Below.refl _ _).alloc (Nat.le_refl _) _
  clear hF hx ih h3 ht hs WFS
  go_enter Tryd.func7, Tryd.ntmps7
  go_wp2_with fail
  go_loopw [3, 15] (fun ov ii wr => ∃ i : Nat, i ≤ s.length ∧ ii = .int .i64 i ∧ Hid (wr.ownsRow w.heap.size 9 1 ov i ((Vas.texts (s.take i)).map fun x => Value.string (strB x))) ∧ Hid (Below w.heap.size w wr)) (fun _ ii _ => s.length - (intOf ii).toNat)
  case atStart => exact ⟨0, Nat.zero_le _, rfl, World.ownsRow_nil _ _ _ _, B0⟩
  case round =>
    obtain ⟨i, hi, rfl, hO, hB⟩ := hrel
    have sB := hB.out.size
    obtain ⟨wo, hwo⟩ : ∃ wo, wo = wr := ⟨_, rfl⟩
    subst hwo
    by_cases hlt : i < s.length
    · obtain ⟨bl, off, rfl, hFb, hex⟩ := H3.out (by omega)
      have lb := HF.out bl hFb
      obtain ⟨a1, b1, c1, q1, q2, q3, hy⟩ := (VasIn.keep (Same.of_below hB.out HF.out) s hFb hex).at_ hlt
      have HY := hid hy
      have PI := hid (IH.out s[i] (List.getElem_mem hlt))
      have SY := hid (SZ.out s[i] (List.getElem_mem hlt))
      have i1 : (i : Int) < (s.length : Int) := by omega
      have TK : Hid ((Vas.texts (s.take (i + 1))).map (fun x => Value.string (strB x)) = (Vas.texts (s.take i)).map (fun x => Value.string (strB x)) ++ [.string (strB s[i].text)]) := by
        show _ = _
        rw [List.take_succ_eq_append_getElem hlt, texts_app]; simp
      obtain ⟨⟨k1, n1, s1⟩, hy0⟩ : ∃ y, y = s[i] := ⟨_, rfl⟩
      rw [← hy0] at HY PI SY TK
      obtain ⟨A1, cp1, rfl, rfl, rfl, _, _, _, _⟩ := HY.out.boxT
      obtain ⟨A2, c2, hv, _, _⟩ := own_sl2 hO.out
      subst hv
      have BX : Hid (Below w.heap.size w (wo.alloc (.cells #[.bool k1, .int .i64 n1, .slice A1 s1.length cp1] 24))) := hB.out.alloc (by omega) _
      clear hex hy hy0
      go_wp2_with fail
      refine (PI.out F _ _ _ _ (fun g hg => by have := HF.out g hg; simp; omega) (VaIn.keep (fun b hb => Below.heap_alloc _ _ _ (by have := HF.out b hb; omega)) _ HY.out) SY.out (fun w' hb => HT.out w' (BX.out.trans (hb.mono (by simp; omega))))).mono ?_
      rintro e w1 ⟨rfl, hb⟩
      have s1' := hb.size
      simp only [World.size_alloc] at s1'
      have B1 := hid (BX.out.trans (hb.mono (by simp; omega)))
      have O1 := hid ((own_below (own_below hO.out ((Below.refl _ _).alloc (Nat.le_refl _) (.cells #[.bool k1, .int .i64 n1, .slice A1 s1.length cp1] 24))) (hb.mono (by simp))).alloc (.cells #[.string (strB (Va.mk k1 n1 s1).text)] 9))
      have OGE := hid (own_ge hO.out)
      generalize strB (Va.mk k1 n1 s1).text = tx at *
      clear hb
      go_wp2_with (at_builtin; go_loud (refine wpList_app _ rfl _ _ 43 rfl w.heap.size 9 iS (.string ⟨#[]⟩) 1 16 Tryd.underlying43 hiS hzS0 hzS1 hzS2 rfl (by decide) _ _ _ rfl O1.out _ _ 1 [.string tx] rfl (cells_oneT _ _ _ (by simp)) (by intro u hu; simp at hu; subst hu; rfl) (by unfold maxLen; omega) (by omega) (by simp; omega) ?_; intro v2 w2 hown hgrow _; have O3 : Hid (w2.ownsRow w.heap.size 9 1 v2 (i + 1) ((Vas.texts (s.take (i + 1))).map fun x => Value.string (strB x))) := (by show World.ownsRow _ _ _ _ _ _ _; rw [TK.out]; exact hown); have B3 : Hid (Below w.heap.size w w2) := (B1.out.alloc (by omega) _).grown hgrow (by simp; omega) OGE.out; clear hown hgrow))
      go_roundw
      case rel => exact ⟨i + 1, by omega, by go_num, O3, B3⟩
      case measure => simp [intOf]; omega
    · obtain rfl : i = s.length := by omega
      rw [List.take_length] at hO
      have JN : Hid (Calls Tryd.prog 14 #[u3, .string ⟨#[32]⟩] wo fun e w' => e = .returned (.string (strB (Lib.join (Vas.texts s) [32]))) ∧ Below w.heap.size w w') := by
        show Calls _ _ _ _ _
        by_cases h0 : 0 < s.length
        · obtain ⟨g, cap, rfl, hb, hlt2, hc1, hc2, hcell⟩ := own_open hO.out h0
          have el : (((Vas.texts s).map strB).map (·.data.toList)) = Vas.texts s := strB_list _
          have hlen : (Lib.join (((Vas.texts s).map strB).map (·.data.toList)) (⟨#[32]⟩ : ByteArray).data.toList).length ≤ 140737488355328 := by
            rw [el]; have := JL.out; show (Lib.join (Vas.texts s) [32]).length ≤ _; omega
          have := Tryd.strings_Join g 0 cap ((Vas.texts s).map strB) ⟨#[32]⟩ wo (fun j y hj => by
            have hjl : j < s.length := by
              rcases Nat.lt_or_ge j s.length with h | h
              · exact h
              · rw [List.getElem?_eq_none (by simpa [texts_len] using h)] at hj; cases hj
            have hjt : j < (Vas.texts s).length := by rw [texts_len]; exact hjl
            rw [Nat.zero_add, hcell j (by omega)]
            rw [List.getElem?_map, List.getElem?_eq_getElem hjt] at hj ⊢
            injection hj with hj
            rw [← hj]; rfl) hlt2 (by simp [texts_len]; omega) (by simpa [texts_len] using hc1) hlen
          rw [List.length_map, texts_len] at this
          refine this.mono ?_
          rintro e w' ⟨h1, h2⟩
          rw [el] at h1
          exact ⟨h1, hB.out.trans (h2.mono sB)⟩
        · have e : s = [] := List.eq_nil_of_length_eq_zero (by omega)
          subst e
          obtain ⟨A9, c9, rfl, _, _⟩ := own_sl2 hO.out
          refine (Tryd.strings_Join_none A9 c9 ⟨#[32]⟩ wo).mono ?_
          rintro e w' ⟨h1, rfl⟩
          exact ⟨h1, hB.out⟩
      obtain ⟨JT, hJT⟩ : ∃ JT, JT = strB (Lib.join (Vas.texts s) [32]) := ⟨_, rfl⟩
      have HJT := hid hJT
      rw [← hJT] at JN
      have jl : JT.size ≤ 100000000000 := by rw [hJT]; have := JL.out; show (Lib.join (Vas.texts s) [32]).toArray.size ≤ _; simpa using this
      clear hJT
      go_wp2_with (go_at_call 14; refine JN.out.mono ?_)
      rintro e w1 ⟨rfl, hb⟩
      have B2 := hid hb
      clear hb
      go_wp2_with fail
      go_ret
      exact ⟨by rw [E.out, ← strB_brackets, ← HJT.out]; rfl, B2.out⟩
theorem vtext_any : ∀ v, TextOk v := Va.ind fun l n s ih F a b c w hF hx hs ht => by
  cases l with
  | false => exact vtext_num n s F a b c w hx ht
  | true => exact vtext_list n s ih F a b c w hF hx hs ht
end Go.Proofs.YtpljcpeofnobbaaDoor
