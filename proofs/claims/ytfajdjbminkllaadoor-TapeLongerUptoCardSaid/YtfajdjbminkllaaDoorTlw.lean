/- The law TapeLonger: it returns true, and all that the call was given reads as before. Conditions: the library's table of powers holds what it is laid with; at most 2^20 numbers each. -/
import Derived.Test.YtfajdjbminkllaaDoorTlt
import Derived.Test.YtfajdjbminkllaaDoorRcn
namespace Go.Proofs.YtfajdjbminkllaaDoor
open Go.RowKit
def LawPost (W : World) (e : Ending) (w' : World) : Prop := e = .returned (.bool true) ∧ Below W.heap.size W w'
theorem Tab.below {w w' : World} (h : Tab w) (h0 : 0 < w.heap.size) (hb : Below w.heap.size w w') : Tab w' := by
  unfold Tab Lib.TabIs World.var? at h ⊢
  rw [show Tryd.prog.globalNamed "internal/strconv.uint64pow10" = some 0 by kernel_rfl] at h ⊢
  simp only [Option.bind_some] at h ⊢
  rw [hb.block 0 h0]
  exact h
theorem wrap_le {p q r : Nat} (h : p + q ≤ r) (hp : p ≤ 100000000) (hq : q ≤ 1048576) : decide (wrap64 ((p : Int) + (q : Int)) ≤ (r : Int)) = true := by
  have hw : wrap64 ((p : Int) + (q : Int)) = (p : Int) + (q : Int) := by unfold wrap64; omega
  rw [hw, decide_eq_true_iff]
  omega
set_option maxRecDepth 100000 in
set_option maxHeartbeats 2000000 in
theorem tapeLonger_walk (a : List Int) (u : Value) (b : List Int) (v : Value) (W : World) (hL : Tab W) (h0 : 0 < W.heap.size) (hu : IntsIn .i64 (fun b => b < W.heap.size) W u a) (hv : IntsIn .i64 (fun b => b < W.heap.size) W v b) (hza : a.length ≤ 1048576) (hzb : b.length ≤ 1048576) :
    Calls Tryd.prog 3 #[u, v] W (LawPost W) := by
  have HL := hid hL
  have H0 := hid h0
  have HU := hid hu
  have HV := hid hv
  have WFA : Hid (∀ z ∈ a, (Lit.int .i64 z).wf = true) := by obtain ⟨_, _, _, _, h, _⟩ := hu; exact h
  have WFB : Hid (∀ z ∈ b, (Lit.int .i64 z).wf = true) := by obtain ⟨_, _, _, _, h, _⟩ := hv; exact h
  have HZA := hid hza
  have HZB := hid hzb
  obtain ⟨A1, c1, rfl, -, -, -⟩ := hu
  obtain ⟨A2, c2, rfl, -, -, -⟩ := hv
  obtain ⟨i0, hi, hz0, hz1, hz2⟩ := info_parts infoInt
  clear hL h0
  obtain ⟨w1, hw1⟩ : ∃ z, z = W.alloc (.cells #[.int .i64 5] 3) := ⟨_, rfl⟩
  obtain ⟨w2, hw2⟩ : ∃ z, z = w1.alloc (.cells #[.int .i64 1, .int .i64 1] 3) := ⟨_, rfl⟩
  have S2 : Hid (w1.heap.size = W.heap.size + 1 ∧ w2.heap.size = W.heap.size + 2) := by show _ ∧ _; exact ⟨by rw [hw1]; simp, by rw [hw2, hw1]; simp⟩
  have B2 : Hid (Below W.heap.size W w2) := by show Below _ _ _; rw [hw2, hw1]; exact ((Below.refl _ _).alloc (Nat.le_refl _) _).alloc (by simp) _
  have X1 : Hid (w2.heap[W.heap.size]? = some (.cells #[.int .i64 5] 3 (0, 0))) := by show _ = _; rw [hw2, hw1]; exact Has.alloc (Has.new W _) _
  have X2 : Hid (w2.heap[W.heap.size + 1]? = some (.cells #[.int .i64 1, .int .i64 1] 3 (0, 0))) := by show _ = _; rw [hw2, hw1]; exact Has.newAt _ _ (by simp)
  have I1 : Hid (IntsIn .i64 (fun b => b < w2.heap.size) w2 (.slice (some ⟨W.heap.size, 0, none⟩) 1 1) [5]) := ints1 (by have := S2.out; omega) ((Has.cell X1.out 0).trans rfl) (by decide)
  have I2 : Hid (IntsIn .i64 (fun b => b < w2.heap.size) w2 (.slice (some ⟨W.heap.size + 1, 0, none⟩) 2 2) [1, 1]) := ⟨_, 2, rfl, by simp [maxLen], by decide, fun _ => ⟨_, 0, rfl, by have := S2.out; omega, fun i hi => by
    match i, hi with
    | 0, _ => exact (Has.cell X2.out 0).trans rfl
    | 1, _ => exact (Has.cell X2.out 1).trans rfl⟩⟩
  go_enter Tryd.func3, Tryd.ntmps3
  go_wp2_with fail
  rw [← hw1, ← hw2]
  clear hw1 hw2
  refine (tless_any [5] [1, 1] (fun b => b < w2.heap.size) _ _ w2 I1.out I2.out).mono ?_
  rintro e w3 ⟨c, q, rfl, rfl, -, hc⟩
  obtain rfl : c = true := hc (by decide)
  have P3 := hid (below_drewN (Below.refl w2.heap.size w2) q)
  generalize w2.drewN q = w3 at *
  have B3 := hid (B2.out.trans (P3.out.mono (by have := S2.out; omega)))
  have s3 := B3.out.size
  clear hc
  have O0 := hid (World.ownsRow_lit (e := 3) (size := 1) (base := w3.heap.size) w3 #[] 0 (Nat.le_refl _) (by unfold maxLen; omega) rfl)
  have CA := hid ((HU.out.cells.keep (w' := w3.alloc (.cells #[] 3)) (Same.of_below (B3.out.alloc s3 _) fun b h => h)))
  go_wp2_with first
    | (at_builtin; go_loud ( refine wpList_app _ rfl (.tmp 10) (.tmp 11) 22 rfl w3.heap.size 3 i0 (.int .i64 0) 1 8 Tryd.underlying22 hi hz0 hz1 hz2 rfl (by decide) _ 0 [] rfl O0.out _ _ a.length _ rfl CA.out (ints_one _ _) (by have := HZA.out; unfold maxLen; omega) (by have := HZA.out; omega) (by simp) ?_; intro v4 w4 hown4 hgrow4 _; have O4 : Hid (w4.ownsRow w3.heap.size 3 1 v4 a.length (a.map (Value.int .i64))) := (by show World.ownsRow _ _ _ _ _ _ _; simpa using hown4); have P4 : Hid (Below w3.heap.size w3 w4) := ((Below.refl _ _).alloc (Nat.le_refl _) _).grown hgrow4 (by simp) (own_ge O0.out); have s4 := P4.out.size; have B4 := hid (B3.out.trans (P4.out.mono s3)); have CB := hid (HV.out.cells.keep (w' := w4) (Same.of_below B4.out fun b h => h)); clear hown4 hgrow4))
    | (at_builtin; refine wpList_app _ rfl (.tmp 12) (.tmp 13) 22 rfl w3.heap.size 3 i0 (.int .i64 0) 1 8 Tryd.underlying22 hi hz0 hz1 hz2 rfl (by decide) _ a.length (a.map (Value.int .i64)) rfl O4.out _ _ b.length _ rfl CB.out (ints_one _ _) (by have := HZA.out; have := HZB.out; unfold maxLen; omega) (by have := HZA.out; have := HZB.out; omega) s4 ?_; intro v5 w5 hown5 hgrow5 _; have O5 : Hid (w5.ownsRow w3.heap.size 3 1 v5 (a ++ b).length ((a ++ b).map (Value.int .i64))) := (by show World.ownsRow _ _ _ _ _ _ _; rw [List.length_append, List.map_append]; exact hown5); have P5 : Hid (Below w3.heap.size w3 w5) := P4.out.grown hgrow5 s4 (own_ge O4.out); clear hown5 hgrow5)
  have WFO : Hid (∀ z ∈ a ++ b, (Lit.int .i64 z).wf = true) := fun z hz => (List.mem_append.1 hz).elim (WFA.out z) (WFB.out z)
  have B5 := hid (B3.out.trans (P5.out.mono s3))
  have s5 := B5.out.size
  have IO := hid ((ints_of_own O5.out WFO.out).more (F' := fun b => b < w5.heap.size) fun b h => h.2)
  have IA := hid ((HU.out.keep (Same.of_below B5.out fun b h => h)).more (F' := fun b => b < w5.heap.size) fun b h => by omega)
  obtain ⟨Ao, co, rfl, -, -⟩ := own_sl2 O5.out
  generalize hab : a ++ b = ab at *
  have LAB : Hid (ab.length = a.length + b.length) := by show _ = _; rw [← hab, List.length_append]
  have EAB : Hid (b.length = 0 → ab = a) := fun h => by rw [← hab, List.eq_nil_of_length_eq_zero h, List.append_nil]
  have TXT : Hid ((textL a).length + b.length ≤ (textL ab).length) := by show _ ≤ _; rw [← hab]; exact text_app a b
  have NL1 := hid (numL_le ab fun x hx => wf_bounds (WFO.out x hx))
  have NL2 := hid (numL_le a fun x hx => wf_bounds (WFA.out x hx))
  clear hab
  refine (tless_any ab a (fun b => b < w5.heap.size) _ _ w5 IO.out IA.out).mono ?_
  rintro e w6 ⟨c, q, rfl, rfl, hc1, hc2⟩
  obtain rfl : c = false := by
    by_cases h : b.length = 0
    · exact hc1 (EAB.out h)
    · rw [hc2 (by have := LAB.out; omega)]
      have := LAB.out
      exact decide_eq_false (by omega)
  have P6 := hid (below_drewN (Below.refl w5.heap.size w5) q)
  generalize w5.drewN q = w6 at *
  have s6 := P6.out.size
  have IO6 := hid ((IO.out.keep (Same.of_below P6.out fun b h => h)).more (F' := fun b => b < w6.heap.size) fun b h => by omega)
  have IA6 := hid ((IA.out.keep (Same.of_below P6.out fun b h => h)).more (F' := fun b => b < w6.heap.size) fun b h => by omega)
  have B6 := hid (B5.out.trans (P6.out.mono s5))
  clear hc1 hc2
  go_wp2_with fail
  refine (tless_any a ab (fun b => b < w6.heap.size) _ _ w6 IA6.out IO6.out).mono ?_
  rintro e w7 ⟨c, q2, rfl, rfl, hc1, hc2⟩
  obtain rfl : c = decide (0 < b.length) := by
    by_cases h : b.length = 0
    · rw [hc1 (EAB.out h).symm, decide_eq_false (by omega)]
    · rw [hc2 (by have := LAB.out; omega)]
      have h1 := LAB.out
      rw [decide_eq_true (by omega : a.length < ab.length), decide_eq_true (by omega : 0 < b.length)]
  have P7 := hid (below_drewN (Below.refl w6.heap.size w6) q2)
  generalize w6.drewN q2 = w7 at *
  have s7 := P7.out.size
  have IO7 := hid ((IO6.out.keep (Same.of_below P7.out fun b h => h)).more (F' := fun b => b < w7.heap.size) fun b h => by omega)
  have IA7 := hid ((IA6.out.keep (Same.of_below P7.out fun b h => h)).more (F' := fun b => b < w7.heap.size) fun b h => by omega)
  have B7 := hid (B6.out.trans (P7.out.mono (by omega)))
  have T7 : Hid (∀ w', Below w7.heap.size w7 w' → Tab w') := fun w' hb => Tab.below HL.out H0.out (B7.out.trans (hb.mono (by have := B7.out.size; omega)))
  clear hc1 hc2
  go_wp2_with fail
  refine (text_any ab (fun b => b < w7.heap.size) _ w7 (fun b h => h) IO7.out (by have := LAB.out; have := HZA.out; have := HZB.out; omega) T7.out).mono ?_
  rintro e w8 ⟨rfl, hb8⟩
  have P8 := hid hb8
  have s8 := hb8.size
  have IA8 := hid ((IA7.out.keep (Same.of_below hb8 fun b h => h)).more (F' := fun b => b < w8.heap.size) fun b h => by omega)
  have B8 := hid (B7.out.trans (hb8.mono (by have := B7.out.size; omega)))
  have T8 : Hid (∀ w', Below w8.heap.size w8 w' → Tab w') := fun w' hb => Tab.below HL.out H0.out (B8.out.trans (hb.mono (by have := B8.out.size; omega)))
  have Z1 : Hid ((⟨(textL ab).toArray⟩ : ByteArray).size = (textL ab).length) := by show _ = _; simp [ByteArray.size]
  have Z2 : Hid ((⟨(textL a).toArray⟩ : ByteArray).size = (textL a).length) := by show _ = _; simp [ByteArray.size]
  clear hb8
  go_wp2_with fail
  refine (text_any a (fun b => b < w8.heap.size) _ w8 (fun b h => h) IA8.out (by have := HZA.out; omega) T8.out).mono ?_
  rintro e w9 ⟨rfl, hb9⟩
  have B9 := hid (B8.out.trans (hb9.mono (by have := B8.out.size; omega)))
  clear hb9
  have HR : Hid (decide (wrap64 (((textL a).length : Int) + (b.length : Int)) ≤ ((textL ab).length : Int)) = true) := wrap_le TXT.out (by rw [text_len a]; have := NL2.out; have := HZA.out; omega) HZB.out
  go_wp2_with fail
  go_ret
  refine ⟨?_, B9.out⟩
  show Ending.returned (.bool (decide (wrap64 (((textL a).length : Int) + (b.length : Int)) ≤ ((textL ab).length : Int)))) = _
  rw [HR.out]
end Go.Proofs.YtfajdjbminkllaaDoor
