/- val.Parse, walked: the value in memory of its own, or ErrForm. Conditions: what strings.IndexAny answers of the texts in question; the library's variables hold what they are laid with. -/
import Derived.Test.YtpljcpeofnobbaaDoorVpx
import Derived.Test.YtpljcpeofnobbaaDoorVad
namespace Go.Proofs.YtpljcpeofnobbaaDoor
open Go.RowKit Go.Deep
def ParsePost (s : List UInt8) (w : World) (e : Ending) (w' : World) : Prop := Below w.heap.size w w' ∧ match parseF s with
  | some (.mk l n xs) => ∃ c, e = .returned (.tuple #[.agg #[.bool l, .int .i64 n, c], .nilIface]) ∧ VRow w.heap.size (fun _ => False) xs c w' ∧ (Lit.int .i64 n).wf = true
  | none => e = .returned (.tuple #[.agg #[.bool false, .int .i64 0, .slice none 0 0], errV 3])
theorem parse_results (tmps : Array Value) (g : Nat) (l : Bool) (n : Int) (A : Option Addr) (m cp : Nat) (k : Value) (w : World) (h2 : tmps.getD 2 undef = .pointer (some ⟨g, 0, none⟩)) (h3 : tmps.getD 3 undef = k) (c0 : w.cell? ⟨g, 0, none⟩ = some (.bool l)) (c1 : w.cell? ⟨g, 1, none⟩ = some (.int .i64 n)) (c2 : w.cell? ⟨g, 2, none⟩ = some (.slice A m cp)) :
    (results Tryd.f5 tmps).run Tryd.prog w = .ok (.tuple #[.agg #[.bool l, .int .i64 n, .slice A m cp], k]) w := by
  simp only [Array.getD_eq_getD_getElem?] at h2 h3
  simp [results, Tryd.results5, go_sem, h2, h3, c0, c1, c2]
theorem gr_to_below {w w1 w2 : World} {rb : Nat} (h1 : Below w.heap.size w w1) (h2 : w1.grownBy w2 (some rb)) (hr : w.heap.size ≤ rb) : Below w.heap.size w w2 :=
  ⟨h2.os.trans h1.os, h2.tape.trans h1.tape, h2.output.trans h1.output, Nat.le_trans h1.size h2.size, fun k hk => (h2.block k (by have := h1.size; omega) (fun e => by injection e with e; omega)).trans (h1.block k hk)⟩
theorem parse_fail {w wz : World} {s : List UInt8} (tmps : Array Value) (E : parseF s = none) (hX : wz.heap[w.heap.size]? = some (.cells #[.bool false, .int .i64 0, .slice none 0 0] 24 (0, 0))) (hB : Below w.heap.size w wz) (h2 : tmps.getD 2 undef = .pointer (some ⟨w.heap.size, 0, none⟩)) (h3 : tmps.getD 3 undef = errV 3) :
    bodyPost Tryd.prog Tryd.f5 (ParsePost s w) Exit.ret { tmps := tmps, defers := [] } wz := by
  refine bodyPost_ret (parse_results _ _ _ _ _ _ _ _ _ h2 h3 ((Has.cell hX 0).trans rfl) ((Has.cell hX 1).trans rfl) ((Has.cell hX 2).trans rfl)) rfl ?_
  exact ⟨hB, by rw [E]⟩
theorem parse_good {w wz : World} {s : List UInt8} {l : Bool} {n : Int} {xs : List Va} {Ac : Option Addr} {m cc : Nat} (tmps : Array Value) (E : parseF s = some (.mk l n xs)) (hX : wz.heap[w.heap.size]? = some (.cells #[.bool l, .int .i64 n, .slice Ac m cc] 24 (0, 0))) (hB : Below w.heap.size w wz) (hV : VRow w.heap.size (fun _ => False) xs (.slice Ac m cc) wz) (hn : (Lit.int .i64 n).wf = true) (h2 : tmps.getD 2 undef = .pointer (some ⟨w.heap.size, 0, none⟩)) (h3 : tmps.getD 3 undef = .nilIface) :
    bodyPost Tryd.prog Tryd.f5 (ParsePost s w) Exit.ret { tmps := tmps, defers := [] } wz := by
  refine bodyPost_ret (parse_results _ _ _ _ _ _ _ _ _ h2 h3 ((Has.cell hX 0).trans rfl) ((Has.cell hX 1).trans rfl) ((Has.cell hX 2).trans rfl)) rfl ?_
  exact ⟨hB, by rw [E]; exact ⟨_, rfl, hV, hn⟩⟩
theorem bel3 {w w1 : World} (h : Below w.heap.size w w1) (a b c : Value) : Below w.heap.size w (((w1.setCell ⟨w.heap.size, 0, none⟩ a).setCell ⟨w.heap.size, 1, none⟩ b).setCell ⟨w.heap.size, 2, none⟩ c) :=
  ((h.setCell (p := ⟨w.heap.size, 0, none⟩) (Nat.le_refl _) a).setCell (p := ⟨w.heap.size, 1, none⟩) (Nat.le_refl _) b).setCell (p := ⟨w.heap.size, 2, none⟩) (Nat.le_refl _) c
set_option maxRecDepth 100000 in
set_option maxHeartbeats 8000000 in
theorem parse_any (A : List UInt8 → Prop) (s : List UInt8) (w : World) (hA : IxOk A) (hs : A s) (hl : s.length ≤ 1000000000) (hg1 : 3 < w.heap.size) (hg2 : 2 < w.heap.size) (hE : ErrsL w) (ht : ∀ w', Below w.heap.size w w' → Tab w') :
    Calls Tryd.prog 5 #[.string (strB s)] w (ParsePost s w) := by
  have HT := hid ht
  have B2 := hid (boxes2 w (.cells #[.bool false, .int .i64 0, .slice none 0 0] 24) (.cells #[.string (strB s), .int .i64 0] 37))
  have VA := hid (value_any 7 A s (w.heap.size + 1) 0 ((w.alloc (.cells #[.bool false, .int .i64 0, .slice none 0 0] 24)).alloc (.cells #[.string (strB s), .int .i64 0] 37)) hA hs (by decide) (by decide) hl (boxes2 w _ _).2.1 (by omega) (by omega) (hE.below (B := w.heap.size) (boxes2 w _ _).2.2 hg2 hg1))
  have PF : Hid (parseF s = match valF 7 s with | some (v, r) => if parseB s v r then some v else none | none => none) := rfl
  have VE := hid (valF_eats 7 s)
  clear hA hs hE ht hg1 hg2
  obtain ⟨res, hres⟩ : ∃ res, res = valF 7 s := ⟨_, rfl⟩
  rw [← hres] at VA PF
  have HRES := hid hres
  clear hres
  go_enter Tryd.func5, Tryd.ntmps5
  go_wp2_with fail
  refine VA.out.mono ?_
  rintro e w1 ⟨hg, hp⟩
  have sg := hg.size
  simp only [World.size_alloc] at sg
  have B1 := hid (gr_to_below B2.out.2.2 hg (by omega))
  have X1 := hid ((hg.block w.heap.size (by simp; omega) (fun e => by injection e with e; omega)).trans B2.out.1)
  have x0 := Has.cell X1.out 0
  have x1 := Has.cell X1.out 1
  have x2 := Has.cell X1.out 2
  have fx0 := Has.froz X1.out 0
  have fx1 := Has.froz X1.out 1
  have fx2 := Has.froz X1.out 2
  simp at x0 x1 x2
  have lw0 : w.heap.size < w1.heap.size := by omega
  have lw1 : w.heap.size + 1 < w1.heap.size := by omega
  clear hg
  rcases res with _ | ⟨⟨l, n, xs⟩, r⟩
  · obtain ⟨_, lx, nx, Ax, mx, cx, rfl⟩ := hp
    have E : Hid (parseF s = none) := PF.out
    go_wp2_with fail
    exact parse_fail _ E.out (Has.alloc (vset3 X1.out _ _ _).1 _) ((bel3 B1.out _ _ _).alloc (by have := B1.out.size; simp; omega) _) rfl rfl
  · obtain ⟨hr, c, rfl, hrow, hwf⟩ := hp
    obtain ⟨Ac, cc, rfl⟩ := hrow.slice
    have HW : Hid (VRow (w.heap.size + 2) (fun _ => False) xs (.slice Ac xs.length cc) w1) := by show VRow _ _ _ _ _; have h := hrow; simp only [World.size_alloc] at h; exact h
    have HWF := hid hwf
    have q0 := Has.cell hr 0
    simp at q0
    have VS := VE.out _ _ HRES.out.symm
    have SZ : Hid ((Va.mk l n xs).size ≤ 4000000000) := by have := VS.1; show _ ≤ _; omega
    have W2 : Hid (Below w1.heap.size w1 (w1.alloc (.cells #[.bool l, .int .i64 n, .slice Ac xs.length cc] 24))) := (Below.refl _ _).alloc (Nat.le_refl _) _
    clear hr hrow hwf VS
    cases r with
    | cons b0 r0 =>
      have E : Hid (parseF s = none) := by
        show _ = _
        rw [PF.out]
        simp only
        rw [if_neg]
        unfold parseB
        simp
      have ne : (strB (b0 :: r0)).toList.isEmpty = false := by rw [Lib.toList_data, strB_data]; rfl
      have ne2 : ((strB (b0 :: r0)).toList = []) = False := by rw [Lib.toList_data, strB_data]; simp
      go_wp2_with fail
      exact parse_fail _ E.out (Has.alloc (vset3 X1.out _ _ _).1 _) ((bel3 B1.out _ _ _).alloc (by have := B1.out.size; simp; omega) _) rfl rfl
    | nil =>
      have ne : (strB []).toList.isEmpty = true := by rw [Lib.toList_data, strB_data]; rfl
      have ne2 : ((strB []).toList = []) = True := by rw [Lib.toList_data, strB_data]; simp
      go_wp2_with fail
      refine (vcheck_any (.mk l n xs) (fun b => b < w1.heap.size) _ _ _ _ (fun b h => by simp; omega) (VaIn.more (fun b h => h.2.1) _ (VaIn.keep (Same.of_below W2.out fun b h => h.2.1) _ (HW.out.va HWF.out)))).mono ?_
      rintro e w3 ⟨rfl, hb3⟩
      have C3 := hid (W2.out.trans (hb3.mono (by simp)))
      have B3 := hid (B1.out.trans (C3.out.mono (by omega)))
      have Y3 := hid (Has.below (Has.new w1 (.cells #[.bool l, .int .i64 n, .slice Ac xs.length cc] 24)) hb3 (by simp))
      have X3 := hid (Has.below X1.out C3.out lw0)
      have V3 : Hid (VRow (w.heap.size + 2) (fun _ => False) xs (.slice Ac xs.length cc) w3) := HW.out.keep (fun b _ h2 _ => C3.out.block b h2) C3.out.size (fun b hb => hb.elim)
      have s3 := C3.out.size
      have x0 := Has.cell X3.out 0
      have x1 := Has.cell X3.out 1
      have x2 := Has.cell X3.out 2
      have fx0 := Has.froz X3.out 0
      have fx1 := Has.froz X3.out 1
      have fx2 := Has.froz X3.out 2
      have y0 := Has.cell Y3.out 0
      have y1 := Has.cell Y3.out 1
      have y2 := Has.cell Y3.out 2
      simp at x0 x1 x2 y0 y1 y2
      have lw3 : w.heap.size < w3.heap.size := by omega
      have s3' : w1.heap.size < w3.heap.size := by have := hb3.size; simp at this; omega
      clear hb3
      by_cases hc : chkV (.mk l n xs) = 0
      case neg =>
        have E : Hid (parseF s = none) := by
          show _ = _
          rw [PF.out]
          exact if_neg (by unfold parseB; simp [hc])
        rw [errV_no hc]
        clear hc
        go_wp2_with fail
        exact parse_fail _ E.out (vset3 X3.out _ _ _).1 (bel3 B3.out _ _ _) rfl rfl
      rw [hc, errV_0]
      have HC := hid hc
      clear hc
      go_wp2_with fail
      refine (vtext_any (.mk l n xs) (fun b => b < w3.heap.size) _ _ _ w3 (fun b h => h) (VaIn.more (fun b h => h.2.1) _ (V3.out.va HWF.out)) SZ.out (fun w' h => HT.out w' (B3.out.trans (h.mono (by omega))))).mono ?_
      rintro e w4 ⟨rfl, hb4⟩
      have C4 := hid hb4
      have B4 := hid (B3.out.trans (C4.out.mono (by omega)))
      have Y4 := hid (Has.below Y3.out C4.out (by omega))
      have X4 := hid (Has.below X3.out C4.out lw3)
      have V4 : Hid (VRow (w.heap.size + 2) (fun _ => False) xs (.slice Ac xs.length cc) w4) := V3.out.keep (fun b _ h2 _ => C4.out.block b h2) C4.out.size (fun b hb => hb.elim)
      have s4 := C4.out.size
      clear x0 x1 x2 fx0 fx1 fx2 y0 y1 y2
      have x0 := Has.cell X4.out 0
      have x1 := Has.cell X4.out 1
      have x2 := Has.cell X4.out 2
      have fx0 := Has.froz X4.out 0
      have fx1 := Has.froz X4.out 1
      have fx2 := Has.froz X4.out 2
      have y0 := Has.cell Y4.out 0
      have y1 := Has.cell Y4.out 1
      have y2 := Has.cell Y4.out 2
      simp at x0 x1 x2 y0 y1 y2
      clear hb4
      by_cases hx : (Va.mk l n xs).text = s
      · have E : Hid (parseF s = some (.mk l n xs)) := by
          show _ = _
          rw [PF.out]
          exact if_pos (by unfold parseB; simp [HC.out, hx])
        rw [hx]
        have q1 : ((strB s).toList == (strB s).toList) = true := by simp
        clear hx
        go_wp2_with fail
        have S4 := vset3 X4.out (.bool l) (.int .i64 n) (.slice Ac xs.length cc)
        exact parse_good _ E.out S4.1 (bel3 B4.out _ _ _) ((V4.out.keep (fun b h1 _ _ => S4.2.1 b (by omega)) (by simp) (fun b hb => hb.elim)).base (by omega)) HWF.out rfl rfl
      · have E : Hid (parseF s = none) := by
          show _ = _
          rw [PF.out]
          exact if_neg (by unfold parseB; simp [hx])
        have q1 : ((strB (Va.mk l n xs).text).toList == (strB s).toList) = false := by
          rw [Lib.toList_data, Lib.toList_data, strB_data, strB_data]
          simpa using hx
        clear hx
        go_wp2_with fail
        exact parse_fail _ E.out (vset3 X4.out _ _ _).1 (bel3 B4.out _ _ _) rfl rfl
end Go.Proofs.YtpljcpeofnobbaaDoor
