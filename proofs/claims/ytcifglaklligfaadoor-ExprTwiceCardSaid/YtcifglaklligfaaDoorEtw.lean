/- The law ExprTwice: it returns true, and all that the call was given reads as before. Condition: expr.takes. -/
import Derived.Test.YtcifglaklligfaaDoorEtl
import Derived.Test.YtcifglaklligfaaDoorEpl
import Derived.Test.YtcifglaklligfaaDoorEvb
import Derived.Test.YtcifglaklligfaaDoorExs
import Derived.Deep.RegionLaw
import Derived.Deep.RegionHeld3
import Derived.Test.YtcifglaklligfaaDoorNil
namespace Go.Proofs.YtcifglaklligfaaDoor
open Go.RowKit Go.ChangeShapes Go.Deep
theorem eval_at (t : Ex) (v : Va) (a b c a' b' c' : Value) (W w : World) (hL : LaidT W) (hb : Below W.heap.size W w) (hx : ExIn (fun g => g < w.heap.size) w t a b c) (hv : VaIn (fun g => g < W.heap.size) W v a' b' c') :
    Calls Tryd.prog 20 #[.agg #[a, b, c], .agg #[a', b', c']] w (EvalPost (evalR t v) w) := by
  have hv' := VaIn.more (F' := fun g => g < w.heap.size) (fun g h => by have := hb.size; omega) _ (VaIn.keep (Same.of_below hb fun g h => h) _ hv)
  exact eval_any t v (fun g => g < w.heap.size) a b c a' b' c' w (fun g h => h) hx hv' fun w2 h2 =>
    tcheck_any t (fun g => g < w.heap.size) a b c w2 (fun g h => by have := h2.size; omega) (ExIn.keep (Same.of_below h2 fun g h => h) _ hx) ((hL.below hb).below h2)
theorem keep6 {W w : World} {a0 a1 a2 b0 b1 b2 c0 c1 c2 v0 v1 v2 : Value} {t u : TypeId} (P : Below (W.heap.size + 4) ((((W.alloc (.cells #[a0, a1, a2] t)).alloc (.cells #[b0, b1, b2] t)).alloc (.cells #[c0, c1, c2] t)).alloc (.cells #[v0, v1, v2] u)) w) :
    w.cell? ⟨W.heap.size, 0, none⟩ = some a0 ∧ w.cell? ⟨W.heap.size, 1, none⟩ = some a1 ∧ w.cell? ⟨W.heap.size, 2, none⟩ = some a2 ∧ w.cell? ⟨W.heap.size + 1 + 1 + 1, 0, none⟩ = some v0 ∧ w.cell? ⟨W.heap.size + 1 + 1 + 1, 1, none⟩ = some v1 ∧ w.cell? ⟨W.heap.size + 1 + 1 + 1, 2, none⟩ = some v2 := by
  obtain ⟨X0, X1, X2, X3⟩ := boxes4 _ _ _ _ _ _ P
  exact ⟨(Has.cell X0 0).trans rfl, (Has.cell X0 1).trans rfl, (Has.cell X0 2).trans rfl, (Has.cell X3 0).trans rfl, (Has.cell X3 1).trans rfl, (Has.cell X3 2).trans rfl⟩
theorem keep13 {W w : World} {a0 a1 a2 b0 b1 b2 c0 c1 c2 v0 v1 v2 kd : Value} {t u t' : TypeId} {g i : Nat} {row : Array Value} (P : Below (W.heap.size + 4) ((((W.alloc (.cells #[a0, a1, a2] t)).alloc (.cells #[b0, b1, b2] t)).alloc (.cells #[c0, c1, c2] t)).alloc (.cells #[v0, v1, v2] u)) w) (L : w.heap[g]? = some (.cells row t' (0, 0))) (hk : row[i]? = some kd) :
    w.cell? ⟨W.heap.size, 0, none⟩ = some a0 ∧ w.cell? ⟨W.heap.size, 1, none⟩ = some a1 ∧ w.cell? ⟨W.heap.size, 2, none⟩ = some a2 ∧ w.cell? ⟨W.heap.size + 1, 0, none⟩ = some b0 ∧ w.cell? ⟨W.heap.size + 1, 1, none⟩ = some b1 ∧ w.cell? ⟨W.heap.size + 1, 2, none⟩ = some b2 ∧
    w.cell? ⟨W.heap.size + 1 + 1, 0, none⟩ = some c0 ∧ w.cell? ⟨W.heap.size + 1 + 1, 1, none⟩ = some c1 ∧ w.cell? ⟨W.heap.size + 1 + 1, 2, none⟩ = some c2 ∧ w.cell? ⟨W.heap.size + 1 + 1 + 1, 0, none⟩ = some v0 ∧ w.cell? ⟨W.heap.size + 1 + 1 + 1, 1, none⟩ = some v1 ∧ w.cell? ⟨W.heap.size + 1 + 1 + 1, 2, none⟩ = some v2 ∧ w.cell? ⟨g, i, none⟩ = some kd := by
  obtain ⟨X0, X1, X2, X3⟩ := boxes4 _ _ _ _ _ _ P
  exact ⟨(Has.cell X0 0).trans rfl, (Has.cell X0 1).trans rfl, (Has.cell X0 2).trans rfl, (Has.cell X1 0).trans rfl, (Has.cell X1 1).trans rfl, (Has.cell X1 2).trans rfl, (Has.cell X2 0).trans rfl, (Has.cell X2 1).trans rfl, (Has.cell X2 2).trans rfl, (Has.cell X3 0).trans rfl, (Has.cell X3 1).trans rfl, (Has.cell X3 2).trans rfl, (Has.cell L i).trans hk⟩
def isz (f : Int) : Bool := f == 0
theorem of_isz {f : Int} (h : isz f = true) : f = 0 := by simpa [isz] using h
theorem errV_cases (c : Int) : (c = 0 ∧ errV c = .nilIface) ∨ (c ≠ 0 ∧ errV c = .iface 51 (.int .i64 c)) := by
  by_cases h : c = 0
  · exact .inl ⟨h, by subst h; rfl⟩
  · exact .inr ⟨h, errV_no h⟩
set_option maxRecDepth 100000 in
set_option maxHeartbeats 8000000 in
theorem exprTwice_walk (x : Ex) (vx : Value) (y : Ex) (vy : Value) (z : Ex) (vz : Value) (v : Va) (vv : Value) (W : World) (hL : LaidT W) (hx : ExV (fun b => b < W.heap.size) W vx x) (hy : ExV (fun b => b < W.heap.size) W vy y) (hz : ExV (fun b => b < W.heap.size) W vz z) (hv : VaV (fun b => b < W.heap.size) W vv v) :
    Calls Tryd.prog 9 #[vx, vy, vz, vv] W (LawPost W) := by
  obtain ⟨a1, a2, a3, rfl, hx⟩ := hx
  obtain ⟨b1, b2, b3, rfl, hy⟩ := hy
  obtain ⟨c1, c2, c3, rfl, hz⟩ := hz
  obtain ⟨d1, d2, d3, rfl, hv⟩ := hv
  have HL := hid hL
  have HX := hid hx
  have HY := hid hy
  have HZ := hid hz
  have HV := hid hv
  have XOK : Hid (∀ n, x.ev v = some n → Ok64 n) := ev_ok v hv.fit x (ExIn.wfE x hx)
  obtain ⟨xk, xn, xs⟩ := x
  obtain ⟨yk, yn, ys⟩ := y
  obtain ⟨zk, zn, zs⟩ := z
  obtain ⟨vk, vn, vs⟩ := v
  obtain ⟨A1, p1, rfl, rfl, rfl, _, _, _⟩ := hx.box
  obtain ⟨A2, p2, rfl, rfl, rfl, _, _, _⟩ := hy.box
  obtain ⟨A3, p3, rfl, rfl, rfl, _, _, _⟩ := hz.box
  obtain ⟨A4, p4, rfl, rfl, rfl, _, _, _⟩ := hv.box
  generalize hX : Ex.mk xk xn xs = X at *
  generalize hY : Ex.mk yk yn ys = Y at *
  generalize hZ : Ex.mk zk zn zs = Z at *
  generalize hV : Va.mk vk vn vs = V at *
  clear hL hx hy hz hv hX hY hZ hV
  go_enter Tryd.func9, Tryd.ntmps9
  go_wp2_with fail
  refine (eval_at (.mk 1 7 []) (.mk false 0 []) _ _ _ _ _ _ W _ HL.out (below4 _ _ _ _ _) (ex_leaf (by decide) (by decide)) (va_leaf (by decide))).mono ?_
  rintro e w1 ⟨rfl, hb1⟩
  rw [lit_seven]
  have P1 := hid (hb1.mono (B' := W.heap.size + 4) (by simp))
  have B1 := hid ((below4 _ _ _ _ _).trans (hb1.mono (B' := W.heap.size) (by simp; omega)))
  clear hb1
  obtain ⟨X0, X1, X2, X3⟩ := boxes4 _ _ _ _ _ _ P1.out
  have x0 := Has.cell X0 0
  have x1 := Has.cell X0 1
  have x2 := Has.cell X0 2
  have z0 := Has.cell X3 0
  have z1 := Has.cell X3 1
  have z2 := Has.cell X3 2
  simp at x0 x1 x2 z0 z1 z2
  clear X0 X1 X2 X3
  rw [show errV 0 = .nilIface from rfl]
  go_wp2_with fail
  refine (eval_at X V _ _ _ _ _ _ W w1 HL.out B1.out ((ExIn.keep (Same.of_below B1.out fun g h => h) _ HX.out).more (fun g h => by have := B1.out.size; omega)) HV.out).mono ?_
  rintro e w2 ⟨rfl, hb2⟩
  have P2 := hid (P1.out.trans (hb2.mono (by have := P1.out.size; simp at this; omega)))
  have B2 := hid (B1.out.trans (hb2.mono B1.out.size))
  clear hb2 x0 x1 x2 z0 z1 z2
  obtain ⟨X0, X1, X2, X3⟩ := boxes4 _ _ _ _ _ _ P2.out
  have x0 := Has.cell X0 0
  have x1 := Has.cell X0 1
  have x2 := Has.cell X0 2
  have z0 := Has.cell X3 0
  have z1 := Has.cell X3 1
  have z2 := Has.cell X3 2
  simp at x0 x1 x2 z0 z1 z2
  -- REGIONS 5, 6, 7: printed by wip/tools/gen_etw.py
  have T5 := hid ((ExIn.keep (Same.of_below B2.out fun g h => h) _ HX.out).more (F' := fun g => g < w2.heap.size) (fun g h => by have := B2.out.size; omega))
  go_upto_region 5 with fail
  go_cut [13, 14] from 43 to 50 (fun c d wx => c = .int .i64 (evalR (.mk 10 0 [X, X]) V).1 ∧ d = errV (evalR (.mk 10 0 [X, X]) V).2 ∧ Hid (Below (W.heap.size + 4) ((((W.alloc (.cells #[.int .i64 xk, .int .i64 xn, .slice A1 xs.length p1] 24)).alloc (.cells #[.int .i64 yk, .int .i64 yn, .slice A2 ys.length p2] 24)).alloc (.cells #[.int .i64 zk, .int .i64 zn, .slice A3 zs.length p3] 24)).alloc (.cells #[.bool vk, .int .i64 vn, .slice A4 vs.length p4] 38)) wx))
  case first => as_aux_lemma =>
    go_region_held3 (fun w' => w'.cell? ⟨W.heap.size, 0, none⟩ = some (.int .i64 xk) ∧ w'.cell? ⟨W.heap.size, 1, none⟩ = some (.int .i64 xn) ∧ w'.cell? ⟨W.heap.size, 2, none⟩ = some (.slice A1 xs.length p1) ∧ w'.cell? ⟨W.heap.size + 1 + 1 + 1, 0, none⟩ = some (.bool vk) ∧ w'.cell? ⟨W.heap.size + 1 + 1 + 1, 1, none⟩ = some (.int .i64 vn) ∧ w'.cell? ⟨W.heap.size + 1 + 1 + 1, 2, none⟩ = some (.slice A4 vs.length p4))
      (first | go_keep | exact keep6 P3.out | exact keep6 P6.out)
      (first
      | (go_at_call 16; refine (both_any 10 (by decide) X X (fun g => g < w2.heap.size) _ _ _ _ _ _ w2.drew (fun g h => h) (ExIn.keep (w := w2) (w' := w2.drew) (fun _ _ => rfl) _ T5.out) (ExIn.keep (w := w2) (w' := w2.drew) (fun _ _ => rfl) _ T5.out)).mono ?_; rintro e w3 ⟨A5, rfl, hb3, hl3, hE3⟩; have P3 := hid (P2.out.trans (((Below.refl w2.heap.size w2).drew.trans hb3).mono (by have := P2.out.size; simp at this; omega))); have B3 := hid (B2.out.trans (((Below.refl w2.heap.size w2).drew.trans hb3).mono B2.out.size)); have E3 := hid (ExIn.more (F' := fun g => g < w3.heap.size) (fun g h => Or.elim h (fun h => Nat.lt_trans h hl3) fun h => h.2) _ hE3); clear hb3 hl3 hE3)
      | (go_at_call 20; refine (eval_at (.mk 10 0 [X, X]) V _ _ _ _ _ _ W w3 HL.out B3.out E3.out HV.out).mono ?_; rintro e w6 ⟨rfl, hb6⟩; have P6 := hid (P3.out.trans (hb6.mono (by have := P3.out.size; simp at this; omega))); clear hb6))
    all_goals
      go_wp2_with fail
      go_meet
      exact ⟨rfl, rfl, P6⟩
  case rest =>
  obtain ⟨rfl, rfl, P5⟩ := hcut
  obtain ⟨wq5, rfl⟩ : ∃ wq5 : World, wq5 = wc := ⟨_, rfl⟩
  have B5 := hid ((below4 _ _ _ _ _).trans (P5.out.mono (B' := W.heap.size) (by omega)))
  clear x0 x1 x2 z0 z1 z2 X0 X1 X2 X3 T5 P2 B2
  obtain ⟨X0, X1, X2, X3⟩ := boxes4 _ _ _ _ _ _ P5.out
  have x0 := Has.cell X0 0
  have x1 := Has.cell X0 1
  have x2 := Has.cell X0 2
  have z0 := Has.cell X3 0
  have z1 := Has.cell X3 1
  have z2 := Has.cell X3 2
  simp at x0 x1 x2 z0 z1 z2
  have T6 := hid ((ExIn.keep (Same.of_below B5.out fun g h => h) _ HX.out).more (F' := fun g => g < wq5.heap.size) (fun g h => by have := B5.out.size; omega))
  go_upto_region 6 with fail
  go_cut [15, 16] from 51 to 58 (fun c d wx => c = .int .i64 (evalR (.mk 11 0 [X, X]) V).1 ∧ d = errV (evalR (.mk 11 0 [X, X]) V).2 ∧ Hid (Below (W.heap.size + 4) ((((W.alloc (.cells #[.int .i64 xk, .int .i64 xn, .slice A1 xs.length p1] 24)).alloc (.cells #[.int .i64 yk, .int .i64 yn, .slice A2 ys.length p2] 24)).alloc (.cells #[.int .i64 zk, .int .i64 zn, .slice A3 zs.length p3] 24)).alloc (.cells #[.bool vk, .int .i64 vn, .slice A4 vs.length p4] 38)) wx))
  case first => as_aux_lemma =>
    go_region_held3 (fun w' => w'.cell? ⟨W.heap.size, 0, none⟩ = some (.int .i64 xk) ∧ w'.cell? ⟨W.heap.size, 1, none⟩ = some (.int .i64 xn) ∧ w'.cell? ⟨W.heap.size, 2, none⟩ = some (.slice A1 xs.length p1) ∧ w'.cell? ⟨W.heap.size + 1 + 1 + 1, 0, none⟩ = some (.bool vk) ∧ w'.cell? ⟨W.heap.size + 1 + 1 + 1, 1, none⟩ = some (.int .i64 vn) ∧ w'.cell? ⟨W.heap.size + 1 + 1 + 1, 2, none⟩ = some (.slice A4 vs.length p4))
      (first | go_keep | exact keep6 P3.out | exact keep6 P6.out)
      (first
      | (go_at_call 16; refine (both_any 11 (by decide) X X (fun g => g < wq5.heap.size) _ _ _ _ _ _ wq5.drew (fun g h => h) (ExIn.keep (w := wq5) (w' := wq5.drew) (fun _ _ => rfl) _ T6.out) (ExIn.keep (w := wq5) (w' := wq5.drew) (fun _ _ => rfl) _ T6.out)).mono ?_; rintro e w3 ⟨A5, rfl, hb3, hl3, hE3⟩; have P3 := hid (P5.out.trans (((Below.refl wq5.heap.size wq5).drew.trans hb3).mono (by have := P5.out.size; simp at this; omega))); have B3 := hid (B5.out.trans (((Below.refl wq5.heap.size wq5).drew.trans hb3).mono B5.out.size)); have E3 := hid (ExIn.more (F' := fun g => g < w3.heap.size) (fun g h => Or.elim h (fun h => Nat.lt_trans h hl3) fun h => h.2) _ hE3); clear hb3 hl3 hE3)
      | (go_at_call 20; refine (eval_at (.mk 11 0 [X, X]) V _ _ _ _ _ _ W w3 HL.out B3.out E3.out HV.out).mono ?_; rintro e w6 ⟨rfl, hb6⟩; have P6 := hid (P3.out.trans (hb6.mono (by have := P3.out.size; simp at this; omega))); clear hb6))
    all_goals
      go_wp2_with fail
      go_meet
      exact ⟨rfl, rfl, P6⟩
  case rest =>
  obtain ⟨rfl, rfl, P6⟩ := hcut
  obtain ⟨wq6, rfl⟩ : ∃ wq6 : World, wq6 = wc := ⟨_, rfl⟩
  have B6 := hid ((below4 _ _ _ _ _).trans (P6.out.mono (B' := W.heap.size) (by omega)))
  clear x0 x1 x2 z0 z1 z2 X0 X1 X2 X3 T6 P5 B5
  obtain ⟨X0, X1, X2, X3⟩ := boxes4 _ _ _ _ _ _ P6.out
  have x0 := Has.cell X0 0
  have x1 := Has.cell X0 1
  have x2 := Has.cell X0 2
  have z0 := Has.cell X3 0
  have z1 := Has.cell X3 1
  have z2 := Has.cell X3 2
  simp at x0 x1 x2 z0 z1 z2
  have T7 := hid ((ExIn.keep (Same.of_below B6.out fun g h => h) _ HX.out).more (F' := fun g => g < wq6.heap.size) (fun g h => by have := B6.out.size; omega))
  go_upto_region 7 with fail
  go_cut [17, 18] from 59 to 66 (fun c d wx => c = .int .i64 (evalR (.mk 5 0 [X, (.mk 1 0 [])]) V).1 ∧ d = errV (evalR (.mk 5 0 [X, (.mk 1 0 [])]) V).2 ∧ Hid (Below (W.heap.size + 4) ((((W.alloc (.cells #[.int .i64 xk, .int .i64 xn, .slice A1 xs.length p1] 24)).alloc (.cells #[.int .i64 yk, .int .i64 yn, .slice A2 ys.length p2] 24)).alloc (.cells #[.int .i64 zk, .int .i64 zn, .slice A3 zs.length p3] 24)).alloc (.cells #[.bool vk, .int .i64 vn, .slice A4 vs.length p4] 38)) wx))
  case first => as_aux_lemma =>
    go_region_held3 (fun w' => w'.cell? ⟨W.heap.size, 0, none⟩ = some (.int .i64 xk) ∧ w'.cell? ⟨W.heap.size, 1, none⟩ = some (.int .i64 xn) ∧ w'.cell? ⟨W.heap.size, 2, none⟩ = some (.slice A1 xs.length p1) ∧ w'.cell? ⟨W.heap.size + 1 + 1 + 1, 0, none⟩ = some (.bool vk) ∧ w'.cell? ⟨W.heap.size + 1 + 1 + 1, 1, none⟩ = some (.int .i64 vn) ∧ w'.cell? ⟨W.heap.size + 1 + 1 + 1, 2, none⟩ = some (.slice A4 vs.length p4))
      (first | go_keep | exact keep6 P3.out | exact keep6 P6.out)
      (first
      | (go_at_call 16; refine (both_any 5 (by decide) X (.mk 1 0 []) (fun g => g < wq6.heap.size) _ _ _ _ _ _ wq6.drew (fun g h => h) (ExIn.keep (w := wq6) (w' := wq6.drew) (fun _ _ => rfl) _ T7.out) (ex_leaf (by decide) (by decide))).mono ?_; rintro e w3 ⟨A5, rfl, hb3, hl3, hE3⟩; have P3 := hid (P6.out.trans (((Below.refl wq6.heap.size wq6).drew.trans hb3).mono (by have := P6.out.size; simp at this; omega))); have B3 := hid (B6.out.trans (((Below.refl wq6.heap.size wq6).drew.trans hb3).mono B6.out.size)); have E3 := hid (ExIn.more (F' := fun g => g < w3.heap.size) (fun g h => Or.elim h (fun h => Nat.lt_trans h hl3) fun h => h.2) _ hE3); clear hb3 hl3 hE3)
      | (go_at_call 20; refine (eval_at (.mk 5 0 [X, (.mk 1 0 [])]) V _ _ _ _ _ _ W w3 HL.out B3.out E3.out HV.out).mono ?_; rintro e w6 ⟨rfl, hb6⟩; have P6 := hid (P3.out.trans (hb6.mono (by have := P3.out.size; simp at this; omega))); clear hb6))
    all_goals
      go_wp2_with fail
      go_meet
      exact ⟨rfl, rfl, P6⟩
  case rest =>
  obtain ⟨rfl, rfl, P7⟩ := hcut
  obtain ⟨wq7, rfl⟩ : ∃ wq7 : World, wq7 = wc := ⟨_, rfl⟩
  have B7 := hid ((below4 _ _ _ _ _).trans (P7.out.mono (B' := W.heap.size) (by omega)))
  clear x0 x1 x2 z0 z1 z2 X0 X1 X2 X3 T7 P6 B6
  obtain ⟨X0, X1, X2, X3⟩ := boxes4 _ _ _ _ _ _ P7.out
  have x0 := Has.cell X0 0
  have x1 := Has.cell X0 1
  have x2 := Has.cell X0 2
  have z0 := Has.cell X3 0
  have z1 := Has.cell X3 1
  have z2 := Has.cell X3 2
  simp at x0 x1 x2 z0 z1 z2
  have D1 : Hid (isz (evalR X V).2 = true → isz (evalR (.mk 10 0 [X, X]) V).2 = true → ((evalR (.mk 10 0 [X, X]) V).1 != (evalR X V).1) = false) := fun h h' => by rw [and_same (of_isz h) (of_isz h')]; simp
  have D2 : Hid (isz (evalR X V).2 = true → isz (evalR (.mk 11 0 [X, X]) V).2 = true → ((evalR (.mk 11 0 [X, X]) V).1 != (evalR X V).1) = false) := fun h h' => by rw [or_same (of_isz h) (of_isz h')]; simp
  have D3 : Hid (isz (evalR X V).2 = true → isz (evalR (.mk 5 0 [X, .mk 1 0 []]) V).2 = true → ((evalR (.mk 5 0 [X, .mk 1 0 []]) V).1 != (evalR X V).1) = false) := fun h h' => by rw [add_nought (of_isz h) (of_isz h') (XOK.out _ (evalR_zero (of_isz h)))]; simp
  generalize evalR X V = R0 at *
  generalize evalR (.mk 10 0 [X, X]) V = R1 at *
  generalize evalR (.mk 11 0 [X, X]) V = R2 at *
  generalize evalR (.mk 5 0 [X, .mk 1 0 []]) V = R3 at *
  obtain ⟨n0, f0⟩ := R0
  obtain ⟨n1, f1⟩ := R1
  obtain ⟨n2, f2⟩ := R2
  obtain ⟨n3, f3⟩ := R3
  simp only at D1 D2 D3 ⊢
  have HQ : Hid (∀ (f : Int) (w : World), (binOp .eql 27 (errV f) .nilIface).run Tryd.prog w = .ok (.bool (isz f)) w) := errs_eql_nil
  have HG : Hid (∀ (x : Operand) (f : Int) (w : World), Sem.run Tryd.prog (eqGuard BinOp.eql 27 x (.const .nilIface) (errV f) .nilIface) w = .ok () w) := fun x f w => by
    rcases errV_cases f with ⟨_, e⟩ | ⟨_, e⟩ <;> rw [e] <;> cases x <;> rfl
  go_upto_region 8 with fail
  go_cut [95] from 67 to 94 (fun c wx => c = .bool false ∧ wx = wq7)
  case first => as_aux_lemma =>
    have hq := HQ.out
    have hg := HG.out
    have D1' := D1.out
    have D2' := D2.out
    have D3' := D3.out
    have E1 := hid D1'
    have E2 := hid D2'
    have E3 := hid D3'
    clear D1 D2 D3 D1' D2' D3'
    go_wp2_with fail
    all_goals first
      | (exfalso; have e := E1.out (by assumption) (by assumption); simp only [bne_eq_false_iff_eq] at e; contradiction)
      | (exfalso; have e := E2.out (by assumption) (by assumption); simp only [bne_eq_false_iff_eq] at e; contradiction)
      | (exfalso; have e := E3.out (by assumption) (by assumption); simp only [bne_eq_false_iff_eq] at e; contradiction)
      | (subst_vars; go_meet; exact ⟨by first | rfl | rw [E3.out (by assumption) (by assumption)], rfl⟩)
  case rest =>
  obtain ⟨rfl, hwc⟩ := hcut
  obtain rfl : wq7 = wc := hwc.symm
  obtain ⟨wq, rfl⟩ : ∃ wq : World, wq = wq7 := ⟨_, rfl⟩
  clear D1 D2 D3 x0 x1 x2 z0 z1 z2 X0 X1 X2 X3
  have lq := P7.out.size
  simp only [World.size_alloc] at lq
  have P9 := hid (P7.out.alloc (by omega) (.cells #[.int .i64 5, .int .i64 10, .int .i64 11] 3))
  have L9 := hid (Has.new wq (.cells #[.int .i64 5, .int .i64 10, .int .i64 11] 3))
  clear P7
  go_wp2_with fail
  go_loopw [20] (fun iv wr => ∃ i : Nat, i ≤ 3 ∧ iv = .int .i64 i ∧ Hid (Below (W.heap.size + 4) ((((W.alloc (.cells #[.int .i64 xk, .int .i64 xn, .slice A1 xs.length p1] 24)).alloc (.cells #[.int .i64 yk, .int .i64 yn, .slice A2 ys.length p2] 24)).alloc (.cells #[.int .i64 zk, .int .i64 zn, .slice A3 zs.length p3] 24)).alloc (.cells #[.bool vk, .int .i64 vn, .slice A4 vs.length p4] 38)) wr) ∧ Hid (wr.heap[wq.heap.size]? = some (.cells #[.int .i64 5, .int .i64 10, .int .i64 11] 3 (0, 0)))) (fun iv _ => 3 - (intOf iv).toNat)
  case atStart => exact ⟨0, by omega, rfl, P9, L9⟩
  case round =>
    obtain ⟨i, hi, rfl, P, L⟩ := hrel
    obtain ⟨wo, rfl⟩ : ∃ wo : World, wo = wr := ⟨_, rfl⟩
    clear P9 L9
    by_cases hlt : i < 3
    · have i1 : (i : Int) < 3 := by omega
      obtain ⟨kd, hkd⟩ : ∃ kd : Int, (kd = 5 ∨ kd = 10 ∨ kd = 11) ∧ wo.cell? ⟨wq.heap.size, i, none⟩ = some (.int .i64 kd) := by
        have hc := Has.cell L.out i
        obtain rfl | rfl | rfl : i = 0 ∨ i = 1 ∨ i = 2 := by omega
        · exact ⟨5, by simp, hc.trans rfl⟩
        · exact ⟨10, by simp, hc.trans rfl⟩
        · exact ⟨11, by simp, hc.trans rfl⟩
      obtain ⟨hk, ec⟩ := hkd
      have RK : Hid ((#[.int .i64 5, .int .i64 10, .int .i64 11] : Array Value)[i]? = some (.int .i64 kd)) := (Has.cell L.out i).symm.trans ec
      have EC := hid ec
      have HK := hid hk
      have KW : Hid ((Lit.int .i64 kd).wf = true) := by show _ = _; rcases hk with rfl | rfl | rfl <;> decide
      have lw := P.out.size
      simp at lw
      have ll := Has.lt L.out
      have B := hid ((below4 _ _ _ _ _).trans (P.out.mono (B' := W.heap.size) (by omega)))
      obtain ⟨X0, X1, X2, X3⟩ := boxes4 _ _ _ _ _ _ P.out
      have a0 := Has.cell X0 0
      have a1 := Has.cell X0 1
      have a2 := Has.cell X0 2
      have b0 := Has.cell X1 0
      have b1 := Has.cell X1 1
      have b2 := Has.cell X1 2
      have c0 := Has.cell X2 0
      have c1 := Has.cell X2 1
      have c2 := Has.cell X2 2
      have v0 := Has.cell X3 0
      have v1 := Has.cell X3 1
      have v2 := Has.cell X3 2
      simp at a0 a1 a2 b0 b1 b2 c0 c1 c2 v0 v1 v2
      have TX := hid ((ExIn.keep (Same.of_below B.out fun g h => h) _ HX.out).more (F' := fun g => g < wo.heap.size) (fun g h => by have := B.out.size; omega))
      have TY := hid ((ExIn.keep (Same.of_below B.out fun g h => h) _ HY.out).more (F' := fun g => g < wo.heap.size) (fun g h => by have := B.out.size; omega))
      have TZ := hid ((ExIn.keep (Same.of_below B.out fun g h => h) _ HZ.out).more (F' := fun g => g < wo.heap.size) (fun g h => by have := B.out.size; omega))
      have HLI := hid hlt
      clear hk hlt X0 X1 X2 X3
      obtain ⟨⟨n4, f4⟩, hR14⟩ : ∃ R, R = evalR (.mk kd 0 [.mk kd 0 [X, Y], Z]) V := ⟨_, rfl⟩
      have HR14 := hid hR14
      clear hR14
      go_upto_region 14 with fail
      go_cut [21, 22] from 101 to 118 (fun c d wx => c = .int .i64 n4 ∧ d = errV f4 ∧ Hid (Below (W.heap.size + 4) ((((W.alloc (.cells #[.int .i64 xk, .int .i64 xn, .slice A1 xs.length p1] 24)).alloc (.cells #[.int .i64 yk, .int .i64 yn, .slice A2 ys.length p2] 24)).alloc (.cells #[.int .i64 zk, .int .i64 zn, .slice A3 zs.length p3] 24)).alloc (.cells #[.bool vk, .int .i64 vn, .slice A4 vs.length p4] 38)) wx) ∧ Hid (wx.heap[wq.heap.size]? = some (.cells #[.int .i64 5, .int .i64 10, .int .i64 11] 3 (0, 0))))
      case first => as_aux_lemma =>
        go_region_held3 (fun w' => w'.cell? ⟨W.heap.size, 0, none⟩ = some (.int .i64 xk) ∧ w'.cell? ⟨W.heap.size, 1, none⟩ = some (.int .i64 xn) ∧ w'.cell? ⟨W.heap.size, 2, none⟩ = some (.slice A1 xs.length p1) ∧ w'.cell? ⟨W.heap.size + 1, 0, none⟩ = some (.int .i64 yk) ∧ w'.cell? ⟨W.heap.size + 1, 1, none⟩ = some (.int .i64 yn) ∧ w'.cell? ⟨W.heap.size + 1, 2, none⟩ = some (.slice A2 ys.length p2) ∧ w'.cell? ⟨W.heap.size + 1 + 1, 0, none⟩ = some (.int .i64 zk) ∧ w'.cell? ⟨W.heap.size + 1 + 1, 1, none⟩ = some (.int .i64 zn) ∧ w'.cell? ⟨W.heap.size + 1 + 1, 2, none⟩ = some (.slice A3 zs.length p3) ∧ w'.cell? ⟨W.heap.size + 1 + 1 + 1, 0, none⟩ = some (.bool vk) ∧ w'.cell? ⟨W.heap.size + 1 + 1 + 1, 1, none⟩ = some (.int .i64 vn) ∧ w'.cell? ⟨W.heap.size + 1 + 1 + 1, 2, none⟩ = some (.slice A4 vs.length p4) ∧ w'.cell? ⟨wq.heap.size, i, none⟩ = some (.int .i64 kd))
          (first | go_keep | exact keep13 P3.out L3.out RK.out | exact keep13 P4.out L4.out RK.out | exact keep13 P6.out L6.out RK.out)
          (first
            | (go_at_call_of 16 (Value.agg #[.int .i64 xk, .int .i64 xn, .slice A1 xs.length p1]); refine (both_any kd KW.out X Y (fun g => g < wo.heap.size) _ _ _ _ _ _ wo.drew (fun g h => h) (ExIn.keep (w := wo) (w' := wo.drew) (fun _ _ => rfl) _ TX.out) (ExIn.keep (w := wo) (w' := wo.drew) (fun _ _ => rfl) _ TY.out)).mono ?_; rintro e w3 ⟨A5, rfl, hb3, hl3, hE3⟩; have BB : Hid (Below wo.heap.size wo w3) := (Below.refl wo.heap.size wo).drew.trans hb3; have P3 := hid (P.out.trans (BB.out.mono (by have := P.out.size; simp at this; omega))); have B3 := hid (B.out.trans (BB.out.mono B.out.size)); have L3 := hid (Has.below L.out BB.out (Has.lt L.out)); have E3 := hid (ExIn.more (F' := fun g => g < w3.heap.size) (fun g h => Or.elim h (fun h => Nat.lt_trans h hl3) fun h => h.2) _ hE3); have TO := hid (ExIn.more (F' := fun g => g < w3.heap.size) (fun g h => Nat.lt_trans h hl3) _ (ExIn.keep (Same.of_below BB.out fun g h => h) _ TZ.out)); clear hb3 hl3 hE3 BB)
            | (go_at_call_of 16 (Value.agg #[.int .i64 zk, .int .i64 zn, .slice A3 zs.length p3]); refine (both_any kd KW.out (.mk kd 0 [X, Y]) Z (fun g => g < w3.heap.size) _ _ _ _ _ _ w3 (fun g h => h) E3.out TO.out).mono ?_; rintro e w4 ⟨A6, rfl, hb3, hl3, hE3⟩; have P4 := hid (P3.out.trans (hb3.mono (by have := P3.out.size; simp at this; omega))); have B4 := hid (B3.out.trans (hb3.mono B3.out.size)); have L4 := hid (Has.below L3.out hb3 (Has.lt L3.out)); have E4 := hid (ExIn.more (F' := fun g => g < w4.heap.size) (fun g h => Or.elim h (fun h => Nat.lt_trans h hl3) fun h => h.2) _ hE3); clear hb3 hl3 hE3)
            | (go_at_call 20; refine (eval_at (.mk kd 0 [.mk kd 0 [X, Y], Z]) V _ _ _ _ _ _ W w4 HL.out B4.out E4.out HV.out).mono ?_; rintro e w6 ⟨rfl, hb6⟩; rw [← HR14.out]; have P6 := hid (P4.out.trans (hb6.mono (by have := P4.out.size; simp at this; omega))); have L6 := hid (Has.below L4.out hb6 (Has.lt L4.out)); clear hb6))
        all_goals
          go_wp2_with fail
          go_meet
          exact ⟨rfl, rfl, P6, L6⟩
      case rest =>
      obtain ⟨rfl, rfl, P14, L14⟩ := hcut
      obtain ⟨wp, rfl⟩ : ∃ wp : World, wp = wc := ⟨_, rfl⟩
      have B14 := hid ((below4 _ _ _ _ _).trans (P14.out.mono (B' := W.heap.size) (by omega)))
      have lw2 := P14.out.size
      simp at lw2
      have ll2 := Has.lt L14.out
      have ec2 : wp.cell? ⟨wq.heap.size, i, none⟩ = some (.int .i64 kd) := by rw [← EC.out]; exact (Has.cell L14.out i).trans (Has.cell L.out i).symm
      clear ec a0 a1 a2 b0 b1 b2 c0 c1 c2 v0 v1 v2 TX TY TZ
      obtain ⟨X0, X1, X2, X3⟩ := boxes4 _ _ _ _ _ _ P14.out
      have a0 := Has.cell X0 0
      have a1 := Has.cell X0 1
      have a2 := Has.cell X0 2
      have b0 := Has.cell X1 0
      have b1 := Has.cell X1 1
      have b2 := Has.cell X1 2
      have c0 := Has.cell X2 0
      have c1 := Has.cell X2 1
      have c2 := Has.cell X2 2
      have v0 := Has.cell X3 0
      have v1 := Has.cell X3 1
      have v2 := Has.cell X3 2
      simp at a0 a1 a2 b0 b1 b2 c0 c1 c2 v0 v1 v2
      have SX := hid ((ExIn.keep (Same.of_below B14.out fun g h => h) _ HX.out).more (F' := fun g => g < wp.heap.size) (fun g h => by have := B14.out.size; omega))
      have SY := hid ((ExIn.keep (Same.of_below B14.out fun g h => h) _ HY.out).more (F' := fun g => g < wp.heap.size) (fun g h => by have := B14.out.size; omega))
      have SZ := hid ((ExIn.keep (Same.of_below B14.out fun g h => h) _ HZ.out).more (F' := fun g => g < wp.heap.size) (fun g h => by have := B14.out.size; omega))
      clear X0 X1 X2 X3
      obtain ⟨⟨n5, f5⟩, hR15⟩ : ∃ R, R = evalR (.mk kd 0 [X, .mk kd 0 [Y, Z]]) V := ⟨_, rfl⟩
      have HR15 := hid hR15
      clear hR15
      go_upto_region 15 with fail
      go_cut [23, 24] from 119 to 136 (fun c d wx => c = .int .i64 n5 ∧ d = errV f5 ∧ Hid (Below (W.heap.size + 4) ((((W.alloc (.cells #[.int .i64 xk, .int .i64 xn, .slice A1 xs.length p1] 24)).alloc (.cells #[.int .i64 yk, .int .i64 yn, .slice A2 ys.length p2] 24)).alloc (.cells #[.int .i64 zk, .int .i64 zn, .slice A3 zs.length p3] 24)).alloc (.cells #[.bool vk, .int .i64 vn, .slice A4 vs.length p4] 38)) wx) ∧ Hid (wx.heap[wq.heap.size]? = some (.cells #[.int .i64 5, .int .i64 10, .int .i64 11] 3 (0, 0))))
      case first => as_aux_lemma =>
        go_region_held3 (fun w' => w'.cell? ⟨W.heap.size, 0, none⟩ = some (.int .i64 xk) ∧ w'.cell? ⟨W.heap.size, 1, none⟩ = some (.int .i64 xn) ∧ w'.cell? ⟨W.heap.size, 2, none⟩ = some (.slice A1 xs.length p1) ∧ w'.cell? ⟨W.heap.size + 1, 0, none⟩ = some (.int .i64 yk) ∧ w'.cell? ⟨W.heap.size + 1, 1, none⟩ = some (.int .i64 yn) ∧ w'.cell? ⟨W.heap.size + 1, 2, none⟩ = some (.slice A2 ys.length p2) ∧ w'.cell? ⟨W.heap.size + 1 + 1, 0, none⟩ = some (.int .i64 zk) ∧ w'.cell? ⟨W.heap.size + 1 + 1, 1, none⟩ = some (.int .i64 zn) ∧ w'.cell? ⟨W.heap.size + 1 + 1, 2, none⟩ = some (.slice A3 zs.length p3) ∧ w'.cell? ⟨W.heap.size + 1 + 1 + 1, 0, none⟩ = some (.bool vk) ∧ w'.cell? ⟨W.heap.size + 1 + 1 + 1, 1, none⟩ = some (.int .i64 vn) ∧ w'.cell? ⟨W.heap.size + 1 + 1 + 1, 2, none⟩ = some (.slice A4 vs.length p4) ∧ w'.cell? ⟨wq.heap.size, i, none⟩ = some (.int .i64 kd))
          (first | go_keep | exact keep13 P3.out L3.out RK.out | exact keep13 P4.out L4.out RK.out | exact keep13 P6.out L6.out RK.out)
          (first
            | (go_at_call_of 16 (Value.agg #[.int .i64 yk, .int .i64 yn, .slice A2 ys.length p2]); refine (both_any kd KW.out Y Z (fun g => g < wp.heap.size) _ _ _ _ _ _ wp.drew (fun g h => h) (ExIn.keep (w := wp) (w' := wp.drew) (fun _ _ => rfl) _ SY.out) (ExIn.keep (w := wp) (w' := wp.drew) (fun _ _ => rfl) _ SZ.out)).mono ?_; rintro e w3 ⟨A5, rfl, hb3, hl3, hE3⟩; have BB : Hid (Below wp.heap.size wp w3) := (Below.refl wp.heap.size wp).drew.trans hb3; have P3 := hid (P14.out.trans (BB.out.mono (by have := P14.out.size; simp at this; omega))); have B3 := hid (B14.out.trans (BB.out.mono B14.out.size)); have L3 := hid (Has.below L14.out BB.out (Has.lt L14.out)); have E3 := hid (ExIn.more (F' := fun g => g < w3.heap.size) (fun g h => Or.elim h (fun h => Nat.lt_trans h hl3) fun h => h.2) _ hE3); have TO := hid (ExIn.more (F' := fun g => g < w3.heap.size) (fun g h => Nat.lt_trans h hl3) _ (ExIn.keep (Same.of_below BB.out fun g h => h) _ SX.out)); clear hb3 hl3 hE3 BB)
            | (go_at_call_of 16 (Value.agg #[.int .i64 xk, .int .i64 xn, .slice A1 xs.length p1]); refine (both_any kd KW.out X (.mk kd 0 [Y, Z]) (fun g => g < w3.heap.size) _ _ _ _ _ _ w3 (fun g h => h) TO.out E3.out).mono ?_; rintro e w4 ⟨A6, rfl, hb3, hl3, hE3⟩; have P4 := hid (P3.out.trans (hb3.mono (by have := P3.out.size; simp at this; omega))); have B4 := hid (B3.out.trans (hb3.mono B3.out.size)); have L4 := hid (Has.below L3.out hb3 (Has.lt L3.out)); have E4 := hid (ExIn.more (F' := fun g => g < w4.heap.size) (fun g h => Or.elim h (fun h => Nat.lt_trans h hl3) fun h => h.2) _ hE3); clear hb3 hl3 hE3)
            | (go_at_call 20; refine (eval_at (.mk kd 0 [X, .mk kd 0 [Y, Z]]) V _ _ _ _ _ _ W w4 HL.out B4.out E4.out HV.out).mono ?_; rintro e w6 ⟨rfl, hb6⟩; rw [← HR15.out]; have P6 := hid (P4.out.trans (hb6.mono (by have := P4.out.size; simp at this; omega))); have L6 := hid (Has.below L4.out hb6 (Has.lt L4.out)); clear hb6))
        all_goals
          go_wp2_with fail
          go_meet
          exact ⟨rfl, rfl, P6, L6⟩
      case rest =>
      obtain ⟨rfl, rfl, P15, L15⟩ := hcut
      obtain ⟨wz, rfl⟩ : ∃ wz : World, wz = wc := ⟨_, rfl⟩
      clear ec2 a0 a1 a2 b0 b1 b2 c0 c1 c2 v0 v1 v2 SX SY SZ
      have D4 : Hid (isz f4 = true → isz f5 = true → (n4 != n5) = false) := fun h h' => by
        have e := two_group (x := X) (y := Y) (z := Z) (v := V) HK.out (by rw [← HR14.out]; exact of_isz h) (by rw [← HR15.out]; exact of_isz h')
        rw [← HR14.out, ← HR15.out] at e
        simp at e
        simp [e]
      go_upto_region 16 with fail
      go_cut [147] from 137 to 146 (fun c wx => c = .bool false ∧ wx = wz)
      case first => as_aux_lemma =>
        have hq := HQ.out
        have hg := HG.out
        go_wp2_with fail
        all_goals first
          | (exfalso; have e := D4.out (by assumption) (by assumption); simp only [bne_eq_false_iff_eq] at e; contradiction)
          | (go_meet; exact ⟨by first | rfl | rw [D4.out (by assumption) (by assumption)], rfl⟩)
      case rest =>
      obtain ⟨rfl, hwc⟩ := hcut
      obtain rfl : wz = wc := hwc.symm
      clear D4
      go_wp2_with fail
      go_roundw
      case rel => exact ⟨i + 1, by omega, by go_num, P15, L15⟩
      case measure => simp [intOf]; have := HLI.out; omega
    · obtain rfl : i = 3 := by omega
      go_wp2_with fail
      go_ret
      exact ⟨rfl, (below4 _ _ _ _ _).trans (P.out.mono (by omega))⟩
end Go.Proofs.YtcifglaklligfaaDoor
