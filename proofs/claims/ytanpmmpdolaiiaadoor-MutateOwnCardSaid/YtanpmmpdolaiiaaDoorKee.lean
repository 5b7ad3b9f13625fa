/- What a law keeps from call to call, expressions: boxes and trees; what mutate.All returns, whatever it is given. Condition: the package's lists. -/
import Derived.Test.YtanpmmpdolaiiaaDoorExa
namespace Go.Proofs.YtanpmmpdolaiiaaDoor
open Go.RowKit Go.Deep
def mutsR (x : Ex) : List Ex := if chkE x = 0 then x.muts else []
def AllRPost (x : Ex) (w : World) (e : Ending) (w' : World) : Prop := ∃ v, e = .returned (.tuple #[v, errV (chkE x)]) ∧ EInv w.heap.size v (mutsR x) w' ∧ Below w.heap.size w w'
set_option maxRecDepth 100000 in
set_option maxHeartbeats 1000000 in
theorem allR_any (x : Ex) (F : Nat → Prop) (a b c : Value) (w : World) (hF : ∀ g, F g → g < w.heap.size) (hx : ExIn F w x a b c) (hL : LaidE w) :
    Calls Tryd.prog 4 #[.agg #[a, b, c]] w (AllRPost x w) := by
  have HX := hid hx
  have HF := hid hF
  have HL := hid hL
  obtain ⟨k, n, s⟩ := x
  obtain ⟨A, cp, rfl, rfl, rfl, l1, l2, _⟩ := hx.box
  have B0 : Hid (Below w.heap.size w (w.alloc (.cells #[.int .i64 k, .int .i64 n, .slice A s.length cp] 24))) := (Below.refl _ _).alloc (Nat.le_refl _) _
  have X0 := hid (Has.new w (.cells #[.int .i64 k, .int .i64 n, .slice A s.length cp] 24))
  clear hF hL
  go_enter Tryd.func4, Tryd.ntmps4
  go_wp2_with fail
  refine (echeck_any (.mk k n s) F _ _ _ _ (fun g hg => by have := HF.out g hg; simp; omega) (ExIn.keep (Same.of_below B0.out HF.out) _ HX.out) (HL.out.below B0.out)).mono ?_
  rintro e w1 ⟨rfl, hb1⟩
  have B1 := hid (B0.out.trans (hb1.mono (by simp)))
  have X1 := Has.below X0.out hb1 (by simp)
  have x0 := Has.cell X1 0
  have x1 := Has.cell X1 1
  have x2 := Has.cell X1 2
  simp at x0 x1 x2
  have s1 := B1.out.size
  clear hb1 X1
  by_cases hc : chkE (.mk k n s) = 0
  · have MR : Hid (mutsR (.mk k n s) = (Ex.mk k n s).muts) := by show _ = _; unfold mutsR; rw [if_pos hc]
    have E0 : Hid (errV (chkE (.mk k n s)) = .nilIface) := by show _ = _; rw [hc]; rfl
    have SZ := hid (size_le hc)
    have EZ := hid (err_zero hc)
    rw [E0.out]
    clear hc
    go_wp2_with fail
    refine (all_any (.mk k n s) F _ _ _ _ (fun g hg => by have := HF.out g hg; omega) (ExIn.keep (Same.of_below B1.out HF.out) _ HX.out) (HL.out.below B1.out) (by have := SZ.out; omega) EZ.out).mono ?_
    rintro e w2 ⟨v, rfl, hE, hb2⟩
    have B2 := hid (B1.out.trans (hb2.mono s1))
    have E2 := hid (hE.base s1)
    clear hb2 hE
    go_wp2_with fail
    go_ret2
    exact ⟨_, by rw [E0.out]; rfl, by rw [MR.out]; exact E2.out, B2.out⟩
  · have MR : Hid (mutsR (.mk k n s) = []) := by show _ = _; unfold mutsR; rw [if_neg hc]
    rw [errV_no hc]
    have HC := hid hc
    clear hc
    go_wp2_with fail
    go_ret2
    exact ⟨_, by rw [errV_no HC.out]; rfl, by rw [MR.out]; exact EInv.nil_ _ _, B1.out⟩
def ExV (F : Nat → Prop) (w : World) (v : Value) (x : Ex) : Prop := ∃ a b c, v = .agg #[a, b, c] ∧ ExIn F w x a b c
structure KeptE (W : World) (os : List (Nat × Array Value × TypeId)) (xs : List (Value × Value × Value × Ex)) (w : World) : Prop where
  bel : Below W.heap.size W w
  laid : LaidE w
  box : ∀ p ∈ os, w.heap[p.1]? = some (.cells p.2.1 p.2.2 (0, 0))
  exs : ∀ p ∈ xs, ExIn (fun b => b < w.heap.size) w p.2.2.2 p.1 p.2.1 p.2.2.1
section
variable {W w w' : World} {os : List (Nat × Array Value × TypeId)} {xs : List (Value × Value × Value × Ex)}
theorem KeptE.start (W : World) (h : LaidE W) : KeptE W [] [] W := ⟨Below.refl _ _, h, by simp, by simp⟩
theorem KeptE.step (K : KeptE W os xs w) (hb : Below w.heap.size w w') : KeptE W os xs w' := by
  have hs := hb.size
  exact ⟨K.bel.trans (hb.mono K.bel.size), K.laid.below hb, fun p hp => Has.below (K.box p hp) hb (Has.lt (K.box p hp)), fun p hp => ExIn.more (fun b h => by have h' : b < w.heap.size := h; omega) _ (ExIn.keep (Same.of_below hb fun b h => h) _ (K.exs p hp))⟩
theorem KeptE.drewN (K : KeptE W os xs w) (q : Nat) : KeptE W os xs (w.drewN q) := K.step (below_drewN (Below.refl _ _) q)
theorem KeptE.alloc (K : KeptE W os xs w) (o : Obj) : KeptE W os xs (w.alloc o) := K.step ((Below.refl _ _).alloc (Nat.le_refl _) _)
theorem KeptE.allocs (K : KeptE W os xs w) (cs : Array Value) (t : TypeId) {g : Nat} (hg : g = w.heap.size) : KeptE W ((g, cs, t) :: os) xs (w.alloc (.cells cs t)) := by
  subst hg
  refine ⟨(K.alloc _).bel, (K.alloc _).laid, fun p hp => ?_, (K.alloc _).exs⟩
  rcases List.mem_cons.1 hp with rfl | hp
  · exact Has.new w _
  · exact (K.alloc _).box p hp
theorem KeptE.add (K : KeptE W os xs w) {F : Nat → Prop} {a b c : Value} {x : Ex} (h : ExIn F w x a b c) (hF : ∀ b, F b → b < w.heap.size) : KeptE W os ((a, b, c, x) :: xs) w :=
  ⟨K.bel, K.laid, K.box, fun p hp => by
    rcases List.mem_cons.1 hp with rfl | hp
    · exact ExIn.more hF _ h
    · exact K.exs p hp⟩
theorem KeptE.cellN (K : KeptE W os xs w) (n : Nat) {g : Nat} {cs : Array Value} {t : TypeId} (h : os[n]? = some (g, cs, t)) (i : Nat) : w.cell? ⟨g, i, none⟩ = cs[i]? := Has.cell (K.box _ (List.mem_of_getElem? h)) i
theorem KeptE.ltN (K : KeptE W os xs w) (n : Nat) {g : Nat} {cs : Array Value} {t : TypeId} (h : os[n]? = some (g, cs, t)) : g < w.heap.size := Has.lt (K.box _ (List.mem_of_getElem? h))
theorem KeptE.exN (K : KeptE W os xs w) (n : Nat) {a b c : Value} {x : Ex} (h : xs[n]? = some (a, b, c, x)) : ExIn (fun g => g < w.heap.size) w x a b c := K.exs _ (List.mem_of_getElem? h)
end
theorem ex_lit1 {w : World} {k1 n1 : Int} {s1 : List Ex} {c1 : Value} {k n : Int} (h : ExIn (fun b => b < w.heap.size) w (.mk k1 n1 s1) (.int .i64 k1) (.int .i64 n1) c1) (hk : (Lit.int .i64 k).wf = true) (hn : (Lit.int .i64 n).wf = true) :
    ExIn (fun b => b < (w.alloc (.cells #[.int .i64 k1, .int .i64 n1, c1] 24)).heap.size) (w.alloc (.cells #[.int .i64 k1, .int .i64 n1, c1] 24)) (.mk k n [.mk k1 n1 s1]) (.int .i64 k) (.int .i64 n) (.slice (some ⟨w.heap.size, 0, none⟩) 1 1) := by
  have hc := ExCells.nil_.snoc h
  have := einv_lit (l := [.mk k1 n1 s1]) (cs := #[.int .i64 k1, .int .i64 n1, c1]) (by simp) (by simp) rfl hc 0 (Nat.zero_le _) (hc.more fun b h => ⟨Nat.zero_le _, h⟩)
  exact ExIn.more (fun b h => h.2) _ (this.ex hk hn)
theorem ex_lit2 {w : World} {k1 n1 k2 n2 : Int} {s1 s2 : List Ex} {c1 c2 : Value} {k n : Int} (h : ExIn (fun b => b < w.heap.size) w (.mk k1 n1 s1) (.int .i64 k1) (.int .i64 n1) c1) (h2 : ExIn (fun b => b < w.heap.size) w (.mk k2 n2 s2) (.int .i64 k2) (.int .i64 n2) c2) (hk : (Lit.int .i64 k).wf = true) (hn : (Lit.int .i64 n).wf = true) :
    ExIn (fun b => b < (w.alloc (.cells #[.int .i64 k1, .int .i64 n1, c1, .int .i64 k2, .int .i64 n2, c2] 24)).heap.size) (w.alloc (.cells #[.int .i64 k1, .int .i64 n1, c1, .int .i64 k2, .int .i64 n2, c2] 24)) (.mk k n [.mk k1 n1 s1, .mk k2 n2 s2]) (.int .i64 k) (.int .i64 n) (.slice (some ⟨w.heap.size, 0, none⟩) 2 2) := by
  have hc := (ExCells.nil_.snoc h).snoc h2
  have := einv_lit (l := [.mk k1 n1 s1, .mk k2 n2 s2]) (cs := #[.int .i64 k1, .int .i64 n1, c1, .int .i64 k2, .int .i64 n2, c2]) (by simp) (by simp) rfl hc 0 (Nat.zero_le _) (hc.more fun b h => ⟨Nat.zero_le _, h⟩)
  exact ExIn.more (fun b h => h.2) _ (this.ex hk hn)
theorem ex_leaf {F : Nat → Prop} {w : World} {k n : Int} (hk : (Lit.int .i64 k).wf = true) (hn : (Lit.int .i64 n).wf = true) : ExIn F w (.mk k n []) (.int .i64 k) (.int .i64 n) (.slice none 0 0) := by
  rw [ExIn]; exact ⟨rfl, rfl, hk, hn, none, 0, rfl, by simp, by simp⟩
def LawPost (W : World) (e : Ending) (w' : World) : Prop := e = .returned (.bool true) ∧ Below W.heap.size W w'
end Go.Proofs.YtanpmmpdolaiiaaDoor
