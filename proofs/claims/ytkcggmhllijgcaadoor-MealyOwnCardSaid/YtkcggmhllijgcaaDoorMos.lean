/- What spoil makes of a row of the call's own, whatever else lies in its block; many rows that are spoilt one after the other. No conditions. -/
import Derived.Test.YtkcggmhllijgcaaDoorSpm
import Derived.Test.YtkcggmhllijgcaaDoorLea
import Derived.Test.YtkcggmhllijgcaaDoorSet
import Derived.Test.YtkcggmhllijgcaaDoorSea
import Derived.Test.YtkcggmhllijgcaaDoorRno
import Derived.Test.YtkcggmhllijgcaaDoorBad
import Derived.Test.YtkcggmhllijgcaaDoorLsp
import Derived.Test.YtkcggmhllijgcaaDoorLok
namespace Go.Proofs.YtkcggmhllijgcaaDoor
open Go.RowKit Go.Deep
/-- a row that may be written into -/
def SP (w : World) (r : Value) : Prop := r = .slice none 0 0 ∨ ∃ g n c cur, r = .slice (some ⟨g, 0, none⟩) n c ∧ n ≤ 17592186044416 ∧ w.heap[g]? = some (.cells cur 3 (0, 0)) ∧ n ≤ cur.size
theorem SP.of_own {w : World} {B n : Nat} {r : Value} {xs : List Value} (h : w.ownsRow B 3 1 r n xs) (hn : n ≤ 17592186044416) : SP w r := by
  rcases h.2 with ⟨rfl, _⟩ | ⟨g, cap, cur, rfl, _, hh, hc1, _, hc3, _⟩
  · exact .inl rfl
  · exact .inr ⟨g, n, cap, cur, rfl, hn, hh, by omega⟩
theorem gr_own_of {w w' : World} (h : Below w.heap.size w w') {r : Option Nat} : w.grownBy w' r := ⟨h.os, h.tape, h.output, h.size, fun k hk _ => h.block k hk⟩
def SpGo (r : Value) (w w' : World) : Prop := w.grownBy w' r.ownBlock ∧ ∀ g cur, r.ownBlock = some g → w.heap[g]? = some (.cells cur 3 (0, 0)) → ∃ cur', w'.heap[g]? = some (.cells cur' 3 (0, 0)) ∧ cur'.size = cur.size
theorem SP.keep {w w' : World} {r u : Value} (h : SP w u) (hg : SpGo r w w') : SP w' u := by
  rcases h with rfl | ⟨g, n, c, cur, rfl, hn, hh, hc⟩
  · exact .inl rfl
  · by_cases e : r.ownBlock = some g
    · obtain ⟨cur', h1, h2⟩ := hg.2 g cur e hh
      exact .inr ⟨g, n, c, cur', rfl, hn, h1, by omega⟩
    · exact .inr ⟨g, n, c, cur, rfl, hn, (hg.1.block g (Has.lt hh) (fun e2 => e e2.symm)).trans hh, hc⟩
theorem SP.below {w w' : World} {u : Value} (h : SP w u) (hb : Below w.heap.size w w') : SP w' u := by
  rcases h with rfl | ⟨g, n, c, cur, rfl, hn, hh, hc⟩
  · exact .inl rfl
  · exact .inr ⟨g, n, c, cur, rfl, hn, Has.below hh hb (Has.lt hh), hc⟩
set_option maxRecDepth 100000 in
set_option maxHeartbeats 1000000 in
theorem spoil_sp (x : Int) (r : Value) (w : World) (h : SP w r) :
    Calls Tryd.prog 23 #[r, .int .i64 x] w fun e w' => e = .returned (.tuple #[]) ∧ SpGo r w w' := by
  rcases h with rfl | ⟨g, n, c, cur, rfl, hn, hh, hc⟩
  · go_enter Tryd.func23, Tryd.ntmps23
    go_wp2_with fail
    go_loopw [4] (fun iv wr => iv = .int .i64 0 ∧ Hid (Below w.heap.size w wr)) (fun _ _ => 0)
    case atStart => exact ⟨rfl, Below.refl _ _⟩
    case round =>
      obtain ⟨rfl, hB⟩ := hrel
      go_wp2_with fail
      go_end0
      exact ⟨rfl, gr_own_of hB.out, fun g cur e => by cases e⟩
  · have HH := hid hh
    have HC := hid hc
    clear hh hc
    go_enter Tryd.func23, Tryd.ntmps23
    go_wp2_with fail
    go_loopw [4] (fun iv wr => ∃ j : Nat, j ≤ n ∧ iv = .int .i64 j ∧ Hid (∃ cur', wr.heap[g]? = some (.cells cur' 3 (0, 0)) ∧ cur'.size = cur.size) ∧ Hid (w.grownBy wr (some g))) (fun iv _ => n - (intOf iv).toNat)
    case atStart => exact ⟨0, Nat.zero_le _, rfl, ⟨cur, HH.out, rfl⟩, World.grownBy.refl w _⟩
    case round =>
      obtain ⟨j, hj, rfl, hO, hG⟩ := hrel
      obtain ⟨cur', h1, h2⟩ := hO.out
      by_cases hlt : j < n
      · have lj : j < cur'.size := by have := HC.out; omega
        have c1 : wr.cell? ⟨g, j, none⟩ = some cur'[j] := by
          have := Has.cell h1 j
          rw [this]; simp [lj]
        have f1 : wr.frozen? ⟨g, j, none⟩ = false := Has.froz h1 j
        have H1 := hid h1
        have H2 := hid h2
        have i1 : (j : Int) < (n : Int) := by omega
        clear h1 h2 hO
        go_wp2_with fail
        go_roundw
        case rel =>
          refine ⟨j + 1, by omega, by go_num, ?_, ?_⟩
          · have := Has.set H1.out j (.int .i64 x)
            exact ⟨_, this, by have := H2.out; simp [this]⟩
          · have h1 := hG.out
            exact ⟨h1.os, h1.tape, h1.output, by have := h1.size; simpa using this, fun k hk hne => (Below.heap_setCell wr _ _ k (fun e => hne (by rw [e]))).trans (h1.block k hk hne)⟩
        case measure => simp [intOf]; omega
      · obtain rfl : j = n := by omega
        go_wp2_with fail
        go_end0
        refine ⟨rfl, hG.out, fun g2 cur2 e e2 => ?_⟩
        have eg : g2 = g := by simpa [Value.ownBlock] using e.symm
        subst eg
        rw [HH.out] at e2
        injection e2 with e2
        injection e2 with e2
        subst e2
        exact hO.out
/-- rows that are spoilt one after the other -/
structure SpI (w0 : World) (rl : List Value) (w : World) : Prop where
  os : w.os = w0.os
  tape : w.tape = w0.tape
  output : w.output = w0.output
  size : w0.heap.size ≤ w.heap.size
  keep : ∀ b, b < w0.heap.size → (∀ r ∈ rl, r.ownBlock ≠ some b) → w.heap[b]? = w0.heap[b]?
  sp : ∀ r ∈ rl, SP w r
theorem SpI.start {w : World} {rl : List Value} (h : ∀ r ∈ rl, SP w r) : SpI w rl w := ⟨rfl, rfl, rfl, Nat.le_refl _, fun _ _ _ => rfl, h⟩
theorem SpI.step {w0 w w' : World} {rl : List Value} {r : Value} (h : SpI w0 rl w) (hr : r ∈ rl) (hg : SpGo r w w') : SpI w0 rl w' :=
  ⟨hg.1.os.trans h.os, hg.1.tape.trans h.tape, hg.1.output.trans h.output, Nat.le_trans h.size hg.1.size, fun b hb hn => (hg.1.block b (Nat.lt_of_lt_of_le hb h.size) (fun e => hn r hr e.symm)).trans (h.keep b hb hn), fun u hu => (h.sp u hu).keep hg⟩
/-- all below B stays -/
theorem SpI.below {B : Nat} {w0 w : World} {rl : List Value} (h : SpI w0 rl w) (hB : B ≤ w0.heap.size) (hr : ∀ r ∈ rl, ∀ b, r.ownBlock = some b → B ≤ b) : Below B w0 w :=
  ⟨h.os, h.tape, h.output, h.size, fun b hb => h.keep b (by omega) fun r hr2 e => by have := hr r hr2 b e; omega⟩
theorem SP.block {w : World} {r : Value} {b : Nat} (h : SP w r) (hb : r.ownBlock = some b) : ∃ cur, w.heap[b]? = some (.cells cur 3 (0, 0)) := by
  rcases h with rfl | ⟨g, n, c, cur, rfl, _, hh, _⟩
  · cases hb
  · simp [Value.ownBlock] at hb; subst hb; exact ⟨cur, hh⟩
/-- a block of another type stays -/
theorem SpI.other {w0 w : World} {rl : List Value} (h : SpI w0 rl w) (h0 : ∀ r ∈ rl, SP w0 r) {b : Nat} {cs : Array Value} {t : TypeId} (hb : w0.heap[b]? = some (.cells cs t (0, 0))) (ht : t ≠ 3) : w.heap[b]? = some (.cells cs t (0, 0)) := by
  refine (h.keep b (Has.lt hb) fun r hr e => ?_).trans hb
  obtain ⟨cur, hc⟩ := (h0 r hr).block e
  rw [hb] at hc
  injection hc with hc
  injection hc with _ hc
  exact ht hc
/-- a header row stays -/
theorem SpI.row {w0 w : World} {rl : List Value} (h : SpI w0 rl w) (h0 : ∀ r ∈ rl, SP w0 r) {B n : Nat} {v : Value} {cs : List Value} (ho : w0.ownsRow B 29 1 v n cs) : w.ownsRow B 29 1 v n cs := by
  refine own_keep ho fun k hk => ?_
  rcases ho.2 with ⟨rfl, _⟩ | ⟨g, cap, cur, rfl, _, hh, _⟩
  · cases hk
  · have hk' : k = g := by simpa [Value.ownBlock] using hk.symm
    subst hk'
    rw [hh]
    exact h.other h0 hh (by decide)
-- least machine and set, whatever machine it is
def LstR (m l : MachD) : Prop := (chk m = 0 → ∃ c, ClassOf m c ∧ LeastD m c l) ∧ (chk m ≠ 0 → l = ⟨[], []⟩)
theorem LstR.one {m l k : MachD} (h1 : LstR m l) (h2 : LstR m k) : l = k := by
  by_cases h : chk m = 0
  · obtain ⟨c, hc, hl⟩ := h1.1 h
    obtain ⟨d, hd, hk⟩ := h2.1 h
    exact least_one rfl (chk_good h) (chk_good h) hc hd (fun _ _ => rfl) hl hk
  · rw [h1.2 h, h2.2 h]
theorem LstR.size {m l : MachD} (h : LstR m l) : l.out.length ≤ 6 ∧ l.next.length = l.out.length ∧ (∀ x ∈ l.out, x.length ≤ 3) ∧ ∀ x ∈ l.next, x.length ≤ 3 := by
  by_cases hm : chk m = 0
  · obtain ⟨c, hc, hl⟩ := h.1 hm
    have gl := (least_props (chk_good hm) hc hl).1
    refine ⟨gl.le, gl.next, fun x hx => ?_, fun x hx => ?_⟩
    · obtain ⟨i, hi, rfl⟩ := List.getElem_of_mem hx
      have := gl.rowO i hi
      have e : rowAt l.out i = l.out[i] := by unfold rowAt; rw [List.getD_eq_getElem?_getD, List.getElem?_eq_getElem hi]; rfl
      rw [e] at this
      have := gl.ins3; omega
    · obtain ⟨i, hi, rfl⟩ := List.getElem_of_mem hx
      have := gl.rowN i (by have := gl.next; omega)
      have e : rowAt l.next i = l.next[i] := by unfold rowAt; rw [List.getD_eq_getElem?_getD, List.getElem?_eq_getElem hi]; rfl
      rw [e] at this
      have := gl.ins3; omega
  · rw [h.2 hm]; simp
theorem OwnM.nil (B : Nat) (F : Nat → Prop) (w : World) : OwnM B F w (.slice none 0 0) (.slice none 0 0) ⟨[], []⟩ :=
  ⟨[], [], World.ownsRow_nil _ _ _ _, World.ownsRow_nil _ _ _ _, fun i hi => by simp at hi, fun i hi => by simp at hi⟩
theorem least_all (m : MachD) (F : Nat → Prop) (v : Value) (w : World) (hF : ∀ b, F b → b < w.heap.size) (h : MachIn F w v m) :
    Calls Tryd.prog 18 #[v] w fun e w' => ∃ o n l, e = .returned (.tuple #[.agg #[o, n], errV (chk m)]) ∧ LstR m l ∧ MachIn (Fresh w w') w' (.agg #[o, n]) l ∧ Below w.heap.size w w' ∧ OwnM w.heap.size (Fresh w w') w' o n l := by
  by_cases hc : chk m = 0
  · refine (least_own m F v w hF h (chk_good hc)).mono ?_
    rintro e w' ⟨o, n, c, l, h1, h2, h3, h4, h5, h6⟩
    exact ⟨o, n, l, by rw [hc]; exact h1, ⟨fun _ => ⟨c, h2, h3⟩, fun h => absurd hc h⟩, h4, h5, h6⟩
  · refine (least_bad m F v w hF h hc).mono ?_
    rintro e w' ⟨h1, h2⟩
    exact ⟨_, _, ⟨[], []⟩, by rw [errV_no hc]; exact h1, ⟨fun h => absurd h hc, fun _ => rfl⟩, ⟨_, _, rfl, RowsIn.nil_, RowsIn.nil_⟩, h2, OwnM.nil _ _ _⟩
theorem set_all (m : MachD) (F : Nat → Prop) (v : Value) (w : World) (hF : ∀ b, F b → b < w.heap.size) (h : MachIn F w v m) :
    Calls Tryd.prog 22 #[v] w fun e w' => ∃ r cs, e = .returned (.tuple #[r, errV (chk m)]) ∧ w'.ownsRow w.heap.size 29 1 r (setR m).length cs ∧ RowOwn (Fresh w w') w' cs (setR m) ∧ Below w.heap.size w w' := by
  by_cases hc : chk m = 0
  · refine (set_own m F v w hF h (chk_good hc)).mono ?_
    rintro e w' ⟨r, h1, h2, h3, cs, h4, h5⟩
    have e1 : setR m = setL m := by unfold setR; rw [if_pos hc]
    exact ⟨r, cs, by rw [hc]; exact h1, by rw [e1]; exact h4, by rw [e1]; exact h5, h3⟩
  · refine (set_bad m F v w hF h hc).mono ?_
    rintro e w' ⟨h1, h2⟩
    have e1 : setR m = [] := by unfold setR; rw [if_neg hc]
    exact ⟨_, [], by rw [errV_no hc]; exact h1, by rw [e1]; exact World.ownsRow_nil _ _ _ _, by rw [e1]; exact fun i hi => by simp at hi, h2⟩
theorem run_all (m : MachD) (ws : List Int) (F : Nat → Prop) (v u : Value) (w : World) (hF : ∀ b, F b → b < w.heap.size) (h : MachIn F w v m) (hu : IntsIn .i64 F w u ws) (hz : ws.length * 8 ≤ 140737488355328) :
    Calls Tryd.prog 14 #[v, .int .i64 0, u] w fun e w' => ∃ (r : Value) (g : Int) (zs : List Int), e = .returned (.tuple #[r, .int .i64 g, errV (runFault m 0 ws)]) ∧ w'.ownsRow w.heap.size 3 1 r zs.length (zs.map (Value.int .i64)) ∧ zs.length ≤ ws.length ∧ (runFault m 0 ws = 0 → zs.length = ws.length) ∧ Below w.heap.size w w' := by
  refine (run_own m 0 ws F v u w hF h hu hz).mono ?_
  rintro e w' ⟨h1, h2, h3⟩
  by_cases hr : runFault m 0 ws = 0
  · obtain ⟨r, e1, e2⟩ := h2 hr
    have el : (tells m (0 : Int).toNat ws).length = ws.length := tells_length _ _ _
    exact ⟨r, _, tells m (0 : Int).toNat ws, by rw [hr]; exact e1, by rw [el]; exact e2, by rw [el]; exact Nat.le_refl _, fun _ => el, h3⟩
  · exact ⟨_, _, [], by rw [errV_no hr]; exact h1 hr, World.ownsRow_nil _ _ _ _, by simp, fun h => absurd h hr, h3⟩
end Go.Proofs.YtkcggmhllijgcaaDoor
