/- What table.told of package learn returns, whatever function value is asked. Condition: that function's contract. -/
import Derived.Test.YtkcggmhllijgcaaDoorLqm
import Derived.Test.YtkcggmhllijgcaaDoorSlc
import Derived.Test.YtkcggmhllijgcaaDoorRun
import Derived.Test.YtkcggmhllijgcaaDoorRap
import Derived.Lib.MinMax
import Derived.Deep.RegionHeld3
namespace Go.Proofs.YtkcggmhllijgcaaDoor
open Go.RowKit Go.Deep
theorem gr_below {w w' : World} (h : Below w.heap.size w w') (r : Option Nat) : w.grownBy w' r := ⟨h.os, h.tape, h.output, h.size, fun k hk _ => h.block k hk⟩
theorem gr_drew (w : World) (r : Option Nat) : w.grownBy w.drew r := gr_below ((Below.refl _ _).drew) r
theorem gr_block {w w' : World} {r : Option Nat} (h : w.grownBy w' r) {b : Nat} (hb : b < w.heap.size) (hr : some b ≠ r) : w'.heap[b]? = w.heap[b]? := h.block b hb hr
/-- blocks that no question writes -/
def Fx (r : Option Nat) (w : World) (b : Nat) : Prop := b < w.heap.size ∧ some b ≠ r
theorem Fx.same {w w' : World} {r : Option Nat} (h : w.grownBy w' r) : Same (Fx r w) w w' := fun b hb => gr_block h hb.1 hb.2
theorem Fx.mono {w w' : World} {r : Option Nat} (h : w.heap.size ≤ w'.heap.size) {b : Nat} (hb : Fx r w b) : Fx r w' b := ⟨Nat.lt_of_lt_of_le hb.1 h, hb.2⟩
theorem ints_gr {w w' : World} {r : Option Nat} {v : Value} {zs : List Int} (h : IntsIn .i64 (Fx r w) w v zs) (hg : w.grownBy w' r) : IntsIn .i64 (Fx r w') w' v zs := (h.keep (Fx.same hg)).more fun _ hb => hb.mono hg.size
theorem rows_gr {w w' : World} {r : Option Nat} {v : Value} {ll : List (List Int)} (h : RowsIn (Fx r w) w v ll) (hg : w.grownBy w' r) : RowsIn (Fx r w') w' v ll := (h.keep (Fx.same hg)).more fun _ hb => hb.mono hg.size
theorem own_gr {w w' : World} {r : Option Nat} {B n : Nat} {e : TypeId} {v : Value} {xs : List Value} (h : w.ownsRow B e 1 v n xs) (hg : w.grownBy w' r) (hr : ∀ b, r = some b → b < B) : w'.ownsRow B e 1 v n xs :=
  own_keep h fun k hk => gr_block hg (own_lt h k hk) fun e => by have := hr k e.symm; have := own_ge h k hk; omega
theorem ints_own {w : World} {r : Option Nat} {B n : Nat} {e : TypeId} {v : Value} {zs : List Int} (h : w.ownsRow B e 1 v n (zs.map (Value.int .i64))) (hw : ∀ z ∈ zs, (Lit.int .i64 z).wf = true) (hr : ∀ b, r = some b → b < B) : IntsIn .i64 (Fx r w) w v zs :=
  (ints_of_own h hw).more fun b hb => ⟨hb.2, fun e => by have := hr b e.symm; omega⟩
/-- a function value that is asked words: what it tells (T), of how many letters (n), what it writes (the box r), what it keeps (R) -/
structure TellsOk (fid : FuncId) (caps : Array Value) (T : List Int → List Int) (n : Nat) (r : Option Nat) (R : Nat → World → Prop) (B0 : Nat) : Prop where
  call : ∀ (s : Nat) (w : World) (v : Value) (ws : List Int), R s w → B0 ≤ w.heap.size → IntsIn .i64 (Fx r w) w v ws → ws.length ≤ 100 → (∀ x ∈ ws, 0 ≤ x ∧ x < (n : Int)) →
    Calls Tryd.prog fid (#[v] ++ caps) w fun e w' => ∃ u, e = .returned u ∧ IntsIn .i64 (Fx r w') w' u (T ws) ∧ w.grownBy w' r ∧ R (s + 1) w'
  keep : ∀ s w w', R s w → (∀ b, b < B0 → w'.heap[b]? = w.heap[b]?) → R s w'
  enter : ∀ (args : Array Value) (w : World), Sem.run Tryd.prog (callFunc fid args) w = .ok (.enter fid args) w
  low : ∀ b, r = some b → b < B0
  size : ∀ ws, ws.length ≤ 100 → (T ws).length ≤ 100
theorem TellsOk.below {fid : FuncId} {caps : Array Value} {T : List Int → List Int} {n : Nat} {r : Option Nat} {R : Nat → World → Prop} {B0 : Nat} (h : TellsOk fid caps T n r R B0) {s : Nat} {w w' : World} (hR : R s w) (hB : B0 ≤ w.heap.size) (hb : Below w.heap.size w w') : R s w' :=
  h.keep s w w' hR fun b hb' => hb.block b (by omega)
/-- the table: its box, heads and tails -/
structure TIn (fid : FuncId) (caps : Array Value) (r : Option Nat) (n bt : Nat) (hv tv : Value) (heads tails : List (List Int)) (w : World) : Prop where
  box : w.heap[bt]? = some (.cells #[.int .i64 (n : Int), .func (Fn.func fid) #[] caps, hv, tv] 58 (0, 0))
  hs : RowsIn (Fx r w) w hv heads
  ts : RowsIn (Fx r w) w tv tails
  bt : some bt ≠ r
theorem TIn.lt {fid : FuncId} {caps : Array Value} {r : Option Nat} {n bt : Nat} {hv tv : Value} {heads tails : List (List Int)} {w : World} (h : TIn fid caps r n bt hv tv heads tails w) : bt < w.heap.size := Has.lt h.box
theorem TIn.gr {fid : FuncId} {caps : Array Value} {r : Option Nat} {n bt : Nat} {hv tv : Value} {heads tails : List (List Int)} {w w' : World} (h : TIn fid caps r n bt hv tv heads tails w) (hg : w.grownBy w' r) : TIn fid caps r n bt hv tv heads tails w' :=
  ⟨(gr_block hg h.lt h.bt).trans h.box, rows_gr h.hs hg, rows_gr h.ts hg, h.bt⟩
theorem rows2L {F : Nat → Prop} {w : World} {b c : Nat} {r0 r1 : Value} {x y : List Int} (hF : F b) (h0 : w.cell? ⟨b, 0, none⟩ = some r0) (h1 : w.cell? ⟨b, 1, none⟩ = some r1) (i0 : IntsIn .i64 F w r0 x) (i1 : IntsIn .i64 F w r1 y) (hc : 2 ≤ c ∧ c ≤ maxLen := by simp [maxLen]) : RowsIn F w (.slice (some ⟨b, 0, none⟩) 2 c) [x, y] :=
  ⟨_, c, rfl, hc, fun _ => ⟨b, 0, rfl, hF, fun i hi => by
    match i, hi with
    | 0, _ => exact ⟨r0, h0, i0⟩
    | 1, _ => exact ⟨r1, h1, i1⟩⟩⟩
theorem ints_dropL {F : Nat → Prop} {w : World} {b o n c k : Nat} {zs : List Int} (h : IntsIn .i64 F w (.slice (some ⟨b, o, none⟩) n c) zs) (hk : k ≤ n) : IntsIn .i64 F w (.slice (some ⟨b, o + k, none⟩) (n - k) (c - k)) (zs.drop k) := by
  obtain ⟨A', c', e, h1, h2, h3⟩ := h
  injection e with e1 e2 e3
  subst e1 e2 e3
  have hl : (zs.drop k).length = zs.length - k := by rw [List.length_drop]
  refine ⟨_, _, by rw [hl], by rw [hl]; omega, fun z hz => h2 z (List.mem_of_mem_drop hz), fun hn => ?_⟩
  rw [hl] at hn
  obtain ⟨b', o', e, hF, hc⟩ := h3 (by omega)
  injection e with e
  injection e with e1 e2
  subst e1 e2
  refine ⟨b, o + k, rfl, hF, fun j hj => ?_⟩
  rw [hl] at hj
  rw [show o + k + j = o + (k + j) from by omega, hc (k + j) (by omega), List.getD_eq_getElem?_getD, List.getD_eq_getElem?_getD, List.getElem?_drop]
theorem ints_noneL {F : Nat → Prop} {w : World} {A : Option Addr} {c : Nat} (hc : c ≤ maxLen) : IntsIn .i64 F w (.slice A 0 c) [] := ⟨A, c, rfl, by simp; exact hc, by simp, by simp⟩
theorem own_slL {w : World} {base : Nat} {e : TypeId} {size n : Nat} {v : Value} {xs : List Value} (h : w.ownsRow base e size v n xs) : ∃ A c, v = .slice A n c ∧ n ≤ c ∧ c ≤ maxLen := by
  rcases h.2 with ⟨rfl, rfl⟩ | ⟨g, cap, cur, rfl, hb, hh, hc1, hc2, _⟩
  · exact ⟨none, 0, rfl, Nat.le_refl _, by unfold maxLen; omega⟩
  · exact ⟨_, cap, rfl, hc1, hc2⟩
theorem own_lowL {w : World} {base base' : Nat} {e : TypeId} {size n : Nat} {v : Value} {xs : List Value} (h : w.ownsRow base e size v n xs) (hb : base' ≤ base) : w.ownsRow base' e size v n xs := by
  refine ⟨h.1, ?_⟩
  rcases h.2 with h | ⟨g, cap, cur, rfl, h1, h2⟩
  · exact .inl h
  · exact .inr ⟨g, cap, cur, rfl, by omega, h2⟩
def ToldPost (T : List Int → List Int) (r : Option Nat) (R : Nat → World → Prop) (hd tl : List Int) (s : Nat) (w : World) (e : Ending) (w' : World) : Prop :=
  ∃ u, e = .returned u ∧ w'.ownsRow w.heap.size 3 1 u (toldF T hd tl).length ((toldF T hd tl).map (Value.int .i64)) ∧ (∀ z ∈ toldF T hd tl, (Lit.int .i64 z).wf = true) ∧ w.grownBy w' r ∧ R (s + 1) w'
set_option maxRecDepth 100000 in
set_option maxHeartbeats 2000000 in
theorem tellT_any {fid : FuncId} {caps : Array Value} {T : List Int → List Int} {n : Nat} {r : Option Nat} {R : Nat → World → Prop} {B0 : Nat} (HT : TellsOk fid caps T n r R B0) (hd tl : List Int) (bt : Nat) (hv tv : Value) (heads tails : List (List Int)) (hvv tvv : Value) (s : Nat) (w : World)
    (hM : TIn fid caps r n bt hv tv heads tails w) (hR : R s w) (hB : B0 ≤ w.heap.size) (hh : IntsIn .i64 (Fx r w) w hvv hd) (ht : IntsIn .i64 (Fx r w) w tvv tl) (hl : hd.length + tl.length ≤ 100) (hx : ∀ x ∈ hd ++ tl, 0 ≤ x ∧ x < (n : Int)) :
    Calls Tryd.prog 45 #[.pointer (some ⟨bt, 0, none⟩), hvv, tvv] w (ToldPost T r R hd tl s w) := by
  obtain ⟨ws, hws⟩ : ∃ ws, ws = hd ++ tl := ⟨_, rfl⟩
  have HWS := hid hws
  have WL : Hid (ws.length ≤ 100) := by show _ ≤ _; rw [hws, List.length_append]; exact hl
  rw [← hws] at hx
  have HTT := hid HT
  have HR := hid hR
  have HH := hid hh
  have HTL := hid ht
  have HX := hid hx
  have CF := hid HT.enter
  have LOW := hid HT.low
  have WF3 : Hid (∀ z ∈ ws, (Lit.int .i64 z).wf = true) := fun z hz => by
    rw [hws] at hz
    obtain ⟨_, _, _, _, wf1, _⟩ := hh
    obtain ⟨_, _, _, _, wf2, _⟩ := ht
    rcases List.mem_append.1 hz with h | h
    · exact wf1 z h
    · exact wf2 z h
  have SZ := hid (HT.size ws WL.out)
  have k1 := (Has.cell hM.box 1).trans rfl
  have BX := hid hM.box
  have BTR := hid hM.bt
  have lb := hM.lt
  obtain ⟨A1, c1, rfl, _, _, _⟩ := hh
  obtain ⟨A2, c2, rfl, _, _, _⟩ := ht
  have hcf := HT.enter
  clear HT hR hx hM hws
  go_enter Tryd.func45, Tryd.ntmps45
  go_upto_region 1 with fail
  go_region_held3 (fun w' => w'.cell? ⟨bt, 1, none⟩ = some (.func (Fn.func fid) #[] caps)) (first | exact k1 | exact k2.out | exact k3.out | exact k4.out | go_keep) (first
    | (go_simp; go_at_call 40; refine (concat_any [hd, tl] (fun b => b < w.heap.size + 1) _ _ (fun b hb => by simpa using hb) (by refine rows2L (b := w.heap.size) (by show w.heap.size < w.heap.size + 1; omega) ((Has.cell (Has.new w (.cells #[.slice A1 hd.length c1, .slice A2 tl.length c2] 29)) 0).trans rfl) ((Has.cell (Has.new w (.cells #[.slice A1 hd.length c1, .slice A2 tl.length c2] 29)) 1).trans rfl) ((HH.out.keep (fun b hb => Below.heap_alloc w _ b hb.1)).more fun b hb => by have := hb.1; omega) ((HTL.out.keep (fun b hb => Below.heap_alloc w _ b hb.1)).more fun b hb => by have := hb.1; omega)) (by simp; omega)).mono ?_; rintro e w5 ⟨v5, rfl, ho, hb⟩; have FL : [hd, tl].flatten = ws := (by rw [HWS.out]; simp); rw [FL] at ho; have B5 : Hid (Below w.heap.size w w5) := (by show Below _ _ _; exact ((Below.refl w.heap.size w).drew.alloc (by show w.heap.size ≤ w.heap.size; omega) _).trans (hb.mono (by show w.heap.size ≤ (w.alloc _).heap.size; simp))); have k2 : Hid (w5.cell? ⟨bt, 1, none⟩ = some (.func (Fn.func fid) #[] caps)) := (B5.out.cell (p := ⟨bt, 1, none⟩) lb).trans k1; have LO5 : Hid (∀ b, r = some b → b < w.heap.size) := (fun b h => by have := LOW.out b h; omega); have I5 : Hid (IntsIn .i64 (Fx r w5) w5 v5 ws) := ints_own ho (WF3.out) (fun b h => by have := LO5.out b h; show b < (w.alloc _).heap.size; simp; omega); have R5 : Hid (R s w5) := HTT.out.below HR.out hB B5.out; obtain ⟨A5, c5, rfl, _, _⟩ := own_slL ho; clear FL ho hb)
    | (go_simp; refine (HTT.out.call s _ _ ws R5.out (by have := B5.out.size; omega) I5.out WL.out HX.out).mono ?_; rintro e w6 ⟨v6, rfl, hi6, hg6, hr6⟩; have G6 : Hid (w.grownBy w6 r) := (gr_below B5.out r).trans hg6; have k3 : Hid (w6.cell? ⟨bt, 1, none⟩ = some (.func (Fn.func fid) #[] caps)) := (World.cell?_of_block (a := ⟨bt, 1, none⟩) (gr_block G6.out lb BTR.out)).trans k1; have I6 := hid hi6; have R6 := hid hr6; obtain ⟨A6, c6, rfl, h61, _, h63⟩ := hi6; have C6 := hid h61; have K6 := hid h63; clear hg6 hr6 h61 h63))
  obtain ⟨q, hq⟩ : ∃ q, q = T ws := ⟨_, rfl⟩
  rw [← hq] at I6 C6 K6 SZ ⊢
  obtain ⟨L, hL⟩ : ∃ L, q.length = L := ⟨_, rfl⟩
  obtain ⟨k, hk⟩ : ∃ k, k = min hd.length L := ⟨_, rfl⟩
  have e1 : min (hd.length : Int) (L : Int) = (k : Int) := by omega
  have DR : Hid (q.drop k = toldF T hd tl) := by
    show _ = _
    unfold toldF
    rw [← HWS.out, ← hq, hk]
    by_cases h : hd.length ≤ L
    · rw [Nat.min_eq_left h]
    · rw [Nat.min_eq_right (by omega), List.drop_of_length_le (by omega), List.drop_of_length_le (by omega)]
  have DL : Hid ((q.drop k).length = L - k) := by show _ = _; rw [List.length_drop, hL]
  have L100 : L ≤ 100 := by have := SZ.out; omega
  have kL : k ≤ L := by omega
  have k1' : (k : Int) ≤ (L : Int) := by omega
  have kc : (k : Int) ≤ (c6 : Int) := by have := C6.out; omega
  have Lc : (L : Int) ≤ (c6 : Int) := by have := C6.out; omega
  have CC : L ≤ c6 ∧ c6 ≤ maxLen := by have := C6.out; omega
  have I9 : IntsIn .i64 (Fx r w6) w6 (.slice A6 L c6) q := by have := I6.out; rw [hL] at this; exact this
  have fin : ∀ (v : Value), IntsIn .i64 (Fx r w6) w6 v (q.drop k) → Calls Tryd.prog 29 #[v] w6 fun e w' => ToldPost T r R hd tl s w e w' := fun v hv => by
    have wf9 : ∀ z ∈ q.drop k, (Lit.int .i64 z).wf = true := by obtain ⟨_, _, _, _, h, _⟩ := hv; exact h
    refine (clone_any (q.drop k) _ v w6 (fun b hb => hb.1) hv (by rw [DL.out]; omega)).mono ?_
    rintro e w7 ⟨v7, rfl, ho, _, hb⟩
    rw [DR.out] at ho wf9
    have s6 := G6.out.size
    exact ⟨v7, rfl, own_lowL ho s6, wf9, G6.out.trans (gr_below hb r), HTT.out.below R6.out (by omega) hb⟩
  have FIN := hid fin
  rw [hL]
  clear fin hq hk DR DL I6 C6 SZ
  by_cases hkc : k = c6
  · have t1 : ((c6 : Int) = (k : Int)) = True := eq_true (by omega)
    have t2 : ((k : Int) = (c6 : Int)) = True := eq_true (by omega)
    have t3 : (c6 = k) = True := eq_true hkc.symm
    have t4 : (k = c6) = True := eq_true hkc
    have D0 : Hid (q.drop k = []) := List.drop_eq_nil_of_le (by omega)
    have N0 : Hid (∀ A, IntsIn .i64 (Fx r w6) w6 (.slice A 0 0) (q.drop k)) := fun A => by rw [D0.out]; exact ints_noneL (Nat.zero_le _)
    have x1 : L = c6 := by omega
    subst hkc
    obtain rfl : L = k := x1
    clear I9
    go_wp2_with fail
    refine (FIN.out _ (N0.out _)).mono ?_
    rintro e w7 ⟨v7, rfl, ho, hwf, hg, hr⟩
    have P7 := hid (show ToldPost T r R hd tl s w (.returned v7) w7 from ⟨v7, rfl, ho, hwf, hg, hr⟩)
    obtain ⟨A7, c7, rfl, _, _⟩ := own_slL ho
    clear ho hwf hg hr
    go_wp2_with fail
    go_ret
    exact P7.out
  · by_cases h0 : L = 0
    · subst h0
      obtain rfl : k = 0 := by omega
      have hq0 : q = [] := List.eq_nil_of_length_eq_zero hL
      have N0 : Hid (∀ A c, c ≤ maxLen → IntsIn .i64 (Fx r w6) w6 (.slice A 0 c) (q.drop 0)) := fun A c hc => by rw [hq0]; exact ints_noneL hc
      have c0 : ¬ (0 : Int) = (c6 : Int) := by omega
      have CM := hid CC.2
      have e2 : min (hd.length : Int) 0 = 0 := by omega
      have c3 : (0 : Int) ≤ (c6 : Int) := by omega
      have c4 : ((c6 : Int) = 0) = False := eq_false (by omega)
      have c5' : (c6 = 0) = False := eq_false (by omega)
      have c7 : (0 = c6) = False := eq_false (by omega)
      clear I9 hq0 e1 kc Lc hkc c0 kL k1' L100
      cases A6 with
      | none =>
        go_wp2_with fail
        refine (FIN.out _ (N0.out _ _ CM.out)).mono ?_
        rintro e w7 ⟨v7, rfl, ho, hwf, hg, hr⟩
        have P7 := hid (show ToldPost T r R hd tl s w (.returned v7) w7 from ⟨v7, rfl, ho, hwf, hg, hr⟩)
        obtain ⟨A7, c7, rfl, _, _⟩ := own_slL ho
        clear ho hwf hg hr
        go_wp2_with fail
        go_ret
        exact P7.out
      | some a =>
        obtain ⟨ab, ao, asp⟩ := a
        go_wp2_with fail
        refine (FIN.out _ (N0.out _ _ CM.out)).mono ?_
        rintro e w7 ⟨v7, rfl, ho, hwf, hg, hr⟩
        have P7 := hid (show ToldPost T r R hd tl s w (.returned v7) w7 from ⟨v7, rfl, ho, hwf, hg, hr⟩)
        obtain ⟨A7, c7, rfl, _, _⟩ := own_slL ho
        clear ho hwf hg hr
        go_wp2_with fail
        go_ret
        exact P7.out
    · obtain ⟨b6, o6, rfl, _, _⟩ := K6.out (by omega)
      have ID := hid (ints_dropL I9 kL)
      have c0 : ¬ (k : Int) = (c6 : Int) := by omega
      have t1 : ((c6 : Int) = (k : Int)) = False := eq_false (by omega)
      have t3 : (c6 = k) = False := eq_false (by omega)
      have t4 : (k = c6) = False := eq_false (by omega)
      clear I9 hkc c0
      go_wp2_with fail
      refine (FIN.out _ (ID.out)).mono ?_
      rintro e w7 ⟨v7, rfl, ho, hwf, hg, hr⟩
      have P7 := hid (show ToldPost T r R hd tl s w (.returned v7) w7 from ⟨v7, rfl, ho, hwf, hg, hr⟩)
      obtain ⟨A7, c7, rfl, _, _⟩ := own_slL ho
      clear ho hwf hg hr
      go_wp2_with fail
      go_ret
      exact P7.out
end Go.Proofs.YtkcggmhllijgcaaDoor
