/- What table.machine of package learn returns: the table's machine. Conditions: the contract of the function value that is asked; heads and tails that may be asked. -/
import Derived.Test.YtkcggmhllijgcaaLqa
import Derived.Test.YtkcggmhllijgcaaHle
namespace Go.Proofs.Ytkcggmhllijgcaa
open Go.RowKit Go.Deep
def outRow (T : List Int → List Int) (h : List Int) (x : Nat) : List Int := (List.range x).map fun (y : Nat) => at0 (toldF T h [(y : Int)]) 0
def nextRow (T : List Int → List Int) (tails heads : List (List Int)) (h : List Int) (x : Nat) : List Int := (List.range x).map fun (y : Nat) => max 0 (stateL T tails heads (h ++ [(y : Int)]))
theorem outRow_succ (T : List Int → List Int) (h : List Int) (x : Nat) : outRow T h (x + 1) = outRow T h x ++ [at0 (toldF T h [(x : Int)]) 0] := by unfold outRow; rw [List.range_succ, List.map_append]; rfl
theorem nextRow_succ (T : List Int → List Int) (tails heads : List (List Int)) (h : List Int) (x : Nat) : nextRow T tails heads h (x + 1) = nextRow T tails heads h x ++ [max 0 (stateL T tails heads (h ++ [(x : Int)]))] := by unfold nextRow; rw [List.range_succ, List.map_append]; rfl
theorem outRow_len (T : List Int → List Int) (h : List Int) (x : Nat) : (outRow T h x).length = x := by simp [outRow]
theorem nextRow_len (T : List Int → List Int) (tails heads : List (List Int)) (h : List Int) (x : Nat) : (nextRow T tails heads h x).length = x := by simp [nextRow]
theorem machL_rows (T : List Int → List Int) (tails heads : List (List Int)) (n : Nat) : machL T tails heads n = ⟨heads.map fun h => outRow T h n, heads.map fun h => nextRow T tails heads h n⟩ := rfl
theorem map_take {f : List Int → List Int} {l : List (List Int)} {j : Nat} (h : j < l.length) : (l.take (j + 1)).map f = (l.take j).map f ++ [f (rowAt l j)] := by
  rw [List.take_succ_eq_append_getElem h, List.map_append]
  unfold rowAt
  rw [List.getD_eq_getElem?_getD, List.getElem?_eq_getElem h]; rfl
/-- the effect of the last stores -/
theorem fin_gr {B bo n1 n2 : Nat} {h1 h2 v1 v2 : Value} {x1 x2 : List Value} {W w0 w : World} {r : Option Nat} (t : TwoApp B h1 h2 w0 v1 v2 n1 n2 x1 x2 w) (hg : W.grownBy w0 r) (k1 : ∀ b, h1.ownBlock = some b → W.heap.size ≤ b) (k2 : ∀ b, h2.ownBlock = some b → W.heap.size ≤ b) (lo : W.heap.size ≤ bo) (a b : Value) : W.grownBy ((w.setCell ⟨bo, 0, none⟩ a).setCell ⟨bo, 1, none⟩ b) r :=
  ⟨t.os.trans hg.os, t.tape.trans hg.tape, t.output.trans hg.output, by have := hg.size; have := t.size; simp; omega, fun c hc hr => by
    have s := hg.size
    exact (Below.heap_setCell _ _ _ c (by show c ≠ bo; omega)).trans ((Below.heap_setCell w _ _ c (by show c ≠ bo; omega)).trans ((t.block c (by omega) (fun e => by have := k1 c e; omega) (fun e => by have := k2 c e; omega)).trans (hg.block c hc hr)))⟩
theorem fin_keep {B bo n1 n2 C : Nat} {h1 h2 v1 v2 : Value} {x1 x2 : List Value} {w0 w : World} (t : TwoApp B h1 h2 w0 v1 v2 n1 n2 x1 x2 w) (k1 : ∀ b, h1.ownBlock = some b → C ≤ b) (k2 : ∀ b, h2.ownBlock = some b → C ≤ b) (lo : C ≤ bo) (a b : Value) : ∀ c, c < C → c < w0.heap.size → ((w.setCell ⟨bo, 0, none⟩ a).setCell ⟨bo, 1, none⟩ b).heap[c]? = w0.heap[c]? := fun c hc h0 =>
  (Below.heap_setCell _ _ _ c (by show c ≠ bo; omega)).trans ((Below.heap_setCell w _ _ c (by show c ≠ bo; omega)).trans (t.block c h0 (fun e => by have := k1 c e; omega) (fun e => by have := k2 c e; omega)))
theorem pair_in {w : World} {x : Int} {h : List Int} {A : Option Addr} {L cp : Nat} (hL : h.length = L) (hi : IntsIn .i64 (fun b => b < w.heap.size) w (.slice A L cp) h) (hx : (Lit.int .i64 x).wf = true) :
    RowsIn (fun b => b < w.heap.size + 1 + 1) ((w.alloc (.cells #[.int .i64 x] 3)).alloc (.cells #[.slice A L cp, .slice (some ⟨w.heap.size, 0, none⟩) 1 1] 29)) (.slice (some ⟨w.heap.size + 1, 0, none⟩) 2 2) [h, [x]] := by
  have a1 := Has.newAt (g := w.heap.size + 1) (w.alloc (.cells #[.int .i64 x] 3)) (.cells #[.slice A L cp, .slice (some ⟨w.heap.size, 0, none⟩) 1 1] 29) (by simp)
  have a0 := Has.alloc (Has.new w (.cells #[.int .i64 x] 3)) (.cells #[.slice A L cp, .slice (some ⟨w.heap.size, 0, none⟩) 1 1] 29)
  have sm : Same (fun b => b < w.heap.size) w ((w.alloc (.cells #[.int .i64 x] 3)).alloc (.cells #[.slice A L cp, .slice (some ⟨w.heap.size, 0, none⟩) 1 1] 29)) := fun b hb => (Below.heap_alloc _ _ b (by simp; omega)).trans (Below.heap_alloc w _ b hb)
  refine rows2L (b := w.heap.size + 1) (by omega) ((Has.cell a1 0).trans rfl) ((Has.cell a1 1).trans rfl) ((hi.keep sm).more fun b hb => by omega) ?_
  refine ⟨_, 1, rfl, by simp [maxLen], fun z hz => by rw [List.mem_singleton.1 hz]; exact hx, fun _ => ⟨w.heap.size, 0, rfl, by omega, fun j hj => ?_⟩⟩
  obtain rfl : j = 0 := by simpa using hj
  exact (Has.cell a0 0).trans rfl
theorem at0_app (l : List Int) : at0 (l ++ [0]) 0 = at0 l 0 := by cases l <;> rfl
/-- the state some numbers on, at least so many -/
def RUq (R : Nat → World → Prop) (s lo c : Nat) (w : World) : Prop := ∃ s', s + lo ≤ s' ∧ s' ≤ s + c ∧ R s' w
def MachPost (T : List Int → List Int) (r : Option Nat) (R : Nat → World → Prop) (n : Nat) (heads tails : List (List Int)) (s : Nat) (w : World) (e : Ending) (w' : World) : Prop :=
  ∃ v, e = .returned v ∧ MachIn (fun b => w.heap.size ≤ b ∧ b < w'.heap.size) w' v (machL T tails heads n) ∧ w.grownBy w' r ∧ RUq R s (heads.length * n) (18 * (1 + 7 * tails.length)) w'
/-- numbers of one head, told so far -/
structure Half (T : List Int → List Int) (r : Option Nat) (R : Nat → World → Prop) (tails heads : List (List Int)) (h : List Int) (s lo c : Nat) (wC : World) (x : Nat) (ov nv : Value) (w : World) : Prop where
  o : w.ownsRow wC.heap.size 3 1 ov x ((outRow T h x).map (Value.int .i64))
  n : w.ownsRow wC.heap.size 3 1 nv x ((nextRow T tails heads h x).map (Value.int .i64))
  ow : ∀ z ∈ outRow T h x, (Lit.int .i64 z).wf = true
  nw : ∀ z ∈ nextRow T tails heads h x, (Lit.int .i64 z).wf = true
  m : ∀ b, ov.ownBlock = some b → nv.ownBlock ≠ some b
  g : wC.grownBy w r
  u : RUq R s lo c w
set_option maxRecDepth 100000 in
set_option maxHeartbeats 4000000 in
theorem machine_any {fid : FuncId} {caps : Array Value} {T : List Int → List Int} {n : Nat} {r : Option Nat} {R : Nat → World → Prop} {B0 : Nat} (HT : TellsOk fid caps T n r R B0) (bt : Nat) (hv tv : Value) (heads tails : List (List Int)) (s : Nat) (w : World)
    (hM : TIn fid caps r n bt hv tv heads tails w) (hR : R s w) (hB : B0 ≤ w.heap.size) (ht : TSz n tails) (hH : HeadsOk T tails n heads) (n3 : n ≤ 3) (h6 : heads.length ≤ 6) :
    Calls Try.prog 23 #[.pointer (some ⟨bt, 0, none⟩)] w (MachPost T r R n heads tails s w) := by
  have HTT := hid HT
  have HM := hid hM
  have HR := hid hR
  have HTS := hid ht
  have HH := hid hH
  have H6 := hid h6
  have LOW : Hid (∀ b, r = some b → b < w.heap.size) := fun b hb => by have := HT.low b hb; omega
  obtain ⟨i0, hi0, hy0, hy1, hy2⟩ := info_parts infoInt
  obtain ⟨i1, hi1, hx0, hx1, hx2⟩ := info_parts infoRowL
  obtain ⟨D, hD⟩ : ∃ D, D = 1 + 7 * tails.length := ⟨_, rfl⟩
  have HD := hid hD
  obtain ⟨Ah, ch, rfl, hcl, hch⟩ := hM.hs
  have HCH := hid hch
  unfold maxLen at hcl
  have LB9 := hM.lt
  clear HT hM hR ht hH hD hch
  go_enter Try.func23, Try.ntmps23
  obtain ⟨W1, hW1⟩ : ∃ W1, W1 = w.alloc (.cells #[.slice none 0 0, .slice none 0 0] 24) := ⟨_, rfl⟩
  obtain ⟨w2, hw2⟩ : ∃ w2, w2 = W1.alloc (.cells #[.slice none 0 0, .slice none 0 0] 24) := ⟨_, rfl⟩
  obtain ⟨br, hbr⟩ : ∃ br, br = w.heap.size := ⟨_, rfl⟩
  obtain ⟨bo, hbo⟩ : ∃ bo, bo = w.heap.size + 1 := ⟨_, rfl⟩
  have SW1 : Hid (W1.heap.size = bo ∧ B0 ≤ W1.heap.size ∧ w.heap.size + 1 = bo ∧ w.heap.size ≤ W1.heap.size) := by show _ ∧ _; rw [hW1]; simp; omega
  have GW1 : Hid (w.grownBy W1 r) := by show World.grownBy _ _ _; rw [hW1]; exact gr_below ((Below.refl _ _).alloc (Nat.le_refl _) _) r
  have GW2 : Hid (W1.grownBy w2 r) := by show World.grownBy _ _ _; rw [hw2]; exact gr_below ((Below.refl _ _).alloc (Nat.le_refl _) _) r
  have XR : Hid (W1.heap[br]? = some (.cells #[.slice none 0 0, .slice none 0 0] 24 (0, 0))) := by show _ = _; rw [hW1, hbr]; exact Has.new w _
  have XO : Hid (w2.heap[bo]? = some (.cells #[.slice none 0 0, .slice none 0 0] 24 (0, 0))) := by show _ = _; rw [hw2]; exact Has.newAt _ _ SW1.out.1.symm
  have LOBO : Hid (W1.heap.size ≤ bo) := Nat.le_of_eq SW1.out.1
  have HBR := hid hbr
  have MM0 : Hid (MM W1.heap.size bo (.slice none 0 0) (.slice none 0 0) [] [] ((heads.take 0).map fun h => outRow T h n) ((heads.take 0).map fun h => nextRow T tails heads h n) w2) :=
    ⟨XO.out, World.ownsRow_nil _ _ _ _, World.ownsRow_nil _ _ _ _, fun i hi => by simp at hi, fun i hi => by simp at hi, LOBO.out, by simp [Value.ownBlock], by simp [Value.ownBlock], fun b hb => by simp [Value.ownBlock] at hb⟩
  have T2 := hid (HM.out.gr (GW1.out.trans GW2.out))
  have ci := (Has.cell T2.out.box 2).trans rfl
  have RU0 : Hid (RUq R s (0 * n) (3 * 0 * D) w2) := ⟨s, by omega, by omega, HTT.out.keep _ _ _ HR.out fun b hb => by rw [hw2, Below.heap_alloc W1 _ b (by have := SW1.out; omega), hW1, Below.heap_alloc w _ b (by omega)]⟩
  go_upto_region 2 with fail
  rw [← hW1, ← hw2, ← hbo, ← hbr]
  clear hW1 hw2 hbr hbo
  go_wp2_with fail
  clear ci
  go_loopw [15] (fun ji wr => ∃ (j : Nat) (q1 q2 : Value) (e1 e2 : List Value), j ≤ heads.length ∧ ji = .int .i64 j ∧ Hid (MM W1.heap.size bo q1 q2 e1 e2 ((heads.take j).map fun h => outRow T h n) ((heads.take j).map fun h => nextRow T tails heads h n) wr) ∧ Hid (W1.grownBy wr r) ∧ Hid (RUq R s (j * n) (3 * j * D) wr)) (fun ji _ => heads.length - (intOf ji).toNat)
  case atStart => exact ⟨0, _, _, [], [], Nat.zero_le _, rfl, MM0, GW2, RU0⟩
  case round =>
    clear MM0 GW2 RU0 T2 XO
    obtain ⟨K, q1, q2, e1, e2, hK, rfl, hMM, hG, hRU⟩ := hrel
    by_cases hlt : K < heads.length
    · have i1' : (K : Int) < (heads.length : Int) := by omega
      obtain ⟨b, o, rfl, hFb, hcc⟩ := HCH.out (by omega)
      obtain ⟨hvv, hr1, hr2⟩ := hcc K hlt
      have GWr := hid (GW1.out.trans hG.out)
      have cr := (World.cell?_of_block (a := ⟨b, o + K, none⟩) (gr_block GWr.out hFb.1 hFb.2)).trans hr1
      have Tr := hid (HM.out.gr GWr.out)
      have IH := hid (ints_gr hr2 GWr.out)
      have cn := (Has.cell Tr.out.box 0).trans rfl
      obtain ⟨Ar, cpr, rfl, _, _, _⟩ := hr2
      have KK := hid hlt
      obtain ⟨hd, hhd⟩ : ∃ hd, hd = rowAt heads K := ⟨_, rfl⟩
      have HHD := hid hhd
      rw [← hhd] at cr IH
      have AN := hid (fun (x : Nat) (hx : x < n) => ask_next HTS.out HH.out H6.out KK.out hx)
      have AH := hid (fun (i : Nat) (hi : i < heads.length) => ask_head HTS.out HH.out H6.out hi)
      have HLN : Hid (hd.length ≤ 5 ∧ ∀ x ∈ hd, 0 ≤ x ∧ x < (n : Int)) := by show _ ∧ _; rw [hhd]; exact ⟨by have := HH.out.len K KK.out; omega, HH.out.ltr K KK.out⟩
      have WFH : Hid (∀ z ∈ hd, (Lit.int .i64 z).wf = true) := fun z hz => by
        obtain ⟨_, _, _, _, h, _⟩ := IH.out
        exact h z hz
      rw [← hhd] at AN
      obtain ⟨lh, hlh⟩ : ∃ lh, lh = hd.length := ⟨_, rfl⟩
      have HLH := hid hlh
      rw [← hlh] at cr IH
      have MT1 := hid (map_take (f := fun h => outRow T h n) KK.out)
      have MT2 := hid (map_take (f := fun h => nextRow T tails heads h n) KK.out)
      rw [← hhd] at MT1 MT2
      clear hcc hr1 hhd hlh
      obtain ⟨wC, hwC⟩ : ∃ wC, wC = wr := ⟨_, rfl⟩
      subst hwC
      go_wp2_with fail
      clear cr cn
      go_loopw [6, 7, 23] (fun ov nv xi wr => ∃ x : Nat, x ≤ n ∧ xi = .int .i64 x ∧ Hid (Half T r R tails heads hd s (K * n + x) ((3 * K + x) * D) wC x ov nv wr)) (fun _ _ xi _ => n - (intOf xi).toNat)
      case atStart => exact ⟨0, Nat.zero_le _, rfl, ⟨World.ownsRow_nil _ _ _ _, World.ownsRow_nil _ _ _ _, by simp [outRow], by simp [nextRow], fun b hb => by simp [Value.ownBlock] at hb, World.grownBy.refl _ _, by rw [Nat.add_zero]; exact hRU.out⟩⟩
      case round =>
        obtain ⟨x, hx, rfl, hF⟩ := hrel
        obtain ⟨O1, p5, rfl, _, _⟩ := own_slL hF.out.o
        obtain ⟨O2, p6, rfl, _, _⟩ := own_slL hF.out.n
        by_cases hxn : x < n
        · have i2' : (x : Int) < (n : Int) := by omega
          have XW : Hid ((Lit.int .i64 (x : Int)).wf = true) := WalkArith.wf_i64 (by omega)
          obtain ⟨wp, hwp⟩ : ∃ wp, wp = wr := ⟨_, rfl⟩
          subst hwp
          have GP := hid (GWr.out.trans hF.out.g)
          have sC := hF.out.g.size
          have sG := hG.out.size
          have sW := SW1.out
          have sP : w.heap.size ≤ wp.heap.size := by omega
          have LP : Hid (∀ b, r = some b → b < wC.heap.size) := fun b hb => by have := LOW.out b hb; omega
          obtain ⟨s1, S11, S12, S13⟩ := hF.out.u
          have S1 : Hid (s + (K * n + x) ≤ s1 ∧ s1 ≤ s + (3 * K + x) * D) := ⟨S11, S12⟩
          have BA : Hid (Below wp.heap.size wp (wp.alloc (.cells #[.int .i64 (x : Int)] 3))) := (Below.refl _ _).alloc (Nat.le_refl _) _
          have GA := hid (gr_below BA.out r)
          have RA : Hid (R s1 (wp.alloc (.cells #[.int .i64 (x : Int)] 3))) := HTT.out.below S13 (by omega) BA.out
          have TA := hid ((HM.out.gr GP.out).gr GA.out)
          have IA := hid (ints_gr (ints_gr IH.out hF.out.g) GA.out)
          have IX : Hid (IntsIn .i64 (Fx r (wp.alloc (.cells #[.int .i64 (x : Int)] 3))) (wp.alloc (.cells #[.int .i64 (x : Int)] 3)) (.slice (some ⟨wp.heap.size, 0, none⟩) 1 1) [(x : Int)]) :=
            ⟨_, 1, rfl, by simp [maxLen], fun z hz => by rw [List.mem_singleton.1 hz]; exact XW.out, fun _ => ⟨wp.heap.size, 0, rfl, ⟨by simp, fun e => by have := LP.out _ e.symm; omega⟩, fun j hj => by
              obtain rfl : j = 0 := by simpa using hj
              exact (Has.cell (Has.new wp _) 0).trans rfl⟩⟩
          clear S11 S12 S13
          go_wp2_with fail
          refine (tellT_any HTT.out hd [(x : Int)] bt (.slice (some ⟨b, o, none⟩) heads.length ch) tv heads tails (.slice Ar lh cpr) (.slice (some ⟨wp.heap.size, 0, none⟩) 1 1) s1 _ TA.out RA.out (by simp; omega) IA.out IX.out (by simp; have := HLN.out.1; omega) (fun y hy => by
            rcases List.mem_append.1 hy with h | h
            · exact HLN.out.2 y h
            · rw [List.mem_singleton.1 h]; omega)).mono ?_
          rintro e w5 ⟨u5, rfl, ho5, hw5, hg5, hr5⟩
          obtain ⟨l5, hl5⟩ : ∃ l5, l5 = toldF T hd [(x : Int)] := ⟨_, rfl⟩
          rw [← hl5] at ho5 hw5
          have HL5 := hid hl5
          obtain ⟨A5, c5, rfl, _, _⟩ := own_slL ho5
          have s5 : wp.heap.size + 1 ≤ w5.heap.size := by have := hg5.size; simpa using this
          have G5 := hid (GA.out.trans hg5)
          have R5 := hid hr5
          have I5 := hid ((ints_of_own ho5 hw5).more (F' := fun b => b < w5.heap.size) fun b hb => hb.2)
          obtain ⟨L5, hL5⟩ : ∃ L, l5.length = L := ⟨_, rfl⟩
          have L100 : Hid (L5 ≤ 100) := by
            show _ ≤ _
            rw [← hL5, hl5]
            unfold toldF
            rw [List.length_drop]
            have := HTT.out.size (hd ++ [(x : Int)]) (by simp; have := HLN.out.1; omega)
            omega
          have HLL := hid hL5
          have HW5 := hid hw5
          rw [hL5] at I5 ⊢
          have PI := hid (pair_in (x := 0) hL5 I5.out (by decide))
          clear ho5 hw5 hg5 hr5 hl5 hL5 TA IA IX RA
          go_wp2_with fail
          refine (concat_any [l5, [0]] (fun b => b < w5.heap.size + 1 + 1) _ _ (fun b hb => by simpa using hb) PI.out (by simp; have := HLL.out; have := L100.out; omega)).mono ?_
          rintro e w6 ⟨v6, rfl, ho6, hb6⟩
          have FL6 : [l5, [0]].flatten = l5 ++ [0] := by simp
          rw [FL6] at ho6
          have s6 : w5.heap.size + 1 + 1 ≤ w6.heap.size := by have := hb6.size; simpa using this
          have B6 : Hid (Below w5.heap.size w5 w6) := (((Below.refl _ _).alloc (Nat.le_refl _) _).alloc (by simp) _).trans (hb6.mono (by simp; omega))
          have G6 := hid (G5.out.trans (gr_below B6.out r))
          have R6 := hid (HTT.out.below R5.out (by omega) B6.out)
          obtain ⟨g6, cap6, rfl, _, _, _, _, hc6⟩ := own_open ho6 (by simp)
          obtain ⟨y0, hy0'⟩ : ∃ y0, y0 = at0 l5 0 := ⟨_, rfl⟩
          have HY0 := hid hy0'
          have c6 : w6.cell? ⟨g6, 0, none⟩ = some (.int .i64 y0) := by
            rw [hc6 0 (by simp), hy0', ← at0_app]
            cases l5 <;> rfl
          have YW : Hid ((Lit.int .i64 y0).wf = true) := by
            show _ = _
            rw [hy0']
            cases l5 with
            | nil => decide
            | cons z zs => exact HW5.out z (by simp)
          have ll6 : (l5 ++ [0]).length = L5 + 1 := by rw [List.length_append, HLL.out]; rfl
          rw [ll6]
          have OO6 := hid (own_gr hF.out.o G6.out LP.out)
          have OB6 := hid (OO6.out.alloc (.cells #[.int .i64 y0] 3))
          have C61 : Hid (CellsIn (fun b => b = w6.heap.size) (w6.alloc (.cells #[.int .i64 y0] 3)) 1 (.slice (some ⟨w6.heap.size, 0, none⟩) 1 1) 1 [.int .i64 y0]) := cells_one w6 _ _
          have OS := hid (outRow_succ T hd x)
          have l69 := hid (own_lt hF.out.n)
          clear ho6 hb6 FL6 hc6 hy0' ll6
          go_wp2_with (at_builtin; refine wpList_app _ rfl (.tmp 31) (.tmp 38) 29 rfl wC.heap.size 3 i0 (.int .i64 0) 1 8 Try.underlying29 hi0 hy0 hy1 hy2 rfl (by decide) (.slice O1 x p5) x _ rfl (by exact OB6.out) _ (.slice (some ⟨w6.heap.size, 0, none⟩) 1 1) 1 [.int .i64 y0] rfl (by exact C61.out) (by intro u hu; simp at hu; subst hu; rfl) (by unfold maxLen; omega) (by omega) (by show wC.heap.size ≤ (w6.alloc _).heap.size; simp; omega) ?_; intro v7 w7 hown7 hgrow7 hat7; have s7 : w6.heap.size + 1 ≤ w7.heap.size := (by have := hgrow7.size; simpa using this); have O7 : Hid (w7.ownsRow wC.heap.size 3 1 v7 (x + 1) ((outRow T hd (x + 1)).map (Value.int .i64))) := (by show World.ownsRow _ _ _ _ _ _ _; rw [OS.out, List.map_append, ← HL5.out, ← HY0.out]; exact hown7); have GC7 : Hid (wC.grownBy w7 r) := gr_own (hF.out.g.trans G6.out) hgrow7 (fun b hb => own_ge hF.out.o b hb); have R7 : Hid (R (s1 + 1) w7) := HTT.out.keep _ _ _ R6.out (fun b hb => (hgrow7.block b (by show b < (w6.alloc _).heap.size; simp; omega) (fun e => by have := own_ge hF.out.o b e.symm; omega)).trans (Below.heap_alloc w6 _ b (by omega))); have N7 : Hid (w7.ownsRow wC.heap.size 3 1 (.slice O2 x p6) x ((nextRow T tails heads hd x).map (Value.int .i64))) := (own_keep ((own_gr hF.out.n G6.out LP.out).alloc (.cells #[.int .i64 y0] 3)) fun k hk => hgrow7.block k (by have := l69.out k hk; show k < (w6.alloc _).heap.size; simp; omega) (fun e => hF.out.m k e.symm hk)); have M7 : Hid (∀ b, v7.ownBlock = some b → (Value.slice O2 x p6).ownBlock ≠ some b) := (fun b hb hc => by rcases hat7 with e | e; exact hF.out.m b (by rw [← e]; exact hb) hc; rw [e] at hb; injection hb with hb; have := l69.out b hc; simp at hb; omega); obtain ⟨O7v, p7, rfl, _, _⟩ := own_slL hown7; clear hown7 hgrow7 hat7)
          have PI7 := hid (pair_in (w := w7) (x := (x : Int)) (A := Ar) (cp := cpr) HLH.out.symm ((ints_gr IH.out GC7.out).more fun b hb => hb.1) XW.out)
          refine (concat_any [hd, [(x : Int)]] (fun b => b < w7.heap.size + 1 + 1) _ _ (fun b hb => by simpa using hb) PI7.out (by simp; have := HLN.out.1; omega)).mono ?_
          rintro e w8 ⟨v8, rfl, ho8, hb8⟩
          obtain ⟨ws, hws⟩ : ∃ ws, ws = hd ++ [(x : Int)] := ⟨_, rfl⟩
          have FL8 : [hd, [(x : Int)]].flatten = ws := by rw [hws]; simp
          rw [FL8] at ho8
          have HWS := hid hws
          have s8 : w7.heap.size + 1 + 1 ≤ w8.heap.size := by have := hb8.size; simpa using this
          have B8 : Hid (Below w7.heap.size w7 w8) := (((Below.refl _ _).alloc (Nat.le_refl _) _).alloc (by simp) _).trans (hb8.mono (by simp; omega))
          have G8 := hid (GC7.out.trans (gr_below B8.out r))
          have R8 := hid (HTT.out.below R7.out (by omega) B8.out)
          have AX := hid (AN.out x hxn)
          rw [← hws] at AX
          have WFS : Hid (∀ z ∈ ws, (Lit.int .i64 z).wf = true) := fun z hz => by
            have := AX.out.hltr z hz
            obtain ⟨q, rfl⟩ : ∃ q : Nat, z = q := ⟨z.toNat, by omega⟩
            exact WalkArith.wf_i64 (by omega)
          have I8 := hid (ints_own (r := r) ho8 WFS.out (fun b hb => by have := LOW.out b hb; simp; omega))
          have O8 := hid (own_gr O7.out (gr_below B8.out r) LP.out)
          have N8 := hid (own_gr N7.out (gr_below B8.out r) LP.out)
          obtain ⟨A8, c8, rfl, _, _⟩ := own_slL ho8
          clear ho8 hb8 FL8 hws c6
          go_wp2_with fail
          refine (state_any HTT.out ws bt (.slice (some ⟨b, o, none⟩) heads.length ch) tv heads tails (.slice A8 ws.length c8) (s1 + 1) w8 (HM.out.gr (GWr.out.trans G8.out)) R8.out (by omega) I8.out AX.out (fun i hi => AH.out i hi)).mono ?_
          rintro e w9 ⟨rfl, hg9, s3, h31, h32, h33⟩
          have s9 := hg9.size
          have G9 := hid (G8.out.trans hg9)
          have O9 := hid (own_gr O8.out hg9 LP.out)
          have N9 := hid (own_gr N8.out hg9 LP.out)
          have U9 : Hid (RUq R s (K * n + (x + 1)) ((3 * K + (x + 1)) * D) w9) := by
            refine ⟨s3, by have := S1.out; omega, ?_, h33⟩
            have h1 := S1.out.2
            have h2 : tails.length * (heads.length + 1) ≤ 7 * tails.length := by
              rw [Nat.mul_comm 7]
              exact Nat.mul_le_mul_left _ (by have := H6.out; omega)
            rw [← Nat.add_assoc, Nat.add_mul (3 * K + x) 1 D, Nat.one_mul]
            have := HD.out
            omega
          have STB : Hid (stateL T tails heads ws < 6) := by
            show _ < _
            unfold stateL
            rcases rIx_spec (fun g => decide (rowL T tails g = rowL T tails ws)) heads with ⟨e, _⟩ | ⟨i, e, hi, _⟩
            · rw [e]; omega
            · rw [e]; have := H6.out; omega
          obtain ⟨st, hst⟩ : ∃ st, st = stateL T tails heads ws := ⟨_, rfl⟩
          rw [← hst] at STB ⊢
          obtain ⟨mx, hmx⟩ : ∃ mx, mx = max 0 st := ⟨_, rfl⟩
          have HMX : Hid (mx = max 0 (stateL T tails heads (hd ++ [(x : Int)]))) := by show _ = _; rw [hmx, hst, HWS.out]
          have MW : Hid ((Lit.int .i64 mx).wf = true) := by
            have := STB.out
            obtain ⟨q, hq⟩ : ∃ q : Nat, mx = q := ⟨mx.toNat, by omega⟩
            show _ = _
            rw [hq]; exact WalkArith.wf_i64 (by omega)
          have e1m : max 0 st = mx := hmx.symm
          have NS := hid (nextRow_succ T tails heads hd x)
          have OB9 := hid (N9.out.alloc (.cells #[.int .i64 mx] 3))
          have C91 : Hid (CellsIn (fun b => b = w9.heap.size) (w9.alloc (.cells #[.int .i64 mx] 3)) 1 (.slice (some ⟨w9.heap.size, 0, none⟩) 1 1) 1 [.int .i64 mx]) := cells_one w9 _ _
          have l99 := hid (own_lt O9.out)
          clear hg9 h31 h32 h33 hst hmx
          go_wp2_with (at_builtin; refine wpList_app _ rfl (.tmp 40) (.tmp 49) 29 rfl wC.heap.size 3 i0 (.int .i64 0) 1 8 Try.underlying29 hi0 hy0 hy1 hy2 rfl (by decide) (.slice O2 x p6) x _ rfl (by exact OB9.out) _ (.slice (some ⟨w9.heap.size, 0, none⟩) 1 1) 1 [.int .i64 mx] rfl (by exact C91.out) (by intro u hu; simp at hu; subst hu; rfl) (by unfold maxLen; omega) (by omega) (by show wC.heap.size ≤ (w9.alloc _).heap.size; simp; omega) ?_; intro v10 w10 hown hgrow hat; have NA : Hid (w10.ownsRow wC.heap.size 3 1 v10 (x + 1) ((nextRow T tails heads hd (x + 1)).map (Value.int .i64))) := (by show World.ownsRow _ _ _ _ _ _ _; rw [NS.out, List.map_append, ← HMX.out]; exact hown); have GA10 : Hid (wC.grownBy w10 r) := gr_own G9.out hgrow (fun b hb => own_ge N9.out b hb); have UA : Hid (RUq R s (K * n + (x + 1)) ((3 * K + (x + 1)) * D) w10) := (by obtain ⟨s', k1, k2, k3⟩ := U9.out; exact ⟨s', k1, k2, HTT.out.keep _ _ _ k3 (fun b hb => (hgrow.block b (by show b < (w9.alloc _).heap.size; simp; omega) (fun e => by have := own_ge N9.out b e.symm; omega)).trans (Below.heap_alloc w9 _ b (by omega)))⟩); have OA : Hid (w10.ownsRow wC.heap.size 3 1 (.slice O7v (x + 1) p7) (x + 1) ((outRow T hd (x + 1)).map (Value.int .i64))) := (own_keep (O9.out.alloc (.cells #[.int .i64 mx] 3)) fun k hk => hgrow.block k (by have := l99.out k hk; show k < (w9.alloc _).heap.size; simp; omega) (fun e => M7.out k hk e.symm)); have MA : Hid (∀ b, (Value.slice O7v (x + 1) p7).ownBlock = some b → v10.ownBlock ≠ some b) := (fun b hb hc => by rcases hat with e | e; exact M7.out b hb (by rw [← e]; exact hc); rw [e] at hc; injection hc with hc; have := l99.out b hb; simp at hc; omega); obtain ⟨N10, p10, rfl, _, _⟩ := own_slL hown; clear hown hgrow hat)
          have HNEW : Hid (Half T r R tails heads hd s (K * n + (x + 1)) ((3 * K + (x + 1)) * D) wC (x + 1) (.slice O7v (x + 1) p7) (.slice N10 (x + 1) p10) w10) := ⟨OA.out, NA.out, fun z hz => by
            rw [outRow_succ] at hz
            rcases List.mem_append.1 hz with h | h
            · exact hF.out.ow z h
            · rw [List.mem_singleton.1 h, ← HL5.out, ← HY0.out]; exact YW.out, fun z hz => by
            rw [nextRow_succ] at hz
            rcases List.mem_append.1 hz with h | h
            · exact hF.out.nw z h
            · rw [List.mem_singleton.1 h, ← HMX.out]; exact MW.out, MA.out, GA10.out, UA.out⟩
          go_roundw
          case rel => exact ⟨x + 1, by omega, by go_num, HNEW⟩
          case measure => simp [intOf]; omega
        · obtain rfl : n = x := by omega
          have GZ := hid (hG.out.trans (hF.out.g.trans (gr_drew wr r)))
          have MMZ := hid (hMM.out.gr (hF.out.g.trans (gr_drew wr r)) (fun b hb => by have := LOW.out b hb; have := SW1.out; omega))
          have OZ := hid (own_gr hF.out.o (gr_drew wr r) (fun b hb => by have := LOW.out b hb; have := hG.out.size; have := SW1.out; omega))
          have NZ := hid (own_gr hF.out.n (gr_drew wr r) (fun b hb => by have := LOW.out b hb; have := hG.out.size; have := SW1.out; omega))
          have RU9 : Hid (RUq R s ((K + 1) * n) (3 * (K + 1) * D) wr.drew) := by
            obtain ⟨s', k1, k2, k3⟩ := hF.out.u
            exact ⟨s', by rw [Nat.succ_mul]; exact k1, Nat.le_trans k2 (Nat.add_le_add_left (Nat.mul_le_mul_right D (by omega)) s), HTT.out.keep _ _ _ k3 fun _ _ => rfl⟩
          have KL1 : Hid (((heads.take K).map fun h => outRow T h n).length = K) := by show _ = _; rw [List.length_map, List.length_take]; omega
          have KL2 : Hid (((heads.take K).map fun h => nextRow T tails heads h n).length = K) := by show _ = _; rw [List.length_map, List.length_take]; omega
          have o1k := hMM.out.o1
          have o2k := hMM.out.o2
          rw [KL1.out] at o1k
          rw [KL2.out] at o2k
          obtain ⟨Q1, p1, rfl, _, _⟩ := own_slL o1k
          obtain ⟨Q2, p2, rfl, _, _⟩ := own_slL o2k
          have O1K := hid o1k
          have O2K := hid o2k
          have LB9' := Has.lt MMZ.out.box
          have NB1 := hid MMZ.out.b1
          have NB2 := hid MMZ.out.b2
          have sC := hF.out.g.size
          have IU1 : Hid (IntsIn .i64 (LF W1.heap.size bo (.slice Q1 K p1) (.slice Q2 K p2) wr.drew) wr.drew (.slice O1 n p5) (outRow T hd n)) :=
            (ints_of_own OZ.out hF.out.ow).more fun b hb => by
              have l1 := Has.lt hMM.out.box
              have := hG.out.size
              refine ⟨by omega, hb.2, by omega, fun e => ?_, fun e => ?_⟩
              · have := own_lt o1k b e; omega
              · have := own_lt o2k b e; omega
          have IU2 : Hid (IntsIn .i64 (LF W1.heap.size bo (.slice Q1 K p1) (.slice Q2 K p2) wr.drew) wr.drew (.slice O2 n p6) (nextRow T tails heads hd n)) :=
            (ints_of_own NZ.out hF.out.nw).more fun b hb => by
              have l1 := Has.lt hMM.out.box
              have := hG.out.size
              refine ⟨by omega, hb.2, by omega, fun e => ?_, fun e => ?_⟩
              · have := own_lt o1k b e; omega
              · have := own_lt o2k b e; omega
          clear o1k o2k sC
          have cb0 := (Has.cell MMZ.out.box 0).trans rfl
          have cb1 := (Has.cell MMZ.out.box 1).trans rfl
          have fb0 := Has.froz MMZ.out.box 0
          have fb1 := Has.froz MMZ.out.box 1
          go_upto_region 13 with fail
          refine wp_region_l (S := (fun w' => w'.cell? ⟨bo, 0, none⟩ = some (.slice Q1 K p1) ∧ w'.cell? ⟨bo, 1, none⟩ = some (.slice Q2 K p2))) (Ls := [11, 12, 13]) (by kernel_rfl) ⟨cb0, cb1⟩ (fun hHeld => ?_)
          obtain ⟨wz, hwz⟩ : ∃ wz, wz = wr.drew := ⟨_, rfl⟩
          rw [← hwz] at GZ MMZ RU9 IU1 IU2 cb0 cb1 fb0 fb1 hHeld LB9' ⊢
          have MMO := hid MMZ.out
          have GC := hid GZ.out
          have LB : bo < wz.heap.size := LB9'
          have TA : Hid (TwoApp W1.heap.size (.slice Q1 K p1) (.slice Q2 K p2) wz (.slice Q1 K p1) (.slice Q2 K p2) K K e1 e2 wz) := by
            have := MMO.out.start
            rw [KL1.out, KL2.out] at this; exact this
          have kb : K ≤ 6 := by have := H6.out; omega
          have GCS := GC.out.size
          clear hwz MMZ GZ LB9' OZ NZ
          refine takeL [11, 12, 13] (i := 0) (d := 52) (oi := _) (v := ?_) rfl rfl (by kernel_rfl) (by kernel_rfl) (by kernel_rfl) (by kernel_rfl) (by kernel_rfl) (fun _ _ _ h => h) (Or.inl ⟨by rfl, ?_⟩) (by assumption) ?_
          rotate_left
          · intro wz hSw; (try dsimp only at hSw); go_simp; (try with_reducible rfl)
          try simp only [Act.put, List.setIfInBounds_toArray, List.set_cons_zero, List.set_cons_succ]
          refine takeL [11, 12, 13] (i := 1) (d := 53) (oi := _) (v := ?_) rfl rfl (by kernel_rfl) (by kernel_rfl) (by kernel_rfl) (by kernel_rfl) (by kernel_rfl) (fun _ _ _ h => h) (Or.inl ⟨by rfl, ?_⟩) (by assumption) ?_
          rotate_left
          · intro wz hSw; (try dsimp only at hSw); go_simp; (try with_reducible rfl)
          try simp only [Act.put, List.setIfInBounds_toArray, List.set_cons_zero, List.set_cons_succ]
          refine takeL [11, 12, 13] (i := 2) (d := 54) (oi := _) (v := ?_) rfl rfl (by kernel_rfl) (by kernel_rfl) (by kernel_rfl) (by kernel_rfl) (by kernel_rfl) (fun _ _ _ h => h) (Or.inl ⟨by rfl, ?_⟩) (by assumption) ?_
          rotate_left
          · intro wz hSw; (try dsimp only at hSw); go_simp; (try with_reducible rfl)
          try simp only [Act.put, List.setIfInBounds_toArray, List.set_cons_zero, List.set_cons_succ]
          refine takeL [11, 12, 13] (i := 5) (d := 57) (oi := _) (v := ?_) rfl rfl (by kernel_rfl) (by kernel_rfl) (by kernel_rfl) (by kernel_rfl) (by kernel_rfl) (fun _ _ _ h => h) (Or.inl ⟨by rfl, ?_⟩) (by assumption) ?_
          rotate_left
          · intro wz hSw; (try dsimp only at hSw); go_simp; (try with_reducible rfl)
          try simp only [Act.put, List.setIfInBounds_toArray, List.set_cons_zero, List.set_cons_succ]
          refine takeL [11, 12, 13] (i := 6) (d := 58) (oi := _) (v := ?_) rfl rfl (by kernel_rfl) (by kernel_rfl) (by kernel_rfl) (by kernel_rfl) (by kernel_rfl) (fun _ _ _ h => h) (Or.inl ⟨by rfl, ?_⟩) (by assumption) ?_
          rotate_left
          · intro wz hSw; (try dsimp only at hSw); go_simp; (try with_reducible rfl)
          try simp only [Act.put, List.setIfInBounds_toArray, List.set_cons_zero, List.set_cons_succ]
          refine takeL [8, 9, 11, 12, 13] (i := 7) (d := 59) (oi := _) (v := ?_) rfl rfl (by kernel_rfl) (by kernel_rfl) (by kernel_rfl) (by kernel_rfl) (by kernel_rfl) (fun _ _ _ h => h) (Or.inl ⟨by rfl, ?_⟩) (by assumption) ?_
          rotate_left
          · intro wz hSw; (try dsimp only at hSw); go_simp; (try with_reducible rfl)
          try simp only [Act.put, List.setIfInBounds_toArray, List.set_cons_zero, List.set_cons_succ]
          refine branchL (i := 3) (j := 8) (o := _) (p := _) (by kernel_rfl) rfl rfl (fun K' hK => ?_) (fun K' hK => ?_)
          · go_simp
            have LI1 := hid (LitAt.new (g := wz.heap.size) TA.out (.slice O1 n p5) rfl)
            have TA := hid (TA.out.alloc (.cells #[(.slice O1 n p5)] 29))
            obtain ⟨g1, hg1⟩ : ∃ g, g = wz.heap.size := ⟨_, rfl⟩
            obtain ⟨y0, hy0⟩ : ∃ y, y = (wz.alloc (.cells #[(.slice O1 n p5)] 29)) := ⟨_, rfl⟩
            rw [← hg1, ← hy0] at LI1
            rw [← hy0] at TA
            have hHeld : (fun w' => w'.cell? ⟨bo, 0, none⟩ = some (.slice Q1 K p1) ∧ w'.cell? ⟨bo, 1, none⟩ = some (.slice Q2 K p2)) y0 := ⟨(World.cell?_of_block (a := ⟨bo, 0, none⟩) (TA.out.block bo LB NB1.out NB2.out)).trans cb0, (World.cell?_of_block (a := ⟨bo, 1, none⟩) (TA.out.block bo LB NB1.out NB2.out)).trans cb1⟩
            (try rw [← hg1])
            (try rw [← hy0])
            refine hK.out _ _ (Or.inl hHeld) ?_
            clear hK K' hg1 hy0
            try simp only [Act.put, List.setIfInBounds_toArray, List.set_cons_zero, List.set_cons_succ]
            refine branchL (i := 4) (j := 8) (o := _) (p := _) (by kernel_rfl) rfl rfl (fun K' hK => ?_) (fun K' hK => ?_)
            · refine step_app _ (by rfl) (.tmp 53) (.tmp 55) 22 (by rfl) W1.heap.size 29 i1 (.slice none 0 0) 1 24 Try.underlying22 hi1 hx0 hx1 hx2 rfl (by decide) (.slice Q1 K p1) K e1 (by simp [Act.eval, Act.put]) (by exact TA.out.o1) _ (.slice (some ⟨g1, 0, none⟩) 1 1) 1 [(.slice O1 n p5)] (by simp [Act.eval, Act.put]) (by exact LI1.out.cells) (by intro u hu; simp at hu; subst hu; rfl) (by unfold maxLen; omega) (by omega) (by have := TA.out.size; omega) ?_
              intro v1 y1 hown hgrow hat
              have TA := hid (TA.out.app1 rfl hown hgrow hat)
              obtain ⟨Z1, z1, rfl, _, _⟩ := own_slL hown
              clear hown hgrow hat
              have hHeld : (fun w' => w'.cell? ⟨bo, 0, none⟩ = some (.slice Q1 K p1) ∧ w'.cell? ⟨bo, 1, none⟩ = some (.slice Q2 K p2)) y1 := ⟨(World.cell?_of_block (a := ⟨bo, 0, none⟩) (TA.out.block bo LB NB1.out NB2.out)).trans cb0, (World.cell?_of_block (a := ⟨bo, 1, none⟩) (TA.out.block bo LB NB1.out NB2.out)).trans cb1⟩
              refine hK.out _ _ (Or.inl hHeld) ?_
              clear hK K'
              try simp only [Act.put, List.setIfInBounds_toArray, List.set_cons_zero, List.set_cons_succ]
              refine takeL [11, 12, 13] (i := 10) (d := 62) (oi := _) (v := ?_) rfl rfl (by kernel_rfl) (by kernel_rfl) (by kernel_rfl) (by kernel_rfl) (by kernel_rfl) (fun _ _ _ h => h) (Or.inl ⟨by rfl, ?_⟩) (by assumption) ?_
              rotate_left
              · intro wz hSw; (try dsimp only at hSw); go_simp; (try with_reducible rfl)
              try simp only [Act.put, List.setIfInBounds_toArray, List.set_cons_zero, List.set_cons_succ]
              refine nxtL (i := 8) (o := _) (by kernel_rfl) rfl (fun K' hK => ?_)
              go_simp
              have LI2 := hid (LitAt.new (g := y1.heap.size) TA.out (.slice O2 n p6) rfl)
              have TA := hid (TA.out.alloc (.cells #[(.slice O2 n p6)] 29))
              obtain ⟨g2, hg2⟩ : ∃ g, g = y1.heap.size := ⟨_, rfl⟩
              obtain ⟨y2, hy2⟩ : ∃ y, y = (y1.alloc (.cells #[(.slice O2 n p6)] 29)) := ⟨_, rfl⟩
              rw [← hg2, ← hy2] at LI2
              rw [← hy2] at TA
              have hHeld : (fun w' => w'.cell? ⟨bo, 0, none⟩ = some (.slice Q1 K p1) ∧ w'.cell? ⟨bo, 1, none⟩ = some (.slice Q2 K p2)) y2 := ⟨(World.cell?_of_block (a := ⟨bo, 0, none⟩) (TA.out.block bo LB NB1.out NB2.out)).trans cb0, (World.cell?_of_block (a := ⟨bo, 1, none⟩) (TA.out.block bo LB NB1.out NB2.out)).trans cb1⟩
              (try rw [← hg2])
              (try rw [← hy2])
              refine hK.out _ _ (Or.inl hHeld) ?_
              clear hK K' hg2 hy2
              try simp only [Act.put, List.setIfInBounds_toArray, List.set_cons_zero, List.set_cons_succ]
              refine nxtL (i := 9) (o := _) (by kernel_rfl) rfl (fun K' hK => ?_)
              refine step_app _ (by rfl) (.tmp 58) (.tmp 60) 22 (by rfl) W1.heap.size 29 i1 (.slice none 0 0) 1 24 Try.underlying22 hi1 hx0 hx1 hx2 rfl (by decide) (.slice Q2 K p2) K e2 (by simp [Act.eval, Act.put]) (by exact TA.out.o2) _ (.slice (some ⟨g2, 0, none⟩) 1 1) 1 [(.slice O2 n p6)] (by simp [Act.eval, Act.put]) (by exact LI2.out.cells) (by intro u hu; simp at hu; subst hu; rfl) (by unfold maxLen; omega) (by omega) (by have := TA.out.size; omega) ?_
              intro v3 y3 hown hgrow hat
              have TA := hid (TA.out.app2 rfl hown hgrow hat)
              obtain ⟨Z2, z2, rfl, _, _⟩ := own_slL hown
              clear hown hgrow hat
              have hHeld : (fun w' => w'.cell? ⟨bo, 0, none⟩ = some (.slice Q1 K p1) ∧ w'.cell? ⟨bo, 1, none⟩ = some (.slice Q2 K p2)) y3 := ⟨(World.cell?_of_block (a := ⟨bo, 0, none⟩) (TA.out.block bo LB NB1.out NB2.out)).trans cb0, (World.cell?_of_block (a := ⟨bo, 1, none⟩) (TA.out.block bo LB NB1.out NB2.out)).trans cb1⟩
              refine hK.out _ _ (Or.inl hHeld) ?_
              clear hK K'
              try simp only [Act.put, List.setIfInBounds_toArray, List.set_cons_zero, List.set_cons_succ]
              have cz0 : y3.cell? ⟨bo, 0, none⟩ = some (.slice Q1 K p1) := hHeld.1
              have cz1 : y3.cell? ⟨bo, 1, none⟩ = some (.slice Q2 K p2) := hHeld.2
              have fz0 : y3.frozen? ⟨bo, 0, none⟩ = false := (World.frozen?_of_block (a := ⟨bo, 0, none⟩) (TA.out.block bo LB NB1.out NB2.out)).trans fb0
              have fz1 : y3.frozen? ⟨bo, 1, none⟩ = false := (World.frozen?_of_block (a := ⟨bo, 1, none⟩) (TA.out.block bo LB NB1.out NB2.out)).trans fb1
              have FIN : Hid (MM W1.heap.size bo (.slice Z1 (K + 1) z1) (.slice Z2 (K + 1) z2) (e1 ++ [.slice O1 n p5]) (e2 ++ [.slice O2 n p6]) ((heads.take (K + 1)).map fun h => outRow T h n) ((heads.take (K + 1)).map fun h => nextRow T tails heads h n) ((y3.setCell ⟨bo, 0, none⟩ (.slice Z1 (K + 1) z1)).setCell ⟨bo, 1, none⟩ (.slice Z2 (K + 1) z2))) := by
                show MM _ _ _ _ _ _ _ _ _
                rw [MT1.out, MT2.out]
                exact MMO.out.done (by rw [KL1.out, KL2.out]; exact TA.out) IU1.out IU2.out
              have GF := hid (fin_gr TA.out GC.out (own_ge O1K.out) (own_ge O2K.out) LOBO.out (.slice Z1 (K + 1) z1) (.slice Z2 (K + 1) z2))
              have RF : Hid (RUq R s ((K + 1) * n) (3 * (K + 1) * D) ((y3.setCell ⟨bo, 0, none⟩ (.slice Z1 (K + 1) z1)).setCell ⟨bo, 1, none⟩ (.slice Z2 (K + 1) z2))) := by
                obtain ⟨s', k1, k2, k3⟩ := RU9.out
                exact ⟨s', k1, k2, HTT.out.keep _ _ _ k3 fun b hb => fin_keep TA.out (own_ge O1K.out) (own_ge O2K.out) LOBO.out _ _ b (by have := SW1.out; omega) (by have := SW1.out; have := GC.out.size; omega)⟩
              clear LI1 LI2 TA
              refine nxtL (i := 11) (o := _) (by kernel_rfl) rfl (fun K' hK => ?_)
              go_simp
              refine hK.out _ _ (Or.inr (by simp)) ?_
              clear hK K' hHeld
              try simp only [Act.put, List.setIfInBounds_toArray, List.set_cons_zero, List.set_cons_succ]
              refine nxtL (i := 12) (o := _) (by kernel_rfl) rfl (fun K' hK => ?_)
              go_simp
              refine hK.out _ _ (Or.inr (by simp)) ?_
              clear hK K'
              try simp only [Act.put, List.setIfInBounds_toArray, List.set_cons_zero, List.set_cons_succ]
              refine nxtL (i := 13) (o := _) (by kernel_rfl) rfl (fun K' hK => ?_)
              go_simp
              refine hK.out _ _ (Or.inr (by simp)) ?_
              clear hK K'
              try simp only [Act.put, List.setIfInBounds_toArray, List.set_cons_zero, List.set_cons_succ]
              refine doneL (by kernel_rfl) ?_ _
              clear cz0 cz1 fz0 fz1
              go_wp2_with fail
              go_roundw
              case rel => exact ⟨K + 1, _, _, _, _, by omega, by go_num, FIN, GF, RF⟩
              case measure => simp [intOf]; omega
            · go_simp
              have LI2 := hid (LitAt.new (g := y0.heap.size) TA.out (.slice O2 n p6) rfl)
              have LI1 := hid (LI1.out.alloc (.cells #[(.slice O2 n p6)] 29))
              have TA := hid (TA.out.alloc (.cells #[(.slice O2 n p6)] 29))
              obtain ⟨g2, hg2⟩ : ∃ g, g = y0.heap.size := ⟨_, rfl⟩
              obtain ⟨y1, hy1⟩ : ∃ y, y = (y0.alloc (.cells #[(.slice O2 n p6)] 29)) := ⟨_, rfl⟩
              rw [← hg2, ← hy1] at LI2
              rw [← hy1] at LI1
              rw [← hy1] at TA
              have hHeld : (fun w' => w'.cell? ⟨bo, 0, none⟩ = some (.slice Q1 K p1) ∧ w'.cell? ⟨bo, 1, none⟩ = some (.slice Q2 K p2)) y1 := ⟨(World.cell?_of_block (a := ⟨bo, 0, none⟩) (TA.out.block bo LB NB1.out NB2.out)).trans cb0, (World.cell?_of_block (a := ⟨bo, 1, none⟩) (TA.out.block bo LB NB1.out NB2.out)).trans cb1⟩
              (try rw [← hg2])
              (try rw [← hy1])
              refine hK.out _ _ (Or.inl hHeld) ?_
              clear hK K' hg2 hy1
              try simp only [Act.put, List.setIfInBounds_toArray, List.set_cons_zero, List.set_cons_succ]
              refine nxtL (i := 4) (o := _) (by kernel_rfl) rfl (fun K' hK => ?_)
              refine step_app _ (by rfl) (.tmp 53) (.tmp 55) 22 (by rfl) W1.heap.size 29 i1 (.slice none 0 0) 1 24 Try.underlying22 hi1 hx0 hx1 hx2 rfl (by decide) (.slice Q1 K p1) K e1 (by simp [Act.eval, Act.put]) (by exact TA.out.o1) _ (.slice (some ⟨g1, 0, none⟩) 1 1) 1 [(.slice O1 n p5)] (by simp [Act.eval, Act.put]) (by exact LI1.out.cells) (by intro u hu; simp at hu; subst hu; rfl) (by unfold maxLen; omega) (by omega) (by have := TA.out.size; omega) ?_
              intro v2 y2 hown hgrow hat
              have LI2 := hid (LitAt.app1 TA.out LI2.out hgrow hat)
              have TA := hid (TA.out.app1 rfl hown hgrow hat)
              obtain ⟨Z1, z1, rfl, _, _⟩ := own_slL hown
              clear hown hgrow hat
              have hHeld : (fun w' => w'.cell? ⟨bo, 0, none⟩ = some (.slice Q1 K p1) ∧ w'.cell? ⟨bo, 1, none⟩ = some (.slice Q2 K p2)) y2 := ⟨(World.cell?_of_block (a := ⟨bo, 0, none⟩) (TA.out.block bo LB NB1.out NB2.out)).trans cb0, (World.cell?_of_block (a := ⟨bo, 1, none⟩) (TA.out.block bo LB NB1.out NB2.out)).trans cb1⟩
              refine hK.out _ _ (Or.inl hHeld) ?_
              clear hK K'
              try simp only [Act.put, List.setIfInBounds_toArray, List.set_cons_zero, List.set_cons_succ]
              refine takeL [11, 12, 13] (i := 10) (d := 62) (oi := _) (v := ?_) rfl rfl (by kernel_rfl) (by kernel_rfl) (by kernel_rfl) (by kernel_rfl) (by kernel_rfl) (fun _ _ _ h => h) (Or.inl ⟨by rfl, ?_⟩) (by assumption) ?_
              rotate_left
              · intro wz hSw; (try dsimp only at hSw); go_simp; (try with_reducible rfl)
              try simp only [Act.put, List.setIfInBounds_toArray, List.set_cons_zero, List.set_cons_succ]
              refine nxtL (i := 9) (o := _) (by kernel_rfl) rfl (fun K' hK => ?_)
              refine step_app _ (by rfl) (.tmp 58) (.tmp 60) 22 (by rfl) W1.heap.size 29 i1 (.slice none 0 0) 1 24 Try.underlying22 hi1 hx0 hx1 hx2 rfl (by decide) (.slice Q2 K p2) K e2 (by simp [Act.eval, Act.put]) (by exact TA.out.o2) _ (.slice (some ⟨g2, 0, none⟩) 1 1) 1 [(.slice O2 n p6)] (by simp [Act.eval, Act.put]) (by exact LI2.out.cells) (by intro u hu; simp at hu; subst hu; rfl) (by unfold maxLen; omega) (by omega) (by have := TA.out.size; omega) ?_
              intro v3 y3 hown hgrow hat
              have TA := hid (TA.out.app2 rfl hown hgrow hat)
              obtain ⟨Z2, z2, rfl, _, _⟩ := own_slL hown
              clear hown hgrow hat
              have hHeld : (fun w' => w'.cell? ⟨bo, 0, none⟩ = some (.slice Q1 K p1) ∧ w'.cell? ⟨bo, 1, none⟩ = some (.slice Q2 K p2)) y3 := ⟨(World.cell?_of_block (a := ⟨bo, 0, none⟩) (TA.out.block bo LB NB1.out NB2.out)).trans cb0, (World.cell?_of_block (a := ⟨bo, 1, none⟩) (TA.out.block bo LB NB1.out NB2.out)).trans cb1⟩
              refine hK.out _ _ (Or.inl hHeld) ?_
              clear hK K'
              try simp only [Act.put, List.setIfInBounds_toArray, List.set_cons_zero, List.set_cons_succ]
              have cz0 : y3.cell? ⟨bo, 0, none⟩ = some (.slice Q1 K p1) := hHeld.1
              have cz1 : y3.cell? ⟨bo, 1, none⟩ = some (.slice Q2 K p2) := hHeld.2
              have fz0 : y3.frozen? ⟨bo, 0, none⟩ = false := (World.frozen?_of_block (a := ⟨bo, 0, none⟩) (TA.out.block bo LB NB1.out NB2.out)).trans fb0
              have fz1 : y3.frozen? ⟨bo, 1, none⟩ = false := (World.frozen?_of_block (a := ⟨bo, 1, none⟩) (TA.out.block bo LB NB1.out NB2.out)).trans fb1
              have FIN : Hid (MM W1.heap.size bo (.slice Z1 (K + 1) z1) (.slice Z2 (K + 1) z2) (e1 ++ [.slice O1 n p5]) (e2 ++ [.slice O2 n p6]) ((heads.take (K + 1)).map fun h => outRow T h n) ((heads.take (K + 1)).map fun h => nextRow T tails heads h n) ((y3.setCell ⟨bo, 0, none⟩ (.slice Z1 (K + 1) z1)).setCell ⟨bo, 1, none⟩ (.slice Z2 (K + 1) z2))) := by
                show MM _ _ _ _ _ _ _ _ _
                rw [MT1.out, MT2.out]
                exact MMO.out.done (by rw [KL1.out, KL2.out]; exact TA.out) IU1.out IU2.out
              have GF := hid (fin_gr TA.out GC.out (own_ge O1K.out) (own_ge O2K.out) LOBO.out (.slice Z1 (K + 1) z1) (.slice Z2 (K + 1) z2))
              have RF : Hid (RUq R s ((K + 1) * n) (3 * (K + 1) * D) ((y3.setCell ⟨bo, 0, none⟩ (.slice Z1 (K + 1) z1)).setCell ⟨bo, 1, none⟩ (.slice Z2 (K + 1) z2))) := by
                obtain ⟨s', k1, k2, k3⟩ := RU9.out
                exact ⟨s', k1, k2, HTT.out.keep _ _ _ k3 fun b hb => fin_keep TA.out (own_ge O1K.out) (own_ge O2K.out) LOBO.out _ _ b (by have := SW1.out; omega) (by have := SW1.out; have := GC.out.size; omega)⟩
              clear LI1 LI2 TA
              refine nxtL (i := 11) (o := _) (by kernel_rfl) rfl (fun K' hK => ?_)
              go_simp
              refine hK.out _ _ (Or.inr (by simp)) ?_
              clear hK K' hHeld
              try simp only [Act.put, List.setIfInBounds_toArray, List.set_cons_zero, List.set_cons_succ]
              refine nxtL (i := 12) (o := _) (by kernel_rfl) rfl (fun K' hK => ?_)
              go_simp
              refine hK.out _ _ (Or.inr (by simp)) ?_
              clear hK K'
              try simp only [Act.put, List.setIfInBounds_toArray, List.set_cons_zero, List.set_cons_succ]
              refine nxtL (i := 13) (o := _) (by kernel_rfl) rfl (fun K' hK => ?_)
              go_simp
              refine hK.out _ _ (Or.inr (by simp)) ?_
              clear hK K'
              try simp only [Act.put, List.setIfInBounds_toArray, List.set_cons_zero, List.set_cons_succ]
              refine doneL (by kernel_rfl) ?_ _
              clear cz0 cz1 fz0 fz1
              go_wp2_with fail
              go_roundw
              case rel => exact ⟨K + 1, _, _, _, _, by omega, by go_num, FIN, GF, RF⟩
              case measure => simp [intOf]; omega
          · go_simp
            have LI2 := hid (LitAt.new (g := wz.heap.size) TA.out (.slice O2 n p6) rfl)
            have TA := hid (TA.out.alloc (.cells #[(.slice O2 n p6)] 29))
            obtain ⟨g2, hg2⟩ : ∃ g, g = wz.heap.size := ⟨_, rfl⟩
            obtain ⟨y0, hy0⟩ : ∃ y, y = (wz.alloc (.cells #[(.slice O2 n p6)] 29)) := ⟨_, rfl⟩
            rw [← hg2, ← hy0] at LI2
            rw [← hy0] at TA
            have hHeld : (fun w' => w'.cell? ⟨bo, 0, none⟩ = some (.slice Q1 K p1) ∧ w'.cell? ⟨bo, 1, none⟩ = some (.slice Q2 K p2)) y0 := ⟨(World.cell?_of_block (a := ⟨bo, 0, none⟩) (TA.out.block bo LB NB1.out NB2.out)).trans cb0, (World.cell?_of_block (a := ⟨bo, 1, none⟩) (TA.out.block bo LB NB1.out NB2.out)).trans cb1⟩
            (try rw [← hg2])
            (try rw [← hy0])
            refine hK.out _ _ (Or.inl hHeld) ?_
            clear hK K' hg2 hy0
            try simp only [Act.put, List.setIfInBounds_toArray, List.set_cons_zero, List.set_cons_succ]
            refine nxtL (i := 3) (o := _) (by kernel_rfl) rfl (fun K' hK => ?_)
            go_simp
            have LI1 := hid (LitAt.new (g := y0.heap.size) TA.out (.slice O1 n p5) rfl)
            have LI2 := hid (LI2.out.alloc (.cells #[(.slice O1 n p5)] 29))
            have TA := hid (TA.out.alloc (.cells #[(.slice O1 n p5)] 29))
            obtain ⟨g1, hg1⟩ : ∃ g, g = y0.heap.size := ⟨_, rfl⟩
            obtain ⟨y1, hy1⟩ : ∃ y, y = (y0.alloc (.cells #[(.slice O1 n p5)] 29)) := ⟨_, rfl⟩
            rw [← hg1, ← hy1] at LI1
            rw [← hy1] at LI2
            rw [← hy1] at TA
            have hHeld : (fun w' => w'.cell? ⟨bo, 0, none⟩ = some (.slice Q1 K p1) ∧ w'.cell? ⟨bo, 1, none⟩ = some (.slice Q2 K p2)) y1 := ⟨(World.cell?_of_block (a := ⟨bo, 0, none⟩) (TA.out.block bo LB NB1.out NB2.out)).trans cb0, (World.cell?_of_block (a := ⟨bo, 1, none⟩) (TA.out.block bo LB NB1.out NB2.out)).trans cb1⟩
            (try rw [← hg1])
            (try rw [← hy1])
            refine hK.out _ _ (Or.inl hHeld) ?_
            clear hK K' hg1 hy1
            try simp only [Act.put, List.setIfInBounds_toArray, List.set_cons_zero, List.set_cons_succ]
            refine nxtL (i := 4) (o := _) (by kernel_rfl) rfl (fun K' hK => ?_)
            refine step_app _ (by rfl) (.tmp 53) (.tmp 55) 22 (by rfl) W1.heap.size 29 i1 (.slice none 0 0) 1 24 Try.underlying22 hi1 hx0 hx1 hx2 rfl (by decide) (.slice Q1 K p1) K e1 (by simp [Act.eval, Act.put]) (by exact TA.out.o1) _ (.slice (some ⟨g1, 0, none⟩) 1 1) 1 [(.slice O1 n p5)] (by simp [Act.eval, Act.put]) (by exact LI1.out.cells) (by intro u hu; simp at hu; subst hu; rfl) (by unfold maxLen; omega) (by omega) (by have := TA.out.size; omega) ?_
            intro v2 y2 hown hgrow hat
            have LI2 := hid (LitAt.app1 TA.out LI2.out hgrow hat)
            have TA := hid (TA.out.app1 rfl hown hgrow hat)
            obtain ⟨Z1, z1, rfl, _, _⟩ := own_slL hown
            clear hown hgrow hat
            have hHeld : (fun w' => w'.cell? ⟨bo, 0, none⟩ = some (.slice Q1 K p1) ∧ w'.cell? ⟨bo, 1, none⟩ = some (.slice Q2 K p2)) y2 := ⟨(World.cell?_of_block (a := ⟨bo, 0, none⟩) (TA.out.block bo LB NB1.out NB2.out)).trans cb0, (World.cell?_of_block (a := ⟨bo, 1, none⟩) (TA.out.block bo LB NB1.out NB2.out)).trans cb1⟩
            refine hK.out _ _ (Or.inl hHeld) ?_
            clear hK K'
            try simp only [Act.put, List.setIfInBounds_toArray, List.set_cons_zero, List.set_cons_succ]
            refine takeL [11, 12, 13] (i := 10) (d := 62) (oi := _) (v := ?_) rfl rfl (by kernel_rfl) (by kernel_rfl) (by kernel_rfl) (by kernel_rfl) (by kernel_rfl) (fun _ _ _ h => h) (Or.inl ⟨by rfl, ?_⟩) (by assumption) ?_
            rotate_left
            · intro wz hSw; (try dsimp only at hSw); go_simp; (try with_reducible rfl)
            try simp only [Act.put, List.setIfInBounds_toArray, List.set_cons_zero, List.set_cons_succ]
            refine nxtL (i := 9) (o := _) (by kernel_rfl) rfl (fun K' hK => ?_)
            refine step_app _ (by rfl) (.tmp 58) (.tmp 60) 22 (by rfl) W1.heap.size 29 i1 (.slice none 0 0) 1 24 Try.underlying22 hi1 hx0 hx1 hx2 rfl (by decide) (.slice Q2 K p2) K e2 (by simp [Act.eval, Act.put]) (by exact TA.out.o2) _ (.slice (some ⟨g2, 0, none⟩) 1 1) 1 [(.slice O2 n p6)] (by simp [Act.eval, Act.put]) (by exact LI2.out.cells) (by intro u hu; simp at hu; subst hu; rfl) (by unfold maxLen; omega) (by omega) (by have := TA.out.size; omega) ?_
            intro v3 y3 hown hgrow hat
            have TA := hid (TA.out.app2 rfl hown hgrow hat)
            obtain ⟨Z2, z2, rfl, _, _⟩ := own_slL hown
            clear hown hgrow hat
            have hHeld : (fun w' => w'.cell? ⟨bo, 0, none⟩ = some (.slice Q1 K p1) ∧ w'.cell? ⟨bo, 1, none⟩ = some (.slice Q2 K p2)) y3 := ⟨(World.cell?_of_block (a := ⟨bo, 0, none⟩) (TA.out.block bo LB NB1.out NB2.out)).trans cb0, (World.cell?_of_block (a := ⟨bo, 1, none⟩) (TA.out.block bo LB NB1.out NB2.out)).trans cb1⟩
            refine hK.out _ _ (Or.inl hHeld) ?_
            clear hK K'
            try simp only [Act.put, List.setIfInBounds_toArray, List.set_cons_zero, List.set_cons_succ]
            have cz0 : y3.cell? ⟨bo, 0, none⟩ = some (.slice Q1 K p1) := hHeld.1
            have cz1 : y3.cell? ⟨bo, 1, none⟩ = some (.slice Q2 K p2) := hHeld.2
            have fz0 : y3.frozen? ⟨bo, 0, none⟩ = false := (World.frozen?_of_block (a := ⟨bo, 0, none⟩) (TA.out.block bo LB NB1.out NB2.out)).trans fb0
            have fz1 : y3.frozen? ⟨bo, 1, none⟩ = false := (World.frozen?_of_block (a := ⟨bo, 1, none⟩) (TA.out.block bo LB NB1.out NB2.out)).trans fb1
            have FIN : Hid (MM W1.heap.size bo (.slice Z1 (K + 1) z1) (.slice Z2 (K + 1) z2) (e1 ++ [.slice O1 n p5]) (e2 ++ [.slice O2 n p6]) ((heads.take (K + 1)).map fun h => outRow T h n) ((heads.take (K + 1)).map fun h => nextRow T tails heads h n) ((y3.setCell ⟨bo, 0, none⟩ (.slice Z1 (K + 1) z1)).setCell ⟨bo, 1, none⟩ (.slice Z2 (K + 1) z2))) := by
              show MM _ _ _ _ _ _ _ _ _
              rw [MT1.out, MT2.out]
              exact MMO.out.done (by rw [KL1.out, KL2.out]; exact TA.out) IU1.out IU2.out
            have GF := hid (fin_gr TA.out GC.out (own_ge O1K.out) (own_ge O2K.out) LOBO.out (.slice Z1 (K + 1) z1) (.slice Z2 (K + 1) z2))
            have RF : Hid (RUq R s ((K + 1) * n) (3 * (K + 1) * D) ((y3.setCell ⟨bo, 0, none⟩ (.slice Z1 (K + 1) z1)).setCell ⟨bo, 1, none⟩ (.slice Z2 (K + 1) z2))) := by
              obtain ⟨s', k1, k2, k3⟩ := RU9.out
              exact ⟨s', k1, k2, HTT.out.keep _ _ _ k3 fun b hb => fin_keep TA.out (own_ge O1K.out) (own_ge O2K.out) LOBO.out _ _ b (by have := SW1.out; omega) (by have := SW1.out; have := GC.out.size; omega)⟩
            clear LI1 LI2 TA
            refine nxtL (i := 11) (o := _) (by kernel_rfl) rfl (fun K' hK => ?_)
            go_simp
            refine hK.out _ _ (Or.inr (by simp)) ?_
            clear hK K' hHeld
            try simp only [Act.put, List.setIfInBounds_toArray, List.set_cons_zero, List.set_cons_succ]
            refine nxtL (i := 12) (o := _) (by kernel_rfl) rfl (fun K' hK => ?_)
            go_simp
            refine hK.out _ _ (Or.inr (by simp)) ?_
            clear hK K'
            try simp only [Act.put, List.setIfInBounds_toArray, List.set_cons_zero, List.set_cons_succ]
            refine nxtL (i := 13) (o := _) (by kernel_rfl) rfl (fun K' hK => ?_)
            go_simp
            refine hK.out _ _ (Or.inr (by simp)) ?_
            clear hK K'
            try simp only [Act.put, List.setIfInBounds_toArray, List.set_cons_zero, List.set_cons_succ]
            refine doneL (by kernel_rfl) ?_ _
            clear cz0 cz1 fz0 fz1
            go_wp2_with fail
            go_roundw
            case rel => exact ⟨K + 1, _, _, _, _, by omega, by go_num, FIN, GF, RF⟩
            case measure => simp [intOf]; omega
    · obtain rfl : K = heads.length := by omega
      rw [List.take_length] at hMM
      have MI := hid hMM.out.mach
      have o1k := hMM.out.o1
      have o2k := hMM.out.o2
      rw [List.length_map] at o1k o2k
      obtain ⟨Q1, p1, rfl, _, _⟩ := own_slL o1k
      obtain ⟨Q2, p2, rfl, _, _⟩ := own_slL o2k
      have p0 := (Has.cell hMM.out.box 0).trans rfl
      have p1' := (Has.cell hMM.out.box 1).trans rfl
      have hbr : br < W1.heap.size := by have := HBR.out; have := SW1.out; omega
      have X3 : wr.heap[br]? = some (.cells #[.slice none 0 0, .slice none 0 0] 24 (0, 0)) := (gr_block hG.out hbr (fun e => by have := LOW.out br e.symm; have := HBR.out; omega)).trans XR.out
      have x0 := (Has.cell X3 0).trans rfl
      have x1 := (Has.cell X3 1).trans rfl
      have fx0 := Has.froz X3 0
      have fx1 := Has.froz X3 1
      have BRO : br ≠ bo := by have := HBR.out; have := SW1.out; omega
      have P : Hid (MachPost T r R n heads tails s w (.returned (.agg #[.slice Q1 heads.length p1, .slice Q2 heads.length p2])) ((wr.setCell ⟨br, 0, none⟩ (.slice Q1 heads.length p1)).setCell ⟨br, 1, none⟩ (.slice Q2 heads.length p2))) := by
        refine ⟨_, rfl, ?_, ?_, ?_⟩
        · rw [machL_rows]
          refine (MI.out.keep fun b hb => ?_).more fun b hb => ⟨by have := hb.1; have := SW1.out; omega, by simp; exact hb.2⟩
          rw [Below.heap_setCell _ _ _ _ (by have := hb.1; show b ≠ br; omega), Below.heap_setCell _ _ _ _ (by have := hb.1; show b ≠ br; omega)]
        · have g := GW1.out.trans hG.out
          exact ⟨g.os, g.tape, g.output, by have := g.size; simp; omega, fun b hb hr => by
            rw [Below.heap_setCell _ _ _ _ (by have := HBR.out; show b ≠ br; omega), Below.heap_setCell _ _ _ _ (by have := HBR.out; show b ≠ br; omega)]
            exact g.block b hb hr⟩
        · obtain ⟨s', k1, k2, k3⟩ := hRU.out
          refine ⟨s', k1, Nat.le_trans k2 (Nat.add_le_add_left ?_ s), HTT.out.keep _ _ _ k3 fun b hb => ?_⟩
          · rw [← HD.out]; exact Nat.mul_le_mul_right D (by have := H6.out; omega)
          · rw [Below.heap_setCell _ _ _ _ (by have := HBR.out; show b ≠ br; omega), Below.heap_setCell _ _ _ _ (by have := HBR.out; show b ≠ br; omega)]
      have i1' : ¬ (heads.length : Int) < (heads.length : Int) := by omega
      clear o1k o2k X3
      go_wp2_with fail
      refine bodyPost_ret (v := .agg #[.slice Q1 heads.length p1, .slice Q2 heads.length p2]) (by simp [results, Try.results23, go_sem, x0, x1]) rfl ?_
      exact P.out
end Go.Proofs.Ytkcggmhllijgcaa
