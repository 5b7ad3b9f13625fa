/- The table of package learn in memory; what table.closed leaves: heads that are closed. Conditions: the contract of the function value that is asked; heads with unlike rows are six at most. -/
import Derived.Test.YtkcggmhllijgcaaLqu
import Derived.Deep.DeepCutAuto
namespace Go.Proofs.Ytkcggmhllijgcaa
open Go.RowKit Go.Deep
/-- blocks of words, apart from what grows -/
def LF (B bt : Nat) (hv tv : Value) (w : World) (b : Nat) : Prop := B ≤ b ∧ b < w.heap.size ∧ b ≠ bt ∧ hv.ownBlock ≠ some b ∧ tv.ownBlock ≠ some b
structure TMem (fid : FuncId) (caps : Array Value) (r : Option Nat) (n bt B : Nat) (hv tv : Value) (hc tc : List Value) (heads tails : List (List Int)) (w : World) : Prop where
  box : w.heap[bt]? = some (.cells #[.int .i64 (n : Int), .func (Fn.func fid) #[] caps, hv, tv] 53 (0, 0))
  o1 : w.ownsRow B 29 1 hv heads.length hc
  o2 : w.ownsRow B 29 1 tv tails.length tc
  r1 : RowCells (LF B bt hv tv w) w hc heads
  r2 : RowCells (LF B bt hv tv w) w tc tails
  lo : B ≤ bt
  b1 : hv.ownBlock ≠ some bt
  b2 : tv.ownBlock ≠ some bt
  m : ∀ b, hv.ownBlock = some b → tv.ownBlock ≠ some b
  low : ∀ b, r = some b → b < B
section
variable {fid : FuncId} {caps : Array Value} {r : Option Nat} {n bt B : Nat} {hv tv v' u : Value} {hc tc : List Value} {heads tails : List (List Int)} {row : List Int} {w w' : World}
theorem TMem.lt (h : TMem fid caps r n bt B hv tv hc tc heads tails w) : bt < w.heap.size := Has.lt h.box
theorem TMem.gr (h : TMem fid caps r n bt B hv tv hc tc heads tails w) (hg : w.grownBy w' r) : TMem fid caps r n bt B hv tv hc tc heads tails w' := by
  have nr : ∀ b, B ≤ b → some b ≠ r := fun b hb e => by have := h.low b e.symm; omega
  have hs : Same (LF B bt hv tv w) w w' := fun b hb => gr_block hg hb.2.1 (nr b hb.1)
  have hm : ∀ b, LF B bt hv tv w b → LF B bt hv tv w' b := fun b hb => ⟨hb.1, Nat.lt_of_lt_of_le hb.2.1 hg.size, hb.2.2⟩
  exact ⟨(gr_block hg h.lt (nr bt h.lo)).trans h.box, own_gr h.o1 hg h.low, own_gr h.o2 hg h.low, (h.r1.keep hs).more hm, (h.r2.keep hs).more hm, h.lo, h.b1, h.b2, h.m, h.low⟩
theorem TMem.tin (h : TMem fid caps r n bt B hv tv hc tc heads tails w) : TIn fid caps r n bt hv tv heads tails w := by
  have nr : ∀ b, B ≤ b → some b ≠ r := fun b hb e => by have := h.low b e.symm; omega
  have hm : ∀ b, LF B bt hv tv w b → Fx r w b := fun b hb => ⟨hb.2.1, nr b hb.1⟩
  exact ⟨h.box, rows_of_own h.o1 rfl (h.r1.more hm) fun b k1 k2 => ⟨k2, nr b k1⟩, rows_of_own h.o2 rfl (h.r2.more hm) fun b k1 k2 => ⟨k2, nr b k1⟩, nr bt h.lo⟩
/-- one head more -/
theorem TMem.headApp (h : TMem fid caps r n bt B hv tv hc tc heads tails w) (hown : w'.ownsRow B 29 1 v' (heads.length + 1) (hc ++ [u])) (hg : w.grownBy w' hv.ownBlock) (hat : v'.ownBlock = hv.ownBlock ∨ ∃ b, v'.ownBlock = some b ∧ w.heap.size ≤ b) (hu : IntsIn .i64 (LF B bt hv tv w) w u row) :
    TMem fid caps r n bt B v' tv (hc ++ [u]) tc (heads ++ [row]) tails (w'.setCell ⟨bt, 2, none⟩ v') := by
  have l2' := own_lt h.o2
  have lb := h.lt
  have hs : Same (LF B bt hv tv w) w (w'.setCell ⟨bt, 2, none⟩ v') := fun b hb => (Below.heap_setCell w' _ _ b hb.2.2.1).trans (hg.block b hb.2.1 (fun e => hb.2.2.2.1 e.symm))
  have far : ∀ b, b < w.heap.size → hv.ownBlock ≠ some b → v'.ownBlock ≠ some b := fun b hb hn e => by
    rcases hat with k | ⟨c, k, hc⟩
    · exact hn (k ▸ e)
    · rw [k] at e; injection e with e; omega
  have hm : ∀ b, LF B bt hv tv w b → LF B bt v' tv (w'.setCell ⟨bt, 2, none⟩ v') b := fun b k => ⟨k.1, by have := k.2.1; have := hg.size; simp; omega, k.2.2.1, far b k.2.1 k.2.2.2.1, k.2.2.2.2⟩
  have b1' := far bt lb h.b1
  have hb := Has.grown h.box hg (fun e => h.b1 e.symm)
  have hb2 := Has.set hb 2 v'
  have kk : ∀ k, k ≠ bt → (w'.setCell ⟨bt, 2, none⟩ v').heap[k]? = w'.heap[k]? := fun k hk => Below.heap_setCell w' _ _ k hk
  refine ⟨by simpa using hb2, by rw [List.length_append]; exact own_keep hown fun k hk => kk k fun e => b1' (e ▸ hk), own_keep h.o2 fun k hk => (kk k fun e => h.b2 (e ▸ hk)).trans (hg.block k (l2' k hk) (fun e => h.m k e.symm hk)),
    ((h.r1.snoc (by have := h.o1.1; omega) hu).keep hs).more hm, (h.r2.keep hs).more hm, h.lo, b1', h.b2, fun b hb hc => far b (l2' b hc) (fun e => h.m b e hc) hb, h.low⟩
theorem TMem.tailApp (h : TMem fid caps r n bt B hv tv hc tc heads tails w) (hown : w'.ownsRow B 29 1 v' (tails.length + 1) (tc ++ [u])) (hg : w.grownBy w' tv.ownBlock) (hat : v'.ownBlock = tv.ownBlock ∨ ∃ b, v'.ownBlock = some b ∧ w.heap.size ≤ b) (hu : IntsIn .i64 (LF B bt hv tv w) w u row) :
    TMem fid caps r n bt B hv v' hc (tc ++ [u]) heads (tails ++ [row]) (w'.setCell ⟨bt, 3, none⟩ v') := by
  have l1' := own_lt h.o1
  have lb := h.lt
  have hs : Same (LF B bt hv tv w) w (w'.setCell ⟨bt, 3, none⟩ v') := fun b hb => (Below.heap_setCell w' _ _ b hb.2.2.1).trans (hg.block b hb.2.1 (fun e => hb.2.2.2.2 e.symm))
  have far : ∀ b, b < w.heap.size → tv.ownBlock ≠ some b → v'.ownBlock ≠ some b := fun b hb hn e => by
    rcases hat with k | ⟨c, k, hc⟩
    · exact hn (k ▸ e)
    · rw [k] at e; injection e with e; omega
  have hm : ∀ b, LF B bt hv tv w b → LF B bt hv v' (w'.setCell ⟨bt, 3, none⟩ v') b := fun b k => ⟨k.1, by have := k.2.1; have := hg.size; simp; omega, k.2.2.1, k.2.2.2.1, far b k.2.1 k.2.2.2.2⟩
  have b2' := far bt lb h.b2
  have hb := Has.grown h.box hg (fun e => h.b2 e.symm)
  have hb2 := Has.set hb 3 v'
  have kk : ∀ k, k ≠ bt → (w'.setCell ⟨bt, 3, none⟩ v').heap[k]? = w'.heap[k]? := fun k hk => Below.heap_setCell w' _ _ k hk
  refine ⟨by simpa using hb2, own_keep h.o1 fun k hk => (kk k fun e => h.b1 (e ▸ hk)).trans (hg.block k (l1' k hk) (fun e => h.m k hk e.symm)), by rw [List.length_append]; exact own_keep hown fun k hk => kk k fun e => b2' (e ▸ hk),
    (h.r1.keep hs).more hm, ((h.r2.snoc (by have := h.o2.1; omega) hu).keep hs).more hm, h.lo, h.b1, b2', fun b hb hc => far b (l1' b hb) (fun e => h.m b hb e) hc, h.low⟩
end
/-- tails that may be asked -/
structure TSz (n : Nat) (tails : List (List Int)) : Prop where
  ok : TailsOk n tails
  len : ∀ t ∈ tails, t.length ≤ 20
  tl : tails.length ≤ 1000
theorem ask_head {T : List Int → List Int} {n : Nat} {tails heads : List (List Int)} (ht : TSz n tails) (hh : HeadsOk T tails n heads) (h6 : heads.length ≤ 6) {i : Nat} (hi : i < heads.length) : AskOk n tails (rowAt heads i) :=
  ⟨fun t htt => by have := ht.len t htt; have := hh.len i hi; omega, ht.ok.ltr, hh.ltr i hi, ht.tl⟩
theorem ask_next {T : List Int → List Int} {n : Nat} {tails heads : List (List Int)} (ht : TSz n tails) (hh : HeadsOk T tails n heads) (h6 : heads.length ≤ 6) {i x : Nat} (hi : i < heads.length) (hx : x < n) : AskOk n tails (rowAt heads i ++ [(x : Int)]) :=
  ⟨fun t htt => by have := ht.len t htt; have := hh.len i hi; rw [List.length_append, List.length_singleton]; omega, ht.ok.ltr, fun y hy => by
    rcases List.mem_append.1 hy with h | h
    · exact hh.ltr i hi y h
    · rw [List.mem_singleton.1 h]; omega, ht.tl⟩
/-- the state some numbers on -/
def RUp (R : Nat → World → Prop) (s c : Nat) (w : World) : Prop := ∃ s', s ≤ s' ∧ s' ≤ s + c ∧ R s' w
def ClosedPost (T : List Int → List Int) (fid : FuncId) (caps : Array Value) (r : Option Nat) (R : Nat → World → Prop) (n bt : Nat) (W0 : World) (tv : Value) (tc : List Value) (heads tails : List (List Int)) (s : Nat) (e : Ending) (w' : World) : Prop :=
  e = .returned (.bool true) ∧ ∃ hv' hc' r', ClosedL T tails n (heads ++ r') ∧ TMem fid caps r n bt W0.heap.size hv' tv hc' tc (heads ++ r') tails w' ∧ W0.grownBy w' r ∧ RUp R s (126 * tails.length) w'
set_option maxRecDepth 100000 in
set_option maxHeartbeats 4000000 in
theorem closed_any {fid : FuncId} {caps : Array Value} {T : List Int → List Int} {n : Nat} {r : Option Nat} {R : Nat → World → Prop} {B0 : Nat} (HT : TellsOk fid caps T n r R B0) (bt : Nat) (hv tv : Value) (hc tc : List Value) (heads tails : List (List Int)) (s : Nat) (W0 w : World)
    (hM : TMem fid caps r n bt W0.heap.size hv tv hc tc heads tails w) (hR : R s w) (hB : B0 ≤ W0.heap.size) (hG : W0.grownBy w r) (ht : TSz n tails) (hH : HeadsOk T tails n heads) (n3 : n ≤ 3) (hmax : ∀ hs, HeadsOk T tails n hs → hs.length ≤ 6) :
    Calls Try.prog 22 #[.pointer (some ⟨bt, 0, none⟩)] w (ClosedPost T fid caps r R n bt W0 tv tc heads tails s) := by
  have HTT := hid HT
  have HM := hid hM
  have HR := hid hR
  have HG := hid hG
  have HTS := hid ht
  have HH := hid hH
  have HMX := hid hmax
  have LOW : Hid (∀ b, r = some b → b < W0.heap.size) := fun b hb => by have := HT.low b hb; omega
  obtain ⟨i1, hi1, hy0, hy1, hy2⟩ := info_parts infoRowL
  obtain ⟨D, hD⟩ : ∃ D, D = 7 * tails.length := ⟨_, rfl⟩
  have HD := hid hD
  clear HT hM hR hG ht hH hmax hD
  go_enter Try.func22, Try.ntmps22
  go_wp2_with fail
  go_loopw [3] (fun ki wr => ∃ (k : Nat) (hv1 : Value) (hc1 : List Value) (r1 : List (List Int)), ki = .int .i64 k ∧ k ≤ (heads ++ r1).length ∧ Hid (HeadsOk T tails n (heads ++ r1)) ∧ Hid (∀ j, j < k → ∀ x : Nat, x < n → 0 ≤ stateL T tails (heads ++ r1) (rowAt (heads ++ r1) j ++ [(x : Int)])) ∧ Hid (TMem fid caps r n bt W0.heap.size hv1 tv hc1 tc (heads ++ r1) tails wr) ∧ Hid (W0.grownBy wr r) ∧ Hid (RUp R s (3 * k * D) wr)) (fun ki _ => 7 - (intOf ki).toNat)
  case atStart => exact ⟨0, hv, hc, [], rfl, Nat.zero_le _, by rw [List.append_nil]; exact HH.out, fun j hj => by omega, by rw [List.append_nil]; exact HM.out, HG.out, ⟨s, Nat.le_refl _, by omega, HR.out⟩⟩
  case round =>
    obtain ⟨k, hv1, hc1, r1, rfl, hk, hH1, hC1, hM1, hG1, hR1⟩ := hrel
    have H6 := HMX.out _ hH1.out
    obtain ⟨L1, hL1⟩ : ∃ L, L = (heads ++ r1).length := ⟨_, rfl⟩
    have HL1 := hid hL1
    rw [← hL1] at hk H6
    have o1 := hM1.out.o1
    rw [← hL1] at o1
    obtain ⟨A1, c1, rfl, _, _⟩ := own_slL o1
    have ch := (Has.cell hM1.out.box 2).trans rfl
    clear hL1 o1
    by_cases hlt : k < L1
    · have i1' : (k : Int) < (L1 : Int) := by omega
      have ci := (Has.cell hM1.out.box 0).trans rfl
      obtain ⟨wo, hwo⟩ : ∃ wo, wo = wr := ⟨_, rfl⟩
      subst hwo
      go_wp2_with fail
      clear ch ci
      go_loopw [19] (fun xi wr => ∃ (x : Nat) (hv2 : Value) (hc2 : List Value) (r2 : List (List Int)), xi = .int .i64 x ∧ x ≤ n ∧ k < (heads ++ r2).length ∧ Hid (HeadsOk T tails n (heads ++ r2)) ∧ Hid (∀ j, j < k → ∀ x : Nat, x < n → 0 ≤ stateL T tails (heads ++ r2) (rowAt (heads ++ r2) j ++ [(x : Int)])) ∧ Hid (∀ y : Nat, y < x → 0 ≤ stateL T tails (heads ++ r2) (rowAt (heads ++ r2) k ++ [(y : Int)])) ∧ Hid (TMem fid caps r n bt W0.heap.size hv2 tv hc2 tc (heads ++ r2) tails wr) ∧ Hid (W0.grownBy wr r) ∧ Hid (RUp R s ((3 * k + x) * D) wr)) (fun xi _ => n - (intOf xi).toNat)
      case atStart => exact ⟨0, _, hc1, r1, rfl, Nat.zero_le _, by have := HL1.out; omega, hH1, hC1, fun y hy => by omega, hM1, hG1, by rw [Nat.add_zero]; exact hR1.out⟩
      case round =>
        clear hH1 hC1 hM1 hG1 hR1 HL1
        obtain ⟨x, hv2, hc2, r2, rfl, hx, hk2, hH2, hC2, hX2, hM2, hG2, hR2⟩ := hrel
        have H62 := HMX.out _ hH2.out
        have KK := hid hk2
        obtain ⟨L2, hL2⟩ : ∃ L, L = (heads ++ r2).length := ⟨_, rfl⟩
        have HL2 := hid hL2
        rw [← hL2] at hk2 H62
        have o1 := hM2.out.o1
        have O1 := hid o1
        rw [← hL2] at o1
        obtain ⟨A2, c2, rfl, _, _⟩ := own_slL o1
        have ch := (Has.cell hM2.out.box 2).trans rfl
        by_cases hxn : x < n
        · have i1' : (x : Int) < (n : Int) := by omega
          have i2' : (k : Int) < (L2 : Int) := by omega
          obtain ⟨g, cap, e1, hq0, hq1, hq2, hq3, hq4⟩ := own_open o1 (by omega)
          injection e1 with e1 e3 e2
          clear e3 hq0 hq1 hq2 hq3 hq4
          subst e1 e2
          obtain ⟨rv, hr1, hr2⟩ := hM2.out.r1 k KK.out
          have cr := (o1.cellAt k (by omega)).trans hr1
          have HR2 := hid hr2
          obtain ⟨Ar, cpr, rfl, _, _, _⟩ := hr2
          have AK := hid (ask_next HTS.out hH2.out (HMX.out _ hH2.out) KK.out hxn)
          obtain ⟨hk', hhk⟩ : ∃ h, h = rowAt (heads ++ r2) k := ⟨_, rfl⟩
          have HK' := hid hhk
          rw [← hhk] at HR2 AK cr
          obtain ⟨lk, hlk⟩ : ∃ lk, lk = hk'.length := ⟨_, rfl⟩
          have HLK := hid hlk
          have lk5 : lk ≤ 5 := by rw [hlk, hhk]; have := hH2.out.len k KK.out; omega
          rw [← hlk] at cr
          obtain ⟨wp, hwp⟩ : ∃ wp, wp = wr := ⟨_, rfl⟩
          subst hwp
          have sG := hG2.out.size
          have R2 : Hid (RowsIn (fun b => b < wp.heap.size + 1 + 1) ((wp.alloc (.cells #[.int .i64 (x : Int)] 3)).alloc (.cells #[.slice Ar lk cpr, .slice (some ⟨wp.heap.size, 0, none⟩) 1 1] 29)) (.slice (some ⟨wp.heap.size + 1, 0, none⟩) 2 2) [hk', [(x : Int)]]) := by
            have a1 := Has.newAt (g := wp.heap.size + 1) (wp.alloc (.cells #[.int .i64 (x : Int)] 3)) (.cells #[.slice Ar lk cpr, .slice (some ⟨wp.heap.size, 0, none⟩) 1 1] 29) (by simp)
            have a0 := Has.alloc (Has.new wp (.cells #[.int .i64 (x : Int)] 3)) (.cells #[.slice Ar lk cpr, .slice (some ⟨wp.heap.size, 0, none⟩) 1 1] 29)
            have i0 := HR2.out
            rw [← HLK.out] at i0
            have sm : Same (LF W0.heap.size bt (.slice (some ⟨g, 0, none⟩) L2 c2) tv wp) wp ((wp.alloc (.cells #[.int .i64 (x : Int)] 3)).alloc (.cells #[.slice Ar lk cpr, .slice (some ⟨wp.heap.size, 0, none⟩) 1 1] 29)) := fun b hb => (Below.heap_alloc _ _ b (by have := hb.2.1; simp; omega)).trans (Below.heap_alloc wp _ b hb.2.1)
            refine rows2L (b := wp.heap.size + 1) (by omega) ((Has.cell a1 0).trans rfl) ((Has.cell a1 1).trans rfl) ((i0.keep sm).more fun b hb => by have := hb.2.1; omega) ?_
            refine ⟨_, 1, rfl, by simp [maxLen], fun z hz => by rw [List.mem_singleton.1 hz]; exact WalkArith.wf_i64 (by omega), fun _ => ⟨wp.heap.size, 0, rfl, by omega, fun j hj => ?_⟩⟩
            obtain rfl : j = 0 := by simpa using hj
            exact (Has.cell a0 0).trans rfl
          clear o1 hr1 hlk hhk hL2
          go_wp2_with fail
          refine (concat_any [hk', [(x : Int)]] (fun b => b < wp.heap.size + 1 + 1) _ _ (fun b hb => by simpa using hb) R2.out (by simp; have := HLK.out; omega)).mono ?_
          rintro e w5 ⟨v5, rfl, ho, hb⟩
          obtain ⟨ws, hws⟩ : ∃ ws, ws = hk' ++ [(x : Int)] := ⟨_, rfl⟩
          have FL : [hk', [(x : Int)]].flatten = ws := by rw [hws]; simp
          rw [FL] at ho
          have HWS := hid hws
          rw [← hws] at AK
          have B5 : Hid (Below wp.heap.size wp w5) := (((Below.refl _ _).alloc (Nat.le_refl _) _).alloc (by simp) _).trans (hb.mono (by simp; omega))
          have s5 := B5.out.size
          have M5 := hid (hM2.out.gr (gr_below B5.out r))
          have G5 := hid (hG2.out.trans (gr_below B5.out r))
          have WFS : Hid (∀ z ∈ ws, (Lit.int .i64 z).wf = true) := fun z hz => by
            have := AK.out.hltr z hz
            obtain ⟨q, rfl⟩ : ∃ q : Nat, z = q := ⟨z.toNat, by omega⟩
            exact WalkArith.wf_i64 (by omega)
          have I5 := hid (ints_own (r := r) ho WFS.out (fun b hb => by have := LOW.out b hb; simp; omega))
          have OW5 := hid ho
          obtain ⟨A5, c5, rfl, _, _⟩ := own_slL ho
          clear ho hb FL hws ch cr
          obtain ⟨s2, hs2⟩ : ∃ s2, s ≤ s2 ∧ s2 ≤ s + (3 * k + x) * D ∧ R s2 wp := hR2.out
          have S2 := hid hs2
          have RW5 : Hid (R s2 w5) := HTT.out.below hs2.2.2 (by omega) B5.out
          clear hs2
          go_wp2_with fail
          refine (state_any HTT.out ws bt (.slice (some ⟨g, 0, none⟩) L2 c2) tv (heads ++ r2) tails (.slice A5 ws.length c5) s2 w5 M5.out.tin RW5.out (by omega) I5.out AK.out (fun i hi => ask_head HTS.out hH2.out (HMX.out _ hH2.out) hi)).mono ?_
          rintro e w6 ⟨rfl, hg6, s3, h31, h32, h33⟩
          have s6 := hg6.size
          have M6 := hid (M5.out.gr hg6)
          have G6 := hid (G5.out.trans hg6)
          have OW6 : Hid (w6.ownsRow wp.heap.size 3 1 (.slice A5 ws.length c5) ws.length (ws.map (Value.int .i64))) := own_gr (own_lowL OW5.out (by simp; omega)) hg6 (fun b hb => by have := LOW.out b hb; omega)
          have R6 : Hid (RUp R s ((3 * k + x + 1) * D) w6) := by
            refine ⟨s3, by have := S2.out; omega, ?_, h33⟩
            have h1 := S2.out.2.1
            have h2 : tails.length * ((heads ++ r2).length + 1) ≤ D := by
              rw [HD.out, Nat.mul_comm 7]
              exact Nat.mul_le_mul_left _ (by have := HL2.out; omega)
            rw [Nat.add_mul (3 * k + x) 1 D, Nat.one_mul]
            omega
          obtain ⟨st, hst⟩ : ∃ st, st = stateL T tails (heads ++ r2) ws := ⟨_, rfl⟩
          have HST := hid hst
          rw [← hst]
          obtain ⟨tb, htb⟩ : ∃ tb : Bool, tb = decide (st < 0) := ⟨_, rfl⟩
          have TB := hid htb
          have e9 : decide (st < 0) = tb := htb.symm
          clear hg6 h31 h32 h33 hst htb
          go_upto_if 36 with fail
          go_cut [] (fun wx => ∃ (hv3 : Value) (hc3 : List Value) (r3 : List (List Int)), k < (heads ++ r3).length ∧ Hid (HeadsOk T tails n (heads ++ r3)) ∧ Hid (∀ j, j < k → ∀ x : Nat, x < n → 0 ≤ stateL T tails (heads ++ r3) (rowAt (heads ++ r3) j ++ [(x : Int)])) ∧ Hid (∀ y : Nat, y < x + 1 → 0 ≤ stateL T tails (heads ++ r3) (rowAt (heads ++ r3) k ++ [(y : Int)])) ∧ Hid (TMem fid caps r n bt W0.heap.size hv3 tv hc3 tc (heads ++ r3) tails wx) ∧ Hid (W0.grownBy wx r) ∧ Hid (RUp R s ((3 * k + x + 1) * D) wx))
          case first =>
            clear e9
            cases tb with
            | true =>
              have hneg : st < 0 := of_decide_eq_true TB.out.symm
              have NEG : Hid (stateL T tails (heads ++ r2) (rowAt (heads ++ r2) k ++ [(x : Int)]) < 0) := by
                show _ < _
                have := HST.out
                rw [HWS.out, HK'.out] at this
                rw [← this]; exact hneg
              have HN : Hid (HeadsOk T tails n ((heads ++ r2) ++ [ws])) := by
                show HeadsOk _ _ _ _
                rw [HWS.out, HK'.out]
                exact hH2.out.snoc KK.out hxn NEG.out
              have o6 := M6.out.o1
              rw [← HL2.out] at o6
              have O6 := hid o6
              have c6 := (Has.cell M6.out.box 2).trans rfl
              have f6 := Has.froz M6.out.box 2
              have lb6 := M6.out.lt
              have OB := hid (O6.out.alloc (.cells #[.slice A5 ws.length c5] 29))
              have C1 : Hid (CellsIn (fun b => b = w6.heap.size) (w6.alloc (.cells #[.slice A5 ws.length c5] 29)) 1 (.slice (some ⟨w6.heap.size, 0, none⟩) 1 1) 1 [.slice A5 ws.length c5]) := cells_one w6 _ _
              have IU : Hid (IntsIn .i64 (LF W0.heap.size bt (.slice (some ⟨g, 0, none⟩) L2 c2) tv w6) w6 (.slice A5 ws.length c5) ws) :=
                (ints_of_own OW6.out WFS.out).more fun b hb => by
                  have l1 := hM2.out.lt
                  refine ⟨by omega, hb.2, by omega, fun e => ?_, fun e => ?_⟩
                  · have := own_lt hM2.out.o1 b e; omega
                  · have := own_lt hM2.out.o2 b e; omega
              have B1' := hid M6.out.b1
              have lo6 : W0.heap.size ≤ w6.heap.size := by omega
              clear hneg o6
              go_wp2_with (at_builtin; refine wpList_app _ rfl (.tmp 41) (.tmp 43) 22 rfl W0.heap.size 29 i1 (.slice none 0 0) 1 24 Try.underlying22 hi1 hy0 hy1 hy2 rfl (by decide) (.slice (some ⟨g, 0, none⟩) L2 c2) L2 hc2 rfl (by exact OB.out) _ (.slice (some ⟨w6.heap.size, 0, none⟩) 1 1) 1 [.slice A5 ws.length c5] rfl (by exact C1.out) (by intro u hu; simp at hu; subst hu; rfl) (by unfold maxLen; omega) (by omega) (by show W0.heap.size ≤ (w6.alloc _).heap.size; simp; omega) ?_; intro v7 w7 hown7 hgrow7 hat7; have G7 : Hid (w6.grownBy w7 (Value.ownBlock (.slice (some ⟨g, 0, none⟩) L2 c2))) := (World.grownBy_alloc w6 _ _).trans ⟨hgrow7.os, hgrow7.tape, hgrow7.output, hgrow7.size, hgrow7.block⟩; have AT7 : Hid (v7.ownBlock = (Value.slice (some ⟨g, 0, none⟩) L2 c2).ownBlock ∨ ∃ b, v7.ownBlock = some b ∧ w6.heap.size ≤ b) := hat7.imp id (fun e => ⟨_, e, by simp⟩); have OW7 := hid hown7; have c7 : w7.cell? ⟨bt, 2, none⟩ = some (.slice (some ⟨g, 0, none⟩) L2 c2) := (World.cell?_of_block (a := ⟨bt, 2, none⟩) (G7.out.block bt lb6 (fun e => B1'.out e.symm))).trans c6; have f7 : w7.frozen? ⟨bt, 2, none⟩ = false := (World.frozen?_of_block (a := ⟨bt, 2, none⟩) (G7.out.block bt lb6 (fun e => B1'.out e.symm))).trans f6; obtain ⟨A7, c7', rfl, _, _⟩ := own_slL hown7; clear hown7 hgrow7 hat7)
              have M8 := hid (M6.out.headApp (by rw [← HL2.out]; exact OW7.out) G7.out AT7.out IU.out)
              have G8 : Hid (W0.grownBy (w7.setCell ⟨bt, 2, none⟩ (.slice A7 (L2 + 1) c7')) r) := by
                have g1 := gr_own0 G6.out G7.out (fun b hb => own_ge O6.out b hb)
                exact ⟨g1.os, g1.tape, g1.output, by have := g1.size; simpa using this, fun b hb hr => (Below.heap_setCell w7 _ _ b (by have := M6.out.lo; show b ≠ bt; omega)).trans (g1.block b hb hr)⟩
              have R8 : Hid (RUp R s ((3 * k + x + 1) * D) (w7.setCell ⟨bt, 2, none⟩ (.slice A7 (L2 + 1) c7'))) := by
                obtain ⟨s', h1, h2, h3⟩ := R6.out
                refine ⟨s', h1, h2, HTT.out.keep _ _ _ h3 fun b hb => ?_⟩
                have l1 := M6.out.lo
                exact (Below.heap_setCell w7 _ _ b (by show b ≠ bt; omega)).trans (G7.out.block b (by omega) (fun e => by have := own_ge O6.out b e.symm; omega))
              go_meet
              case rel =>
                refine ⟨_, _, r2 ++ [ws], by rw [← List.append_assoc, List.length_append]; have := KK.out; omega, by rw [← List.append_assoc]; exact HN.out, fun j hj y hy => ?_, fun y hy => ?_, by rw [← List.append_assoc]; exact M8.out, G8, R8⟩
                · rw [← List.append_assoc, rowAt_app_lt (by have := KK.out; omega), stateL_app (hC2.out j hj y hy)]
                  exact hC2.out j hj y hy
                · rw [← List.append_assoc, rowAt_app_lt KK.out]
                  by_cases e : y = x
                  · subst e
                    have hself : stateL T tails ((heads ++ r2) ++ [ws]) (rowAt (heads ++ r2) k ++ [(y : Int)]) = ((heads ++ r2).length : Nat) := by
                      refine rIx_at (by simp) ?_ fun j hj => ?_
                      · rw [rowAt_snoc_eq]
                        rw [HWS.out, HK'.out]; simp
                      · rw [rowAt_snoc_lt hj]
                        have h1 := HN.out.dis j (heads ++ r2).length hj (by simp)
                        rw [rowAt_snoc_lt hj, rowAt_snoc_eq] at h1
                        rw [HWS.out, HK'.out] at h1
                        exact decide_eq_false h1
                    rw [hself]; omega
                  · rw [stateL_app (hX2.out y (by omega))]
                    exact hX2.out y (by omega)
            | false =>
              have hneg : ¬ st < 0 := of_decide_eq_false TB.out.symm
              have GE : Hid (0 ≤ stateL T tails (heads ++ r2) (rowAt (heads ++ r2) k ++ [(x : Int)])) := by
                show _ ≤ _
                have := HST.out
                rw [HWS.out, HK'.out] at this
                rw [← this]; omega
              clear hneg
              go_wp2_with fail
              go_meet
              case rel =>
                refine ⟨_, _, r2, KK.out, hH2, hC2, fun y hy => ?_, M6, G6, R6⟩
                by_cases e : y = x
                · subst e; exact GE.out
                · exact hX2.out y (by omega)
          case rest =>
            clear e9
            obtain ⟨hv3, hc3, r3, hk3, hH3, hC3, hX3, hM3, hG3, hR3⟩ := hcut
            have H63 := HMX.out _ hH3.out
            obtain ⟨L3, hL3⟩ : ∃ L, L = (heads ++ r3).length := ⟨_, rfl⟩
            have HL3 := hid hL3
            rw [← hL3] at H63
            have o1 := hM3.out.o1
            rw [← hL3] at o1
            obtain ⟨A3, c3, rfl, _, _⟩ := own_slL o1
            have ch := (Has.cell hM3.out.box 2).trans rfl
            have K3 := hid hk3
            have j9 : ¬ (6 : Int) < (L3 : Int) := by omega
            have d9 : decide ((6 : Int) < (L3 : Int)) = false := decide_eq_false j9
            clear o1 hL3 hk3
            go_wp2_with fail
            go_roundw
            case rel => exact ⟨x + 1, _, hc3, r3, by go_num, by omega, K3.out, hH3, hC3, hX3, hM3, hG3, hR3⟩
            case measure => simp [intOf]; omega
        · obtain rfl : x = n := by omega
          clear ch o1 hL2
          go_wp2_with fail
          go_roundw
          case rel => exact ⟨k + 1, _, hc2, r2, by go_num, by have := KK.out; omega, hH2, fun j hj y hy => by
            by_cases e : j = k
            · subst e; exact hX2.out y hy
            · exact hC2.out j (by omega) y hy, hM2, hG2, by
            obtain ⟨s', h1, h2, h3⟩ := hR2.out
            refine ⟨s', h1, Nat.le_trans h2 (Nat.add_le_add_left (Nat.mul_le_mul_right D (by omega)) s), h3⟩⟩
          case measure => simp [intOf]; have := KK.out; have := HL2.out; omega
    · have hkL : k = L1 := by omega
      have P : Hid (ClosedPost T fid caps r R n bt W0 tv tc heads tails s (.returned (.bool true)) wr) := by
        refine ⟨rfl, _, _, r1, ⟨hH1.out, fun j hj x hx => hC1.out j (by have := HL1.out; omega) x hx⟩, hM1.out, hG1.out, ?_⟩
        obtain ⟨s', h1, h2, h3⟩ := hR1.out
        refine ⟨s', h1, ?_, h3⟩
        have h4 : 3 * k * D ≤ 18 * D := Nat.mul_le_mul_right D (by omega)
        have := HD.out
        omega
      have i1' : ¬ (k : Int) < (L1 : Int) := by omega
      clear hkL
      go_wp2_with fail
      go_ret
      exact P.out
end Go.Proofs.Ytkcggmhllijgcaa
