/- What table.row, same and table.state of package learn return. Condition: the contract of the function value that is asked. -/
import Derived.Test.YtkcggmhllijgcaaDoorLqt
import Derived.Test.YtkcggmhllijgcaaDoorLsi
import Derived.Test.YtkcggmhllijgcaaDoorEql
namespace Go.Proofs.YtkcggmhllijgcaaDoor
open Go.RowKit Go.Deep
theorem gr_own {w w5 w2 : World} {r row : Option Nat} {o : Obj} (h : w.grownBy w5 r) (hg : (w5.alloc o).grownBy w2 row) (hr : ∀ b, row = some b → w.heap.size ≤ b) : w.grownBy w2 r :=
  ⟨hg.os.trans h.os, hg.tape.trans h.tape, hg.output.trans h.output, by have := hg.size; have := h.size; simp at *; omega, fun k hk hkr =>
    (hg.block k (by have := h.size; simp; omega) (fun e => by have := hr k e.symm; omega)).trans ((Below.heap_alloc w5 o k (by have := h.size; omega)).trans (h.block k hk hkr))⟩
theorem gr_own0 {w w5 w2 : World} {r row : Option Nat} (h : w.grownBy w5 r) (hg : w5.grownBy w2 row) (hr : ∀ b, row = some b → w.heap.size ≤ b) : w.grownBy w2 r :=
  ⟨hg.os.trans h.os, hg.tape.trans h.tape, hg.output.trans h.output, by have := hg.size; have := h.size; omega, fun k hk hkr =>
    (hg.block k (by have := h.size; omega) (fun e => by have := hr k e.symm; omega)).trans (h.block k hk hkr)⟩
/-- a row of rows that the call owns, as it is built -/
def OutR (B : Nat) (ov : Value) (ll : List (List Int)) (w : World) : Prop :=
  ∃ cs, w.ownsRow B 29 1 ov ll.length cs ∧ RowCells (fun b => B ≤ b ∧ b < w.heap.size ∧ ov.ownBlock ≠ some b) w cs ll
theorem OutR.nil_ (B : Nat) (w : World) : OutR B (.slice none 0 0) [] w := ⟨[], World.ownsRow_nil _ _ _ _, fun i hi => by simp at hi⟩
theorem OutR.gr {B : Nat} {ov : Value} {ll : List (List Int)} {w w' : World} {r : Option Nat} (h : OutR B ov ll w) (hg : w.grownBy w' r) (hr : ∀ b, r = some b → b < B) : OutR B ov ll w' := by
  obtain ⟨cs, h1, h2⟩ := h
  exact ⟨cs, own_gr h1 hg hr, (h2.keep fun b hb => gr_block hg hb.2.1 fun e => by have := hr b e.symm; have := hb.1; omega).more fun b hb => ⟨hb.1, Nat.lt_of_lt_of_le hb.2.1 hg.size, hb.2.2⟩⟩
theorem OutR.rows {B : Nat} {ov : Value} {ll : List (List Int)} {w : World} (h : OutR B ov ll w) : RowsIn (fun b => B ≤ b ∧ b < w.heap.size) w ov ll := by
  obtain ⟨cs, h1, h2⟩ := h
  exact rows_of_own h1 rfl (h2.more fun b hb => ⟨hb.1, hb.2.1⟩) fun b hb hb2 => ⟨hb, hb2⟩
theorem OutR.app {B : Nat} {ov v2 u : Value} {ll : List (List Int)} {row : List Int} {w w2 : World} {o : Obj} {cs : List Value} (h1 : w.ownsRow B 29 1 ov ll.length cs) (h2 : RowCells (fun b => B ≤ b ∧ b < w.heap.size ∧ ov.ownBlock ≠ some b) w cs ll)
    (hu : IntsIn .i64 (fun b => B ≤ b ∧ b < w.heap.size ∧ ov.ownBlock ≠ some b) w u row) (hown : w2.ownsRow B 29 1 v2 (ll.length + 1) (cs ++ [u])) (hg : (w.alloc o).grownBy w2 ov.ownBlock) (hat : v2.ownBlock = ov.ownBlock ∨ v2.ownBlock = some (w.alloc o).heap.size) : OutR B v2 (ll ++ [row]) w2 := by
  have hs : Same (fun b => B ≤ b ∧ b < w.heap.size ∧ ov.ownBlock ≠ some b) w w2 := fun b hb => (hg.block b (by have := hb.2.1; simp; omega) (fun e => hb.2.2 e.symm)).trans (Below.heap_alloc w o b hb.2.1)
  have s2 := hg.size
  have hm : ∀ b, (B ≤ b ∧ b < w.heap.size ∧ ov.ownBlock ≠ some b) → (B ≤ b ∧ b < w2.heap.size ∧ v2.ownBlock ≠ some b) := fun b hb => by
    refine ⟨hb.1, by have := hb.2.1; simp at s2; omega, fun e => ?_⟩
    rcases hat with k | k
    · exact hb.2.2 (k ▸ e)
    · rw [k] at e; injection e with e; have := hb.2.1; simp at e; omega
  refine ⟨cs ++ [u], by rw [List.length_append]; exact hown, ?_⟩
  exact ((h2.snoc (by have := h1.1; omega) hu).keep hs).more hm
theorem rowL_len (T : List Int → List Int) (tails : List (List Int)) (h : List Int) : (rowL T tails h).length = tails.length := by unfold rowL; simp
theorem rowL_take (T : List Int → List Int) (tails : List (List Int)) (h : List Int) {j : Nat} (hj : j < tails.length) : rowL T (tails.take (j + 1)) h = rowL T (tails.take j) h ++ [toldF T h (rowAt tails j)] := by
  unfold rowL
  rw [List.take_succ_eq_append_getElem hj, List.map_append]
  unfold rowAt
  rw [List.getD_eq_getElem?_getD, List.getElem?_eq_getElem hj]; rfl
def RowPost (T : List Int → List Int) (r : Option Nat) (R : Nat → World → Prop) (tails : List (List Int)) (hd : List Int) (s : Nat) (w : World) (e : Ending) (w' : World) : Prop :=
  ∃ u, e = .returned u ∧ RowsIn (fun b => w.heap.size ≤ b ∧ b < w'.heap.size) w' u (rowL T tails hd) ∧ w.grownBy w' r ∧ R (s + tails.length) w'
/-- words that may be asked behind one -/
structure AskOk (n : Nat) (tails : List (List Int)) (hd : List Int) : Prop where
  len : ∀ t ∈ tails, hd.length + t.length ≤ 100
  ltr : ∀ t ∈ tails, ∀ x ∈ t, 0 ≤ x ∧ x < (n : Int)
  hltr : ∀ x ∈ hd, 0 ≤ x ∧ x < (n : Int)
  tl : tails.length ≤ 1000
set_option maxRecDepth 100000 in
set_option maxHeartbeats 2000000 in
theorem row_any {fid : FuncId} {caps : Array Value} {T : List Int → List Int} {n : Nat} {r : Option Nat} {R : Nat → World → Prop} {B0 : Nat} (HT : TellsOk fid caps T n r R B0) (hd : List Int) (bt : Nat) (hv tv : Value) (heads tails : List (List Int)) (hvv : Value) (s : Nat) (w : World)
    (hM : TIn fid caps r n bt hv tv heads tails w) (hR : R s w) (hB : B0 ≤ w.heap.size) (hh : IntsIn .i64 (Fx r w) w hvv hd) (ha : AskOk n tails hd) :
    Calls Tryd.prog 52 #[.pointer (some ⟨bt, 0, none⟩), hvv] w (RowPost T r R tails hd s w) := by
  have HTT := hid HT
  have HR := hid hR
  have HH := hid hh
  have HA := hid ha
  have HM := hid hM
  have k1 := (Has.cell hM.box 3).trans rfl
  have LOW : Hid (∀ b, r = some b → b < w.heap.size) := fun b hb => by have := HT.low b hb; omega
  have TL := ha.tl
  obtain ⟨i1, hi1, hy0, hy1, hy2⟩ := info_parts infoRowL
  obtain ⟨At, ct, rfl, htc, htt⟩ := hM.ts
  obtain ⟨A1, c1, rfl, _, _, _⟩ := hh
  have HTS := hid htt
  unfold maxLen at htc
  clear HT hR hM ha htt
  go_enter Tryd.func52, Tryd.ntmps52
  go_wp2_with fail
  go_loopw [5, 13] (fun ov ji wr => ∃ j : Nat, j ≤ tails.length ∧ ji = .int .i64 j ∧ Hid (OutR w.heap.size ov (rowL T (tails.take j) hd) wr) ∧ Hid (w.grownBy wr r) ∧ Hid (R (s + j) wr)) (fun _ ji _ => tails.length - (intOf ji).toNat)
  case atStart => exact ⟨0, Nat.zero_le _, rfl, OutR.nil_ _ _, World.grownBy.refl _ _, HR.out⟩
  case round =>
    obtain ⟨j, hj, rfl, hO, hG, hRj⟩ := hrel
    have sB := hG.out.size
    obtain ⟨cs, ho1, ho2⟩ := hO.out
    have lj : (rowL T (tails.take j) hd).length = j := by rw [rowL_len, List.length_take]; omega
    have HO1 := hid ho1
    have HO2 := hid ho2
    rw [lj] at ho1
    obtain ⟨Ao, co, rfl, hco1, hco2⟩ := own_slL ho1
    by_cases hlt : j < tails.length
    · obtain ⟨b, o, rfl, hFb, hcc⟩ := HTS.out (by omega)
      obtain ⟨tv', ht1, ht2⟩ := hcc j hlt
      have c2 := (World.cell?_of_block (a := ⟨b, o + j, none⟩) (gr_block hG.out hFb.1 hFb.2)).trans ht1
      have HT2 := hid ht2
      obtain ⟨A2, cp2, rfl, _, _, _⟩ := ht2
      have i1' : (j : Int) < (tails.length : Int) := by omega
      have TM9 := hid (rowAt_mem hlt)
      have RT := hid (rowL_take T tails hd hlt)
      clear hcc ht1 ho1 ho2
      obtain ⟨wo, hwo⟩ : ∃ wo, wo = wr := ⟨_, rfl⟩
      subst hwo
      go_wp2_with fail
      refine (tellT_any HTT.out hd (rowAt tails j) bt hv (.slice (some ⟨b, o, none⟩) tails.length ct) heads tails _ _ (s + j) wo (HM.out.gr hG.out) hRj.out (by omega) (ints_gr HH.out hG.out) (ints_gr HT2.out hG.out) (HA.out.len _ TM9.out) (fun x hx => by
        rcases List.mem_append.1 hx with h | h
        · exact HA.out.hltr x h
        · exact HA.out.ltr _ TM9.out x h)).mono ?_
      rintro e w5 ⟨u5, rfl, ho5, hw5, hg5, hr5⟩
      have s5 := hg5.size
      have LO5 : Hid (∀ b, r = some b → b < wo.heap.size) := fun b hb => by have := LOW.out b hb; omega
      have G5 := hid (hG.out.trans hg5)
      have R5 := hid hr5
      have O5 : Hid (w5.ownsRow w.heap.size 29 1 (.slice Ao j co) j cs) := by
        have := own_gr HO1.out hg5 LOW.out
        rw [lj] at this; exact this
      have C5 : Hid (RowCells (fun b => w.heap.size ≤ b ∧ b < w5.heap.size ∧ (Value.slice Ao j co).ownBlock ≠ some b) w5 cs (rowL T (tails.take j) hd)) :=
        (HO2.out.keep fun b hb => gr_block hg5 hb.2.1 fun e => by have := LOW.out b e.symm; have := hb.1; omega).more fun b hb => ⟨hb.1, Nat.lt_of_lt_of_le hb.2.1 hg5.size, hb.2.2⟩
      have lo9 := hid (own_lt HO1.out)
      have I5 : Hid (IntsIn .i64 (fun b => w.heap.size ≤ b ∧ b < w5.heap.size ∧ (Value.slice Ao j co).ownBlock ≠ some b) w5 u5 (toldF T hd (rowAt tails j))) :=
        (ints_of_own ho5 hw5).more fun b hb => ⟨by omega, hb.2, fun e => by have := lo9.out b e; omega⟩
      obtain ⟨A5, c5, rfl, _, _⟩ := own_slL ho5
      clear ho5 hw5 hg5 hr5 c2
      obtain ⟨L5, hL5⟩ : ∃ L, L = (toldF T hd (rowAt tails j)).length := ⟨_, rfl⟩
      rw [← hL5] at I5 ⊢
      have OB := hid (O5.out.alloc (.cells #[.slice A5 L5 c5] 29))
      have C1 : Hid (CellsIn (fun b => b = w5.heap.size) (w5.alloc (.cells #[.slice A5 L5 c5] 29)) 1 (.slice (some ⟨w5.heap.size, 0, none⟩) 1 1) 1 [.slice A5 L5 c5]) := cells_one w5 _ _
      clear hL5
      go_wp2_with (at_builtin; refine wpList_app _ rfl (.tmp 17) (.tmp 22) 22 rfl w.heap.size 29 i1 (.slice none 0 0) 1 24 Tryd.underlying22 hi1 hy0 hy1 hy2 rfl (by decide) (.slice Ao j co) j cs rfl (by exact OB.out) _ (.slice (some ⟨w5.heap.size, 0, none⟩) 1 1) 1 [.slice A5 L5 c5] rfl (by exact C1.out) (by intro u hu; simp at hu; subst hu; rfl) (by unfold maxLen; omega) (by omega) (by show w.heap.size ≤ (w5.alloc _).heap.size; simp; omega) ?_; intro v2 w2 hown2 hgrow2 hat2; have N2 : Hid (OutR w.heap.size v2 (rowL T (tails.take (j + 1)) hd) w2) := (by show OutR _ _ _ _; rw [RT.out]; exact OutR.app (by rw [lj]; exact O5.out) C5.out I5.out (by rw [lj]; exact hown2) hgrow2 hat2); have G2 : Hid (w.grownBy w2 r) := (by show World.grownBy _ _ _; exact gr_own G5.out hgrow2 fun b hb => own_ge HO1.out b (by rw [← hb])); have R2 : Hid (R (s + (j + 1)) w2) := (by show R _ _; have h9 := HTT.out.keep _ _ w2 R5.out (fun b hb => (hgrow2.block b (by show b < (w5.alloc _).heap.size; simp; omega) (fun e => by have := own_ge HO1.out b e.symm; omega)).trans (Below.heap_alloc w5 _ b (by omega))); exact h9); clear hown2 hgrow2 hat2)
      go_roundw
      case rel => exact ⟨j + 1, by omega, by go_num, N2, G2, R2⟩
      case measure => simp [intOf]; omega
    · obtain rfl : j = tails.length := by omega
      rw [List.take_length] at hO
      have P := hid (hO.out.rows)
      clear ho1 ho2
      go_wp2_with fail
      go_ret
      exact ⟨_, rfl, P.out, hG.out, hRj.out⟩
end Go.Proofs.YtkcggmhllijgcaaDoor
