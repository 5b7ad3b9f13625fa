/- What wset.Suite returns of a right machine: words that reach each state, letters behind, and words that tell apart. No conditions beyond that. -/
import Derived.Test.YtkcggmhllijgcaaDoorSum
import Derived.Test.YtkcggmhllijgcaaDoorSea
import Derived.BigQuiet
import Derived.Deep.DeepCutAuto
namespace Go.Proofs.YtkcggmhllijgcaaDoor
open Go.RowKit Go.Deep
/-- two rows that grow by turns, of the call's own and apart -/
structure RS (B : Nat) (ov sv : Value) (reach : List (List Int)) (seen : List Int) (cs : List Value) (w : World) : Prop where
  ro : w.ownsRow B 29 1 ov reach.length cs
  rc : RowCells (fun b => B ≤ b ∧ b < w.heap.size ∧ ov.ownBlock ≠ some b ∧ sv.ownBlock ≠ some b) w cs reach
  so : w.ownsRow B 3 1 sv seen.length (seen.map (Value.int .i64))
  ne : ∀ b, ov.ownBlock = some b → sv.ownBlock ≠ some b
theorem RS.below {B : Nat} {ov sv : Value} {reach : List (List Int)} {seen : List Int} {cs : List Value} {w w' : World} (h : RS B ov sv reach seen cs w) (hb : Below w.heap.size w w') : RS B ov sv reach seen cs w' :=
  ⟨own_below h.ro hb, (h.rc.keep fun b hb' => hb.block b hb'.2.1).more fun b hb' => ⟨hb'.1, Nat.lt_of_lt_of_le hb'.2.1 hb.size, hb'.2.2⟩, own_below h.so hb, h.ne⟩
theorem RS.seen {B : Nat} {ov sv sv' : Value} {reach : List (List Int)} {seen : List Int} {y : Int} {cs : List Value} {w w' : World} {o : Obj} (h : RS B ov sv reach seen cs w)
    (hown : w'.ownsRow B 3 1 sv' (seen.length + 1) (seen.map (Value.int .i64) ++ [.int .i64 y])) (hg : (w.alloc o).grownBy w' sv.ownBlock) (hat : sv'.ownBlock = sv.ownBlock ∨ sv'.ownBlock = some (w.alloc o).heap.size) : RS B ov sv' reach (seen ++ [y]) cs w' := by
  have hs : ∀ b, b < w.heap.size → sv.ownBlock ≠ some b → w'.heap[b]? = w.heap[b]? := fun b h1 h2 => (hg.block b (by simp; omega) (fun e => h2 e.symm)).trans (Below.heap_alloc w o b h1)
  have s2 := hg.size
  have hn : ∀ b, b < w.heap.size → sv.ownBlock ≠ some b → sv'.ownBlock ≠ some b := fun b h1 h2 e => by
    rcases hat with k | k
    · exact h2 (k ▸ e)
    · rw [k] at e; injection e with e; simp at e; omega
  refine ⟨own_keep h.ro fun b hb => hs b (own_lt h.ro b hb) (h.ne b hb), (h.rc.keep fun b hb => hs b hb.2.1 hb.2.2.2).more fun b hb => ⟨hb.1, ?_, hb.2.2.1, hn b hb.2.1 hb.2.2.2⟩, by simpa using hown, fun b hb => hn b (own_lt h.ro b hb) (h.ne b hb)⟩
  have := hb.2.1; simp at s2; omega
theorem RS.row {B : Nat} {ov ov' sv u : Value} {reach : List (List Int)} {row seen : List Int} {cs : List Value} {w w' : World} {o : Obj} (h : RS B ov sv reach seen cs w)
    (hu : IntsIn .i64 (fun b => B ≤ b ∧ b < w.heap.size ∧ ov.ownBlock ≠ some b ∧ sv.ownBlock ≠ some b) w u row)
    (hown : w'.ownsRow B 29 1 ov' (reach.length + 1) (cs ++ [u])) (hg : (w.alloc o).grownBy w' ov.ownBlock) (hat : ov'.ownBlock = ov.ownBlock ∨ ov'.ownBlock = some (w.alloc o).heap.size) : RS B ov' sv (reach ++ [row]) seen (cs ++ [u]) w' := by
  have hs : ∀ b, b < w.heap.size → ov.ownBlock ≠ some b → w'.heap[b]? = w.heap[b]? := fun b h1 h2 => (hg.block b (by simp; omega) (fun e => h2 e.symm)).trans (Below.heap_alloc w o b h1)
  have s2 := hg.size
  have hn : ∀ b, b < w.heap.size → ov.ownBlock ≠ some b → ov'.ownBlock ≠ some b := fun b h1 h2 e => by
    rcases hat with k | k
    · exact h2 (k ▸ e)
    · rw [k] at e; injection e with e; simp at e; omega
  have hm : ∀ b, (B ≤ b ∧ b < w.heap.size ∧ ov.ownBlock ≠ some b ∧ sv.ownBlock ≠ some b) → (B ≤ b ∧ b < w'.heap.size ∧ ov'.ownBlock ≠ some b ∧ sv.ownBlock ≠ some b) := fun b hb => ⟨hb.1, by have := hb.2.1; simp at s2; omega, hn b hb.2.1 hb.2.2.1, hb.2.2.2⟩
  refine ⟨by rw [List.length_append]; exact hown, ?_, own_keep h.so fun b hb => hs b (own_lt h.so b hb) (fun e => h.ne b e hb), fun b hb e => ?_⟩
  · exact ((h.rc.snoc (by have := h.ro.1; omega) hu).keep fun b hb => hs b hb.2.1 hb.2.2.1).more hm
  · rcases hat with k | k
    · exact h.ne b (by rw [← k]; exact hb) e
    · rw [k] at hb; injection hb with hb; have := own_lt h.so b e; simp at hb; omega
theorem RS.rows {B : Nat} {ov sv : Value} {reach : List (List Int)} {seen : List Int} {cs : List Value} {w : World} (h : RS B ov sv reach seen cs w) : RowsIn (fun b => B ≤ b ∧ b < w.heap.size) w ov reach :=
  rows_of_own h.ro rfl (h.rc.more fun b hb => ⟨hb.1, hb.2.1⟩) fun b hb hb2 => ⟨hb, hb2⟩
theorem Short.mono {n k : Nat} {ll : List (List Int)} (h : Short n ll) (hk : n ≤ k) : Short k ll := fun x hx => ⟨(h x hx).1, Nat.le_trans (h x hx).2 hk⟩
theorem OutR.one {w : World} {B : Nat} (hB : B ≤ w.heap.size) : OutR B (.slice (some ⟨w.heap.size, 0, none⟩) 1 1) [[]] (w.alloc (.cells #[.slice none 0 0] 29)) := by
  refine ⟨[.slice none 0 0], own_lowL (World.ownsRow_lit (e := 29) (size := 1) (base := w.heap.size) w #[.slice none 0 0] 1 (Nat.le_refl _) (by unfold maxLen; omega) rfl) hB, fun i hi => ?_⟩
  obtain rfl : i = 0 := by simpa using hi
  exact ⟨_, rfl, IntsIn.nil_⟩
def SuitePost (m : MachD) (x : Nat) (w : World) (e : Ending) (w' : World) : Prop := ∃ r seen reach, e = .returned (.tuple #[r, .nilIface]) ∧ Reach m seen.length 0 seen reach ∧ RowsIn (Fresh w w') w' r (suiteL m x reach) ∧ Below w.heap.size w w'
set_option maxRecDepth 100000 in
set_option maxHeartbeats 4000000 in
theorem suite_ok (m : MachD) (x : Nat) (F : Nat → Prop) (v : Value) (W : World) (hF : ∀ b, F b → b < W.heap.size) (h : MachIn F W v m) (g : Good m) (hx : x ≤ 2) :
    Calls Tryd.prog 19 #[v, .int .i64 x] W (SuitePost m x W) := by
  have HF := hid hF
  have HM := hid h
  have G := hid g
  have g1 : 0 < m.out.length := g.pos
  have i1 := g.ins1
  have i3 := g.ins3
  obtain ⟨o, nxv, rfl, ⟨Ao, co, rfl, -, hro⟩, ⟨An, cn, rfl, -, hrn⟩⟩ := h
  have HRN := hid hrn
  obtain ⟨d1, f1, rfl, hd1, h1⟩ := hro g1
  obtain ⟨r1, q1, hr1⟩ := h1 0 g1
  rw [Nat.add_zero] at q1
  obtain ⟨G1, k1, rfl, -, -, -⟩ := hr1
  have HD1 := hid (HF.out d1 hd1)
  clear hF h1 hd1 g hrn hro
  obtain ⟨n, hn⟩ : ∃ n, n = ins m := ⟨_, rfl⟩
  have HN := hid hn
  have IN : Hid ((rowAt m.out 0).length = n) := hn.symm
  rw [IN.out] at q1
  rw [← hn] at i1 i3
  clear hn
  obtain ⟨w1, hw1⟩ : ∃ w1, w1 = W.alloc (.cells #[.slice (some ⟨d1, f1, none⟩) m.out.length co, .slice An m.next.length cn] 24) := ⟨_, rfl⟩
  obtain ⟨bm, hbm⟩ : ∃ b, b = W.heap.size := ⟨_, rfl⟩
  have HBM := hid hbm
  have s1 : w1.heap.size = W.heap.size + 1 := by rw [hw1]; simp
  have B1 : Hid (Below W.heap.size W w1) := by show Below _ _ _; rw [hw1]; exact (Below.refl _ _).alloc (Nat.le_refl _) _
  have X1 : Hid (w1.heap[bm]? = some (.cells #[.slice (some ⟨d1, f1, none⟩) m.out.length co, .slice An m.next.length cn] 24 (0, 0))) := by show _ = _; rw [hw1, hbm]; exact Has.new W _
  have V1 : Hid (MachIn F w1 (.agg #[.slice (some ⟨d1, f1, none⟩) m.out.length co, .slice An m.next.length cn]) m) := HM.out.keep (Same.of_below B1.out fun b h => HF.out b h)
  have x10 := (Has.cell X1.out 0).trans rfl
  have x11 := (Has.cell X1.out 1).trans rfl
  obtain ⟨iR, hiR, hzR0, hzR1, hzR2⟩ := info_parts infoRowL
  obtain ⟨i0, hi0, hz0, hz1, hz2⟩ := info_parts infoInt
  go_enter Tryd.func19, Tryd.ntmps19
  go_upto_region 1 with fail
  rw [← hw1, ← hbm]
  clear hw1 hbm
  go_wp2_with fail
  refine (set_ok m F _ w1 (fun b h => by have := HF.out b h; omega) V1.out G.out).mono ?_
  rintro e w2 ⟨rs, rfl, hset, hb2⟩
  have B2 := hid (B1.out.trans (hb2.mono (by omega)))
  have s2 := hb2.size
  have X2 := hid (Has.below X1.out hb2 (Has.lt X1.out))
  have HSET := hid hset
  have SL : Hid ((setL m).length ≤ 15) := by show _ ≤ _; have := setL_len m; have := G.out.le; have h3 : m.out.length * (m.out.length - 1) ≤ 6 * 5 := Nat.mul_le_mul this (by omega); omega
  obtain ⟨As, cs, rfl, -, -⟩ := hset
  have xx1 : ¬ (x : Int) < 0 := by omega
  have xx2 : ¬ (2 : Int) < (x : Int) := by omega
  clear hb2 x10 x11
  go_upto_region 6 with fail
  go_cut [33] from 31 to 33 (fun c wx => c = .bool (((setL m).length : Int) == 0) ∧ wx = w2)
  case first => as_aux_lemma =>
    go_wp2_with fail
    go_meet
    exact ⟨rfl, rfl⟩
  case rest =>
  obtain ⟨rfl, hwc⟩ := hcut
  subst wc
  refine ‹∀ (a : Act) (w : World), Code.wp _ _ _ a w → _› _ _ ?_
  go_cut [6] from 34 to 34 (fun sv wx => Hid (RowsIn (fun b => W.heap.size ≤ b ∧ b < wx.heap.size) wx sv (setW m)) ∧ Hid (Below w2.heap.size w2 wx))
  case first => as_aux_lemma =>
    by_cases h0 : setL m = []
    · have HL : (((setL m).length : Int) == 0) = true := by rw [h0]; rfl
      have SW : Hid (setW m = [[]]) := by show _ = _; unfold setW; rw [if_pos h0]
      clear h0
      go_wp2_with fail
      go_meet
      refine ⟨?_, (Below.refl _ _).alloc (Nat.le_refl _) _⟩
      show RowsIn _ _ _ _
      rw [SW.out]
      exact ((OutR.one (w := w2) (Nat.le_refl _)).rows).more fun b hb => ⟨by have := hb.1; omega, hb.2⟩
    · have SW : Hid (setW m = setL m) := by show _ = _; unfold setW; rw [if_neg h0]
      have hp : (((setL m).length : Int) == 0) = false := by
        rw [beq_eq_false_iff_ne]
        intro e
        exact h0 (List.eq_nil_of_length_eq_zero (by omega))
      clear h0
      go_wp2_with fail
      go_meet
      refine ⟨?_, Below.refl _ _⟩
      show RowsIn _ _ _ _
      rw [SW.out]
      exact HSET.out.more fun b hb => ⟨by have := hb.1; omega, hb.2⟩
  case rest =>
  obtain ⟨hsw, hbw⟩ := hcut
  have SW3 := hid hsw
  obtain ⟨A6, c6, rfl, -, -⟩ := hsw
  have s3 := hbw.size
  have B3 := hid (B2.out.trans (hbw.mono (by omega)))
  have X3 := hid (Has.below X2.out hbw (Has.lt X2.out))
  have x30 := (Has.cell X3.out 0).trans rfl
  have q3 := (B3.out.cell (p := ⟨d1, f1, none⟩) HD1.out).trans q1
  clear hbw
  obtain ⟨w4, hw4⟩ : ∃ w4, w4 = wc.alloc (.cells #[.slice none 0 0] 29) := ⟨_, rfl⟩
  obtain ⟨b4, hb4⟩ : ∃ b, b = wc.heap.size := ⟨_, rfl⟩
  have S4 : Hid (b4 = wc.heap.size ∧ w4.heap.size = wc.heap.size + 1) := by show _ ∧ _; exact ⟨hb4, by rw [hw4]; simp⟩
  have B34 : Hid (Below wc.heap.size wc w4) := by show Below _ _ _; rw [hw4]; exact (Below.refl _ _).alloc (Nat.le_refl _) _
  have L4 : Hid (OutR wc.heap.size (.slice (some ⟨b4, 0, none⟩) 1 1) (lettersL 0) w4) := by show OutR _ _ _ _; rw [hw4, hb4]; exact OutR.one (Nat.le_refl _)
  have q4 := (B34.out.cell (p := ⟨d1, f1, none⟩) (by have := HD1.out; have := B3.out.size; show d1 < _; omega)).trans q3
  have x40 := (B34.out.cell (p := ⟨bm, 0, none⟩) (Has.lt X3.out)).trans x30
  go_upto_region 9 with fail
  rw [← hw4, ← hb4]
  clear hw4 hb4 q3 x30
  go_upto_region 10 with fail
  clear q4 x40
  go_loopw [8, 41] (fun lv ji wr => ∃ j : Nat, j ≤ n ∧ ji = .int .i64 j ∧ Hid (OutR wc.heap.size lv (lettersL j) wr) ∧ Hid (Below wc.heap.size wc wr)) (fun _ ji _ => n - (intOf ji).toNat)
  case atStart => exact ⟨0, Nat.zero_le _, rfl, L4.out, B34.out⟩
  case round =>
    obtain ⟨j, hj, rfl, hO, hB⟩ := hrel
    clear L4 B34
    have sB := hB.out.size
    by_cases hlt : j < n
    · obtain ⟨wa, hwa⟩ : ∃ wa, wa = wr.alloc (.cells #[.int .i64 j] 3) := ⟨_, rfl⟩
      obtain ⟨ba, hba⟩ : ∃ b, b = wr.heap.size := ⟨_, rfl⟩
      have SA : Hid (ba = wr.heap.size ∧ wa.heap.size = wr.heap.size + 1) := by show _ ∧ _; exact ⟨hba, by rw [hwa]; simp⟩
      have QA : Hid (Below wr.heap.size wr wa) := by show Below _ _ _; rw [hwa]; exact (Below.refl _ _).alloc (Nat.le_refl _) _
      have XA : Hid (wa.heap[ba]? = some (.cells #[.int .i64 j] 3 (0, 0))) := by show _ = _; rw [hwa, hba]; exact Has.new wr _
      obtain ⟨cs0, ho1, ho2⟩ := hO.out
      have OWL := hid (own_lt ho1)
      have OGE := hid (own_ge ho1)
      clear ho1 ho2 cs0
      obtain ⟨cs1, ho1, ho2⟩ := hO.out.gr (gr_below QA.out none) (fun b e => by cases e)
      have OC := hid ho2
      have HO1 := hid ho1
      have ho1a := ho1.alloc (.cells #[.slice (some ⟨ba, 0, none⟩) 1 1] 29)
      have LL : Hid ((lettersL j).length = j + 1) := lettersL_len j
      have LS : Hid (lettersL (j + 1) = lettersL j ++ [[(j : Int)]]) := by show _ = _; unfold lettersL; rw [lettersN_succ]; rfl
      have IJ : Hid (IntsIn .i64 (fun b => wc.heap.size ≤ b ∧ b < wa.heap.size ∧ u8.ownBlock ≠ some b) wa (.slice (some ⟨ba, 0, none⟩) 1 1) [(j : Int)]) := by
        refine ints1 ⟨by have := SA.out; omega, by have := SA.out; omega, fun e => by have := OWL.out ba e; have := SA.out; omega⟩ ((Has.cell XA.out 0).trans rfl) (byte_wf ⟨by omega, by omega⟩)
      have ji : (j : Int) < (n : Int) := by omega
      have szA := QA.out.size
      clear ho1 ho2
      rw [LL.out] at ho1a
      go_wp2_with (at_builtin; go_loud (rw [← hwa, ← hba]; clear hwa hba; refine wpList_app _ rfl _ _ 22 rfl wc.heap.size 29 iR (.slice none 0 0) 1 24 Tryd.underlying22 hiR hzR0 hzR1 hzR2 rfl (by decide) u8 (j + 1) cs1 rfl ho1a _ _ 1 [.slice (some ⟨ba, 0, none⟩) 1 1] rfl (cells_oneAt _ _ _ (by have := SA.out; omega)) (by intro u hu; simp at hu; subst hu; rfl) (by unfold maxLen; omega) (by omega) (by simp; omega) ?_; intro v8 w8 hown8 hgrow8 hat8; rw [← LL.out] at hown8; have O8 := hid (OutR.app HO1.out OC.out IJ.out hown8 hgrow8 hat8); have B8 : Hid (Below wc.heap.size wc w8) := ((hB.out.trans (QA.out.mono sB)).alloc (by omega) _).grown hgrow8 (by simp; omega) OGE.out; clear hown8 hgrow8 hat8))
      go_roundw
      case rel =>
        refine ⟨j + 1, by omega, by go_num, ?_, B8⟩
        show OutR _ _ _ _
        rw [LS.out]; exact O8.out
      case measure => simp [intOf]; omega
    · obtain rfl : j = n := by omega
      clear hlt
      obtain ⟨wl, rfl⟩ : ∃ z : World, z = wr := ⟨_, rfl⟩
      have OL := hid hO.out
      have BL := hid (B3.out.trans (hB.out.mono (by have := B3.out.size; omega)))
      have sl := BL.out.size
      have LTR : Hid (RowsIn (fun b => b < wl.heap.size) wl u8 (lettersL j)) := hO.out.rows.more fun b hb => hb.2
      obtain ⟨A8, c8, rfl, -, -⟩ := hO.out.rows
      have SWL := hid ((SW3.out.keep (w' := wl) fun b hb => hB.out.block b hb.2).more (F' := fun b => b < wl.heap.size) fun b hb => by have := hb.2; omega)
      have XL := hid (Has.below X3.out hB.out (Has.lt X3.out))
      clear hO
      obtain ⟨w5, hw5⟩ : ∃ z, z = wl.alloc (.cells #[.slice none 0 0] 29) := ⟨_, rfl⟩
      obtain ⟨w6, hw6⟩ : ∃ z, z = w5.alloc (.cells #[.int .i64 0] 3) := ⟨_, rfl⟩
      obtain ⟨b5, hb5⟩ : ∃ b, b = wl.heap.size := ⟨_, rfl⟩
      obtain ⟨b6, hb6⟩ : ∃ b, b = wl.heap.size + 1 := ⟨_, rfl⟩
      have s5 : w5.heap.size = wl.heap.size + 1 := by rw [hw5]; simp
      have s6 : w6.heap.size = wl.heap.size + 2 := by rw [hw6]; simp; omega
      have Q6 : Hid (Below wl.heap.size wl w6) := by show Below _ _ _; rw [hw6, hw5]; exact ((Below.refl _ _).alloc (Nat.le_refl _) _).alloc (by simp) _
      have RS6 : Hid (RS wl.heap.size (.slice (some ⟨b5, 0, none⟩) 1 1) (.slice (some ⟨b6, 0, none⟩) 1 1) [[]] [0] [.slice none 0 0] w6) := by
        refine ⟨?_, fun i hi => ?_, ?_, fun b hb => ?_⟩
        · have := World.ownsRow_lit (e := 29) (size := 1) (base := wl.heap.size) wl #[.slice none 0 0] 1 (Nat.le_refl _) (by unfold maxLen; omega) rfl
          rw [← hw5, ← hb5] at this
          rw [hw6]
          exact hb5 ▸ this.alloc _
        · obtain rfl : i = 0 := by simpa using hi
          exact ⟨_, rfl, IntsIn.nil_⟩
        · have := World.ownsRow_lit (e := 3) (size := 1) (base := wl.heap.size) w5 #[.int .i64 0] 1 (by omega) (by unfold maxLen; omega) rfl
          rw [← hw6, show w5.heap.size = b6 by omega] at this
          exact this
        · simp [Value.ownBlock] at hb ⊢; omega
      go_upto_region 16 with fail
      rw [← hw5, ← hw6, ← hb6, ← hb5]
      clear hw5 hb5 hw6 hb6
      go_upto_region 17 with fail
      go_loopw [10, 11, 12] (fun rv sv ki wr => ∃ (k : Nat) (seen : List Int) (reach : List (List Int)) (cs : List Value), ki = .int .i64 k ∧ Hid (Reach m k 0 seen reach) ∧ Hid (RS wl.heap.size rv sv reach seen cs wr) ∧ Hid (Below wl.heap.size wl wr)) (fun _ _ ki _ => 7 - (intOf ki).toNat)
      case atStart => exact ⟨0, [0], [[]], [.slice none 0 0], rfl, Reach.start G.out, RS6, Q6⟩
      case round =>
        obtain ⟨k, seen, reach, cs, rfl, hRe, hRS, hBk⟩ := hrel
        clear RS6 Q6 s5 s6
        have EL := hRe.out.len
        have KL := hRe.out.kl
        have PL := hRe.out.pos
        have SLE := hRe.out.le
        have MLE := G.out.le
        have sk := hBk.out.size
        obtain ⟨g7, p7, rfl, hg7, hg7l, -, -, hc7⟩ := own_open hRS.out.ro (by omega)
        obtain ⟨g8, p8, rfl, hg8, hg8l, -, -, hc8⟩ := own_open hRS.out.so PL
        have HC7 := hid hc7
        have HC8 := hid hc8
        clear hc7 hc8
        by_cases hlt : k < seen.length
        · obtain ⟨s, hs⟩ : ∃ s, s = (at0 seen k).toNat := ⟨_, rfl⟩
          have ST := hRe.out.st hlt
          rw [← hs] at ST
          have HS := hid hs
          have ES := hid ST.2
          have NL := G.out.next
          have LT := hid ST.1
          obtain ⟨bN, oN, rfl, hbN, hcN⟩ := HRN.out (by omega)
          obtain ⟨rN, hrN, irN⟩ := hcN s (by omega)
          have LN := hid (HF.out bN hbN)
          have IRN := hid irN
          obtain ⟨AN, cN, rfl, -, -, hrow⟩ := irN
          have WB := hid (BL.out.trans (hBk.out.mono (by omega)))
          have y1 := (WB.out.cell (p := ⟨bN, oN + s, none⟩) LN.out).trans hrN
          have RN : Hid ((rowAt m.next s).length = j) := by show _ = _; rw [G.out.rowN s LT.out, HN.out]
          rw [RN.out] at y1
          obtain ⟨bR, oR, rfl, hbR, hcR⟩ := hrow (by rw [RN.out]; omega)
          have HCR := hid hcR
          have LR := hid (HF.out bR hbR)
          have XK := hid (Has.below XL.out hBk.out (Has.lt XL.out))
          have x1 := (Has.cell XK.out 1).trans rfl
          have y2 : wr.cell? ⟨g8, k, none⟩ = some (.int .i64 s) := by
            rw [HC8.out k (by omega), List.getElem?_map, List.getElem?_eq_getElem hlt]
            have : seen[k] = at0 seen k := by unfold at0; rw [List.getD_eq_getElem?_getD, List.getElem?_eq_getElem hlt]; rfl
            rw [ES.out, ← this]; rfl
          have kk : (k : Int) < (reach.length : Int) := by omega
          have kk2 : (k : Int) < (seen.length : Int) := by omega
          have ss : (s : Int) < (m.next.length : Int) := by omega
          have HEL := hid EL
          have ss2 : s < m.next.length := by omega
          clear hs hbN hcN hrN EL NL ST hbR hcR
          go_upto_region 19 with fail
          go_quiet (fail)
          generalize hw7 : wr.drewN nq = w7
          have E7 : Hid (Below wr.heap.size wr w7) := by show Below _ _ _; rw [← hw7]; exact below_drewN (Below.refl _ _) nq
          have RS7 := hid (hRS.out.below E7.out)
          have B7 := hid (hBk.out.trans (E7.out.mono sk))
          have KS := hid hlt
          clear hw7 x1 y1 y2 hRS HC7 HC8 hg7 hg8 hg7l hg8l kk kk2 ss ss2 HEL KL PL SLE MLE hlt
          go_upto_region 20 with fail
          go_loopw [10, 11, 67] (fun rv sv yi wr => ∃ (y : Nat) (seen' : List Int) (reach' : List (List Int)) (cs : List Value), y ≤ j ∧ yi = .int .i64 y ∧ Hid (Reach m k y seen' reach') ∧ Hid (at0 seen' k = (s : Int) ∧ k < seen'.length) ∧ Hid (RS wl.heap.size rv sv reach' seen' cs wr) ∧ Hid (Below wl.heap.size wl wr)) (fun _ _ yi _ => j - (intOf yi).toNat)
          case atStart => exact ⟨0, seen, reach, cs, Nat.zero_le _, rfl, hRe.out, ⟨ES.out.symm, KS.out⟩, RS7.out, B7.out⟩
          case round =>
            clear RS7 B7 E7 hRe KS ES hBk sk XK WB
            obtain ⟨y, se, re, cs, hy, rfl, hRe, hES, hRS, hBk⟩ := hrel
            have sk := hBk.out.size
            have k6 : k < 6 := by have h1 := hRe.out.le; have h2 := G.out.le; have h3 := hES.out.2; omega
            by_cases hlt : y < j
            · have jj : (y : Int) < (j : Int) := by omega
              have EL := hRe.out.len
              have SLE : se.length ≤ 6 := by have := hRe.out.le; have := G.out.le; omega
              have YL : y < ins m := by rw [← HN.out]; exact hlt
              have LET : letter m (y : Int) := ⟨by omega, by omega⟩
              obtain ⟨z, hz⟩ : ∃ z, z = nextAt m s (y : Int) := ⟨_, rfl⟩
              have HZ := hid hz
              have ZL : z < m.out.length := by rw [hz]; exact nextAt_lt G.out LT.out LET
              have ZE : at0 (rowAt m.next s) y = (z : Int) := by
                have := nextAt_eq G.out LT.out LET
                rw [hz, ← this]; rfl
              have WB := hid (BL.out.trans (hBk.out.mono (by omega)))
              have y1 : wr.cell? ⟨bR, oR + y, none⟩ = some (.int .i64 (z : Int)) := by
                rw [← ZE]
                exact (WB.out.cell (p := ⟨bR, oR + y, none⟩) LR.out).trans (HCR.out y (by rw [RN.out]; exact hlt))
              have KL : Hid (k < se.length) := hES.out.2
              have NX : Hid ((nextAt m (at0 se k).toNat (y : Int) : Int) = (z : Int)) := by
                show _ = _
                rw [hES.out.1, hz]; rfl
              have SI : Hid (IntsIn .i64 (fun b => b < wr.heap.size) wr u11 se) := (ints_of_own hRS.out.so fun q hq => by
                have h1 := hRe.out.rng q hq
                have h2 := G.out.le
                exact byte_wf ⟨by omega, by omega⟩).more fun b hb => hb.2
              have REL : Hid (re.length ≤ 6) := by show _ ≤ _; omega
              have HEL := hid EL
              have HSLE := hid SLE
              have HYL := hid YL
              have HLET := hid LET
              have HZL := hid ZL
              obtain ⟨g7, p7, rfl, hg7, hg7l, -, -, -⟩ := own_open hRS.out.ro (by have := KL.out; omega)
              have kr : (k : Int) < (re.length : Int) := by have := KL.out; omega
              have kr2 : k < re.length := by have := KL.out; omega
              have SLE2 : Hid (se.length ≤ 6) := SLE
              clear hz ZE EL SLE YL LET ZL
              by_cases hin : (z : Int) ∈ se
              · have HIN := hid hin
                clear hin
                go_wp2_with fail
                refine (contains_any se z _ _ wr SI.out).mono ?_
                rintro e wX ⟨rfl, rfl⟩
                rw [decide_eq_true HIN.out]
                go_wp2_with fail
                go_roundw
                case rel => exact ⟨y + 1, se, re, cs, by omega, by go_num, hRe.out.has (by rw [NX.out]; exact HIN.out), hES, hRS, hBk⟩
                case measure => simp [intOf]; omega
              · have HIN := hid hin
                clear hin
                have O1 := hRS.out.so.alloc (.cells #[.int .i64 z] 3)
                have OGE := hid (own_ge hRS.out.so)
                have REN : Hid (Reach m k (y + 1) (se ++ [(z : Int)]) (re ++ [rowAt re k ++ [(y : Int)]])) := by
                  have := hRe.out.new G.out hES.out.2 HYL.out (by rw [NX.out]; exact HIN.out)
                  rw [NX.out] at this
                  exact this
                go_wp2_with fail
                refine (contains_any se z _ _ wr SI.out).mono ?_
                rintro e wX ⟨rfl, rfl⟩
                rw [decide_eq_false HIN.out]
                go_wp2_with (at_builtin; go_loud (refine wpList_app _ rfl _ _ 29 rfl wl.heap.size 3 i0 (.int .i64 0) 1 8 Tryd.underlying29 hi0 hz0 hz1 hz2 rfl (by decide) u11 se.length (se.map (Value.int .i64)) rfl O1 _ _ 1 [.int .i64 z] rfl (cells_oneAt _ _ _ (by simp)) (by intro u hu; simp at hu; subst hu; rfl) (by have := SLE2.out; unfold maxLen; omega) (by have := SLE2.out; omega) (by simp; omega) ?_; intro v1 w1 hown1 hgrow1 hat1; have R1 := hid (hRS.out.seen hown1 hgrow1 hat1); have B1' : Hid (Below wl.heap.size wl w1) := (hBk.out.alloc (by omega) _).grown hgrow1 (by simp; omega) OGE.out; have sw1 := hgrow1.size; obtain ⟨rk, hrk, irk⟩ := R1.out.rc k kr2; have IRK := hid irk; obtain ⟨Ak, ck, rfl, -, -, -⟩ := irk; have c7 : w1.cell? ⟨g7, k, none⟩ = some (.slice Ak (rowAt re k).length ck) := (R1.out.ro.cellAt k (by omega)).trans hrk; clear hown1 hgrow1 hat1 hrk))
                obtain ⟨w2, hw2⟩ : ∃ w2, w2 = w1.alloc (.cells #[.int .i64 y] 3) := ⟨_, rfl⟩
                obtain ⟨w3, hw3⟩ : ∃ w3, w3 = w2.alloc (.cells #[.slice Ak (rowAt re k).length ck, .slice (some ⟨w1.heap.size, 0, none⟩) 1 1] 29) := ⟨_, rfl⟩
                have S3 : Hid (w2.heap.size = w1.heap.size + 1 ∧ w3.heap.size = w1.heap.size + 2) := by show _ ∧ _; exact ⟨by rw [hw2]; simp, by rw [hw3, hw2]; simp⟩
                have Q12 : Hid (Below w1.heap.size w1 w2) := by show Below _ _ _; rw [hw2]; exact (Below.refl _ _).alloc (Nat.le_refl _) _
                have Q23 : Hid (Below w2.heap.size w2 w3) := by show Below _ _ _; rw [hw3]; exact (Below.refl _ _).alloc (Nat.le_refl _) _
                have Q13 := hid (Q12.out.trans (Q23.out.mono (by have := S3.out; omega)))
                have X2 : Hid (w2.heap[w1.heap.size]? = some (.cells #[.int .i64 y] 3 (0, 0))) := by show _ = _; rw [hw2]; exact Has.new w1 _
                have X3 : Hid (w3.heap[w1.heap.size + 1]? = some (.cells #[.slice Ak (rowAt re k).length ck, .slice (some ⟨w1.heap.size, 0, none⟩) 1 1] 29 (0, 0))) := by show _ = _; rw [hw3]; exact Has.newAt _ _ (by have := S3.out; omega)
                have X23 := hid (Has.below X2.out Q23.out (Has.lt X2.out))
                have R3 : Hid (RowsIn (fun b => b < w3.heap.size) w3 (.slice (some ⟨w1.heap.size + 1, 0, none⟩) 2 2) [rowAt re k, [(y : Int)]]) := by
                  refine rows2 (by have := S3.out; omega) ((Has.cell X3.out 0).trans rfl) ((Has.cell X3.out 1).trans rfl) ((IRK.out.keep (w' := w3) fun b hb => Q13.out.block b hb.2.1).more fun b hb => by have := hb.2.1; have := S3.out; omega) (ints1 (by have := S3.out; omega) ((Has.cell X23.out 0).trans rfl) (byte_wf ⟨by omega, by omega⟩))
                rw [← hw2, ← hw3]
                clear hw2 hw3 c7
                have RLE : Hid ((rowAt re k).length ≤ 6) := by show _ ≤ _; have := (hRe.out.way k hES.out.2).2.2; omega
                have FL : Hid ([rowAt re k, [(y : Int)]].flatten = rowAt re k ++ [(y : Int)]) := by show _ = _; simp
                refine (concat_any _ (fun b => b < w3.heap.size) _ w3 (fun b h => h) R3.out (by rw [FL.out, List.length_append]; have := RLE.out; simp; omega)).mono ?_
                rintro e w4 ⟨r4, rfl, hown, hb⟩
                obtain ⟨nw, hnw⟩ : ∃ n, n = rowAt re k ++ [(y : Int)] := ⟨_, rfl⟩
                rw [FL.out, ← hnw] at hown
                rw [← hnw] at REN
                have HNW := hid hnw
                clear hnw
                have WBY : Hid (Bytes nw) := fun q hq => by
                  rw [HNW.out] at hq
                  have h3 := G.out.ins3
                  have h4 := HYL.out
                  rcases List.mem_append.1 hq with hq | hq
                  · have := (hRe.out.way k hES.out.2).1 q hq
                    unfold letter at this; omega
                  · rw [List.mem_singleton.1 hq]; omega
                have I4 := hid (ints_of_own hown fun z hz => byte_wf (WBY.out z hz))
                have Q4 := hid (Q13.out.trans (hb.mono (by have := S3.out; omega)))
                have R4 := hid (R1.out.below Q4.out)
                have sw4 := Q4.out.size
                have I4' : Hid (IntsIn .i64 (fun b => wl.heap.size ≤ b ∧ b < w4.heap.size ∧ (Value.slice (some ⟨g7, 0, none⟩) re.length p7).ownBlock ≠ some b ∧ v1.ownBlock ≠ some b) w4 r4 nw) := I4.out.more fun b hb => ⟨by have := hb.1; have := S3.out; have := B1'.out.size; omega, hb.2, fun e => by have := own_lt R1.out.ro b e; have := hb.1; have := S3.out; omega, fun e => by have := own_lt R1.out.so b e; have := hb.1; have := S3.out; omega⟩
                obtain ⟨A4, c4, rfl, -, -⟩ := own_slL hown
                have B4' := hid (B1'.out.trans (Q4.out.mono (by have := B1'.out.size; omega)))
                have sl4 := B4'.out.size
                have OGE4 := hid (own_ge R4.out.ro)
                have ro4 := R4.out.ro.alloc (.cells #[.slice A4 nw.length c4] 29)
                clear hown hb
                go_wp2_with (at_builtin; go_loud (refine wpList_app _ rfl _ _ 22 rfl wl.heap.size 29 iR (.slice none 0 0) 1 24 Tryd.underlying22 hiR hzR0 hzR1 hzR2 rfl (by decide) _ re.length cs rfl ro4 _ _ 1 [.slice A4 nw.length c4] rfl (cells_oneAt _ _ _ (by simp)) (by intro u hu; simp at hu; subst hu; rfl) (by have := REL.out; unfold maxLen; omega) (by have := REL.out; omega) (by simp; omega) ?_; intro v5 w5 hown5 hgrow5 hat5; have R5 := hid (R4.out.row I4'.out hown5 hgrow5 hat5); have B5' : Hid (Below wl.heap.size wl w5) := (B4'.out.alloc (by omega) _).grown hgrow5 (by simp; omega) OGE4.out; clear hown5 hgrow5 hat5))
                go_roundw
                case rel => exact ⟨y + 1, se ++ [(z : Int)], re ++ [nw], _, by omega, by go_num, REN, ⟨by rw [at0_append_left hES.out.2]; exact hES.out.1, by have := hES.out.2; simp; omega⟩, R5, B5'⟩
                case measure => simp [intOf]; omega
            · obtain rfl : y = j := by omega
              go_wp2_with fail
              go_roundw
              case rel => exact ⟨k + 1, se, re, cs, by go_num, (by have h := hRe.out; rw [HN.out] at h; exact h.next hES.out.2), hRS, hBk⟩
              case measure =>
                have h1 := hRe.out.le
                have h2 := G.out.le
                have h3 := hES.out.2
                simp [intOf]; omega
        · obtain rfl : k = seen.length := by omega
          have RR := hid (hRS.out.rows.more (F' := fun b => b < wr.heap.size) fun b hb => hb.2)
          have LR2 := hid ((LTR.out.keep (w' := wr) fun b hb => hBk.out.block b hb).more (F' := fun b => b < wr.heap.size) fun b hb => by omega)
          have SR2 := hid ((SWL.out.keep (w' := wr) fun b hb => hBk.out.block b hb).more (F' := fun b => b < wr.heap.size) fun b hb => by omega)
          have BR := hid (BL.out.trans (hBk.out.mono (by omega)))
          have sr := BR.out.size
          have kk : ¬ (seen.length : Int) < (reach.length : Int) := by omega
          have LSH : Hid (Short 400 (lettersL j)) := (letters_short i3).mono (by omega)
          have RSH : Hid (Short 400 reach) := (hRe.out.short G.out).mono (by omega)
          have LLE : Hid ((lettersL j).length ≤ 4) := by show _ ≤ _; rw [lettersL_len]; omega
          have RLE : Hid (reach.length * (lettersL j).length ≤ 100000) := by
            have h5 : reach.length * (lettersL j).length ≤ 6 * 4 := Nat.mul_le_mul (by omega) LLE.out
            show _ ≤ _; omega
          have HEL := hid EL
          clear EL KL PL SLE MLE HC7 HC8 hg7 hg8 hg7l hg8l hlt
          go_wp2_with fail
          refine (times_any reach (lettersL j) (fun b => b < wr.heap.size) _ _ wr (fun b h => h) RR.out LR2.out RSH.out LSH.out RLE.out).mono ?_
          rintro e w8 ⟨r8, rfl, hr8, hb8⟩
          have T8 : Hid (RowsIn (fun b => W.heap.size ≤ b ∧ b < w8.heap.size) w8 r8 (sOut (ins m) reach 0)) := by
            have := hr8.more (F' := fun b => W.heap.size ≤ b ∧ b < w8.heap.size) fun b hb => ⟨by have := hb.1; omega, hb.2⟩
            show RowsIn _ _ _ (timesL reach (lettersL (ins m)))
            rw [← HN.out]; exact this
          have B8 := hid hb8
          clear hr8 hb8
          obtain ⟨wm, rfl⟩ : ∃ z : World, z = wr := ⟨_, rfl⟩
          have SOUT : Hid (∀ e, Short (6 + e) (sOut j reach e) ∧ (sOut j reach e).length ≤ 24 * 4 ^ e) := by
            show ∀ e, _
            rw [HN.out]; exact fun e => sOut_short G.out hRe.out e
          rw [← HN.out] at T8
          go_upto_region 28 with fail
          go_loopw [15, 96] (fun ov ei wq => ∃ e : Nat, e ≤ x ∧ ei = .int .i64 e ∧ Hid (RowsIn (fun b => W.heap.size ≤ b ∧ b < wq.heap.size) wq ov (sOut j reach e)) ∧ Hid (Below wm.heap.size wm wq)) (fun _ ei _ => x - (intOf ei).toNat)
          case atStart => exact ⟨0, Nat.zero_le _, rfl, T8.out, B8.out⟩
          case round =>
            obtain ⟨e, he, rfl, hT, hB9⟩ := hrel
            clear T8 B8
            have s9 := hB9.out.size
            have L9 := hid ((LR2.out.keep (w' := wr) fun b hb => hB9.out.block b hb).more (F' := fun b => b < wr.heap.size) fun b hb => by omega)
            have S9 := hid ((SR2.out.keep (w' := wr) fun b hb => hB9.out.block b hb).more (F' := fun b => b < wr.heap.size) fun b hb => by omega)
            have T9 := hid (hT.out.more (F' := fun b => b < wr.heap.size) fun b hb => hb.2)
            have OSH : Hid (Short 400 (sOut j reach e)) := (SOUT.out e).1.mono (by omega)
            have OLE : Hid ((sOut j reach e).length ≤ 384) := by
              have h1 := (SOUT.out e).2
              have h2 : 4 ^ e ≤ 4 ^ 2 := Nat.pow_le_pow_right (by omega) (by omega)
              show _ ≤ _; omega
            have B9 := hid (BR.out.trans (hB9.out.mono (by omega)))
            by_cases hlt : e < x
            · have ee : (e : Int) < (x : Int) := by omega
              go_wp2_with fail
              refine (times_any (sOut j reach e) (lettersL j) (fun b => b < wr.heap.size) _ _ wr (fun b h => h) T9.out L9.out OSH.out LSH.out (by have h5 : (sOut j reach e).length * (lettersL j).length ≤ 384 * 4 := Nat.mul_le_mul OLE.out LLE.out; omega)).mono ?_
              rintro e' w10 ⟨r10, rfl, hr10, hb10⟩
              have T10 : Hid (RowsIn (fun b => W.heap.size ≤ b ∧ b < w10.heap.size) w10 r10 (sOut j reach (e + 1))) := hr10.more fun b hb => ⟨by have := hb.1; omega, hb.2⟩
              have B10 := hid (hB9.out.trans (hb10.mono s9))
              clear hr10 hb10
              go_wp2_with fail
              go_roundw
              case rel => exact ⟨e + 1, by omega, by go_num, T10, B10⟩
              case measure => simp [intOf]; omega
            · obtain rfl : e = x := by omega
              have SWS : Hid (Short 400 (setW m) ∧ (setW m).length ≤ 15) := ⟨(setW_short G.out).1.mono (by omega), (setW_short G.out).2⟩
              go_wp2_with fail
              refine (times_any (sOut j reach e) (setW m) (fun b => b < wr.heap.size) _ _ wr (fun b h => h) T9.out S9.out OSH.out SWS.out.1 (by have h5 : (sOut j reach e).length * (setW m).length ≤ 384 * 15 := Nat.mul_le_mul OLE.out SWS.out.2; omega)).mono ?_
              rintro e' w10 ⟨r10, rfl, hr10, hb10⟩
              have T10 : Hid (RowsIn (Fresh W w10) w10 r10 (suiteL m e reach)) := by
                have := hr10.more (F' := Fresh W w10) fun b hb => ⟨by have := hb.1; omega, hb.2⟩
                show RowsIn _ _ _ (timesL (sOut (ins m) reach e) (setW m))
                rw [← HN.out]; exact this
              have B10 := hid (B9.out.trans (hb10.mono (by omega)))
              clear hr10 hb10
              go_wp2_with fail
              go_ret2
              exact ⟨_, seen, reach, rfl, hRe.out, T10.out, B10.out⟩
/-- extra states out of range -/
theorem suite_range (m : MachD) (x : Int) (F : Nat → Prop) (v : Value) (W : World) (hF : ∀ b, F b → b < W.heap.size) (h : MachIn F W v m) (g : Good m) (hx : x < 0 ∨ 2 < x) :
    Calls Tryd.prog 19 #[v, .int .i64 x] W fun e w' => e = .returned (.tuple #[.slice none 0 0, .iface 33 (.int .i64 1)]) ∧ Below W.heap.size W w' := by
  have HF := hid hF
  have HM := hid h
  have G := hid g
  obtain ⟨o, nxv, rfl, ⟨Ao, co, rfl, -, -⟩, ⟨An, cn, rfl, -, -⟩⟩ := h
  clear hF g
  obtain ⟨w1, hw1⟩ : ∃ w1, w1 = W.alloc (.cells #[.slice Ao m.out.length co, .slice An m.next.length cn] 24) := ⟨_, rfl⟩
  obtain ⟨bm, hbm⟩ : ∃ b, b = W.heap.size := ⟨_, rfl⟩
  have s1 : w1.heap.size = W.heap.size + 1 := by rw [hw1]; simp
  have B1 : Hid (Below W.heap.size W w1) := by show Below _ _ _; rw [hw1]; exact (Below.refl _ _).alloc (Nat.le_refl _) _
  have X1 : Hid (w1.heap[bm]? = some (.cells #[.slice Ao m.out.length co, .slice An m.next.length cn] 24 (0, 0))) := by show _ = _; rw [hw1, hbm]; exact Has.new W _
  have V1 : Hid (MachIn F w1 (.agg #[.slice Ao m.out.length co, .slice An m.next.length cn]) m) := HM.out.keep (Same.of_below B1.out fun b h => HF.out b h)
  have x10 := (Has.cell X1.out 0).trans rfl
  have x11 := (Has.cell X1.out 1).trans rfl
  have HX := hid hx
  clear hx
  go_enter Tryd.func19, Tryd.ntmps19
  go_upto_region 1 with fail
  rw [← hw1, ← hbm]
  clear hw1 hbm
  go_wp2_with fail
  refine (set_ok m F _ w1 (fun b h => by have := HF.out b h; omega) V1.out G.out).mono ?_
  rintro e w2 ⟨rs, rfl, hset, hb2⟩
  have B2 := hid (B1.out.trans (hb2.mono (by omega)))
  obtain ⟨As, cs, rfl, -, -⟩ := hset
  clear hb2 x10 x11
  by_cases h0 : x < 0
  · go_wp2_with fail
    go_ret2
    exact ⟨rfl, B2.out⟩
  · have h2 : 2 < x := by have := HX.out; omega
    have h3 : 0 ≤ x := by omega
    go_wp2_with fail
    go_ret2
    exact ⟨rfl, B2.out⟩
end Go.Proofs.YtkcggmhllijgcaaDoor
