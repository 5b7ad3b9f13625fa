/- What mutate.copied returns of an expression of at most 100 parts: the same tree, in blocks of the call's own. Condition: that bound. -/
import Derived.Test.YtanpmmpdolaiiaaDoorExp
import Derived.Deep.OwnRows
import Derived.Deep.LoopGhost
import Derived.Deep.RegionLaw
namespace Go.Proofs.YtanpmmpdolaiiaaDoor
open Go.RowKit Go.Deep
theorem infoExpr : (Tryd.prog.info? 24).map (fun i => (i.zero, i.size, i.bytes)) = some (some (.agg #[.int .i64 0, .int .i64 0, .slice none 0 0]), 3, 40) := by kernel_rfl
theorem cells_three (w : World) (a b c : Value) (g : Nat) (F : Nat → Prop) (h0 : w.cell? ⟨g, 0, none⟩ = some a) (h1 : w.cell? ⟨g, 1, none⟩ = some b) (h2 : w.cell? ⟨g, 2, none⟩ = some c) (hF : F g) : CellsIn F w 3 (.slice (some ⟨g, 0, none⟩) 1 1) 1 [a, b, c] :=
  ⟨_, 1, rfl, rfl, fun _ => ⟨g, 0, rfl, hF, fun j u hj => by
    match j, hj with
    | 0, hj => simp at hj; subst hj; exact h0
    | 1, hj => simp at hj; subst hj; exact h1
    | 2, hj => simp at hj; subst hj; exact h2⟩⟩
/-- a row of expressions that the call owns, apart from what lies behind it -/
structure EInv (B : Nat) (v : Value) (l : List Ex) (w : World) : Prop where
  row : ∃ cs, w.ownsRow B 24 3 v l.length cs ∧ ExCells (fun b => B ≤ b ∧ b < w.heap.size ∧ v.ownBlock ≠ some b) w cs l
theorem EInv.nil_ (B : Nat) (w : World) : EInv B (.slice none 0 0) [] w := ⟨[], World.ownsRow_nil _ _ _ _, ExCells.nil_⟩
theorem EInv.below {B : Nat} {v : Value} {l : List Ex} {w w' : World} (h : EInv B v l w) (hb : Below w.heap.size w w') : EInv B v l w' := by
  obtain ⟨cs, h1, h2⟩ := h.row
  have hs := hb.size
  exact ⟨cs, own_below h1 hb, (h2.keep (Same.of_below hb fun b k => k.2.1)).more fun b k => ⟨k.1, by have := k.2.1; omega, k.2.2⟩⟩
theorem own_base {w : World} {base base' : Nat} {e : TypeId} {size n : Nat} {v : Value} {xs : List Value} (h : w.ownsRow base e size v n xs) (hb : base' ≤ base) : w.ownsRow base' e size v n xs := by
  refine ⟨h.1, ?_⟩
  rcases h.2 with h | ⟨g, cap, cur, rfl, h1, h2⟩
  · exact .inl h
  · exact .inr ⟨g, cap, cur, rfl, by omega, h2⟩
theorem EInv.base {B B' : Nat} {v : Value} {l : List Ex} {w : World} (h : EInv B v l w) (hb : B' ≤ B) : EInv B' v l w := by
  obtain ⟨cs, h1, h2⟩ := h.row
  exact ⟨cs, own_base h1 hb, h2.more fun b k => ⟨by have := k.1; omega, k.2⟩⟩
theorem own_slice {w : World} {base : Nat} {e : TypeId} {size n : Nat} {v : Value} {xs : List Value} (h : w.ownsRow base e size v n xs) : ∃ A c, v = .slice A n c ∧ n ≤ c ∧ c ≤ maxLen := by
  rcases h.2 with ⟨rfl, rfl⟩ | ⟨g, cap, cur, rfl, hb, hh, hc1, hc2, _⟩
  · exact ⟨none, 0, rfl, Nat.le_refl _, by unfold maxLen; omega⟩
  · exact ⟨_, cap, rfl, hc1, hc2⟩
theorem EInv.set {B : Nat} {v : Value} {l : List Ex} {w : World} (h : EInv B v l w) {p : Addr} (hp : p.block < B) {u : Value} : EInv B v l (w.setCell p u) := by
  obtain ⟨cs, h1, h2⟩ := h.row
  have hs : ∀ b, B ≤ b → (w.setCell p u).heap[b]? = w.heap[b]? := fun b hb => Below.heap_setCell w p u b (by omega)
  refine ⟨cs, own_keep h1 fun k hk => hs k (own_ge h1 k hk), (h2.keep fun b hb => hs b hb.1).more fun b k => ⟨k.1, by simpa using k.2.1, k.2.2⟩⟩
theorem EInv.slice {B : Nat} {v : Value} {l : List Ex} {w : World} (h : EInv B v l w) : ∃ A c, v = .slice A l.length c := by
  obtain ⟨cs, h1, _⟩ := h.row
  obtain ⟨A, c, e, _⟩ := own_slice h1
  exact ⟨A, c, e⟩
/-- such a row is what lies behind an expression -/
theorem EInv.ex {B : Nat} {v : Value} {l : List Ex} {w : World} (h : EInv B v l w) {k n : Int} (hk : (Lit.int .i64 k).wf = true) (hn : (Lit.int .i64 n).wf = true) : ExIn (fun b => B ≤ b ∧ b < w.heap.size) w (.mk k n l) (.int .i64 k) (.int .i64 n) v := by
  obtain ⟨cs, h1, h2⟩ := h.row
  rw [ExIn]
  obtain ⟨A, c, rfl, l1, l2⟩ := own_slice h1
  refine ⟨rfl, rfl, hk, hn, A, c, rfl, ⟨l1, l2⟩, fun hp => ?_⟩
  obtain ⟨g, cap, e, hg, hl, _, _, _⟩ := own_open h1 hp
  injection e with e1 _ e2
  subst e1 e2
  exact ⟨g, 0, rfl, ⟨hg, hl⟩, (h2.more fun b k => ⟨k.1, k.2.1⟩).exs h1⟩
theorem einv_snoc {B : Nat} {v v5 : Value} {l : List Ex} {x : Ex} {a b c : Value} {w w5 : World} {cs : List Value} (hB : B ≤ w.heap.size) (h1 : w.ownsRow B 24 3 v l.length cs) (h2 : ExCells (fun b => B ≤ b ∧ b < w.heap.size ∧ v.ownBlock ≠ some b) w cs l)
    (hx : ExIn (fun b => B ≤ b ∧ b < w.heap.size ∧ v.ownBlock ≠ some b) w x a b c) (hown5 : w5.ownsRow B 24 3 v5 (l.length + 1) (cs ++ [a, b, c])) (hgrow5 : w.grownBy w5 v.ownBlock) (hat5 : v5.ownBlock = v.ownBlock ∨ v5.ownBlock = some w.heap.size) :
    EInv B v5 (l ++ [x]) w5 ∧ Below B w w5 := by
  have s5 := hgrow5.size
  have SMF : Same (fun b => B ≤ b ∧ b < w.heap.size ∧ v.ownBlock ≠ some b) w w5 := fun b h => hgrow5.block b h.2.1 (fun e => h.2.2 e.symm)
  refine ⟨⟨cs ++ [a, b, c], by rw [List.length_append]; exact hown5, ?_⟩, (Below.refl _ _).grown hgrow5 hB fun k hk => own_ge h1 k hk⟩
  refine ((h2.keep SMF).snoc (ExIn.keep SMF _ hx)).more fun b k => ⟨k.1, by have := k.2.1; omega, fun e => ?_⟩
  rcases hat5 with h | h
  · rw [h] at e; exact k.2.2 e
  · rw [h] at e; injection e with e; have := k.2.1; omega
theorem take_snoc {s : List Ex} {i : Nat} (h : i < s.length) : s.take (i + 1) = s.take i ++ [s[i]] := by rw [List.take_succ_eq_append_getElem h]
theorem ExIn.wf {F : Nat → Prop} {w : World} {k n : Int} {s : List Ex} {a b c : Value} (h : ExIn F w (.mk k n s) a b c) : (Lit.int .i64 k).wf = true ∧ (Lit.int .i64 n).wf = true := by
  rw [ExIn] at h; exact ⟨h.2.2.1, h.2.2.2.1⟩
def CopyPost (x : Ex) (w : World) (e : Ending) (w' : World) : Prop := ∃ v, e = .returned (.agg #[.int .i64 x.k, .int .i64 x.n, v]) ∧ EInv w.heap.size v x.s w' ∧ Below w.heap.size w w'
def CopyOk (x : Ex) : Prop := ∀ (F : Nat → Prop) (a b c : Value) (w : World), (∀ g, F g → g < w.heap.size) → ExIn F w x a b c → x.size ≤ 100 →
  Calls Tryd.prog 17 #[.agg #[a, b, c]] w (CopyPost x w)
set_option maxRecDepth 100000 in
set_option maxHeartbeats 4000000 in
theorem copied_step (k n : Int) (s : List Ex) (ih : ∀ y ∈ s, CopyOk y) : CopyOk (.mk k n s) := by
  intro F a b c w hF hx hsz
  have HF := hid hF
  have IH := hid ih
  have HX := hid hx
  obtain ⟨A, cp, rfl, rfl, rfl, l1, l2, hs⟩ := hx.box
  have HS := hid hs
  have SZ : Hid (∀ y ∈ s, y.size ≤ 100) := fun y hy => by have := Exs.size_mem hy; rw [Ex.size] at hsz; omega
  have sl : s.length ≤ 100 := by
    have : ∀ l : List Ex, l.length ≤ Exs.size l := fun l => by
      induction l with
      | nil => simp
      | cons y r ih => rw [Exs.size, List.length_cons]; have := Ex.size_pos y; omega
    have := this s
    rw [Ex.size] at hsz; omega
  obtain ⟨i0, hi0, hz0, hz1, hz2⟩ := info_parts infoExpr
  have W0 : Hid (Below w.heap.size w (((w.alloc (.cells #[.int .i64 k, .int .i64 n, .slice A s.length cp] 24)).alloc (.cells #[.int .i64 0, .int .i64 0, .slice none 0 0] 24)).alloc (.cells #[.int .i64 k, .int .i64 n, .slice none 0 0] 24))) := (((Below.refl _ _).alloc (Nat.le_refl _) _).alloc (by simp) _).alloc (by simp; omega) _
  have X3 : Hid ((((w.alloc (.cells #[.int .i64 k, .int .i64 n, .slice A s.length cp] 24)).alloc (.cells #[.int .i64 0, .int .i64 0, .slice none 0 0] 24)).alloc (.cells #[.int .i64 k, .int .i64 n, .slice none 0 0] 24)).heap[w.heap.size + 1 + 1]? = some (.cells #[.int .i64 k, .int .i64 n, .slice none 0 0] 24 (0, 0))) := Has.newAt _ _ (by simp)
  have X2 : Hid ((((w.alloc (.cells #[.int .i64 k, .int .i64 n, .slice A s.length cp] 24)).alloc (.cells #[.int .i64 0, .int .i64 0, .slice none 0 0] 24)).alloc (.cells #[.int .i64 k, .int .i64 n, .slice none 0 0] 24)).heap[w.heap.size + 1]? = some (.cells #[.int .i64 0, .int .i64 0, .slice none 0 0] 24 (0, 0))) := Has.alloc (Has.newAt _ _ (by simp)) _
  clear hF ih hs hsz
  go_enter Tryd.func17, Tryd.ntmps17
  go_wp2_with fail
  go_loopw [14] (fun iv wr => ∃ (i : Nat) (v : Value), i ≤ s.length ∧ iv = .int .i64 i ∧ Hid (EInv (w.heap.size + 3) v (s.take i) wr) ∧ Hid (wr.heap[w.heap.size + 1 + 1]? = some (.cells #[.int .i64 k, .int .i64 n, v] 24 (0, 0))) ∧ Hid (wr.heap[w.heap.size + 1]? = some (.cells #[.int .i64 0, .int .i64 0, .slice none 0 0] 24 (0, 0))) ∧ Hid (Below w.heap.size w wr)) (fun iv _ => s.length - (intOf iv).toNat)
  case atStart => exact ⟨0, .slice none 0 0, Nat.zero_le _, rfl, EInv.nil_ _ _, X3, X2, W0⟩
  case round =>
    obtain ⟨i, v, hi, rfl, hE, hX3, hX2, hB⟩ := hrel
    obtain ⟨wo, rfl⟩ : ∃ wo : World, wo = wr := ⟨_, rfl⟩
    have lB := hB.out.size
    have l3 := Has.lt hX3.out
    clear X3 X2 W0
    by_cases hlt : i < s.length
    · obtain ⟨bl, off, rfl, hFb, hex⟩ := HS.out (by omega)
      have lb := HF.out bl hFb
      obtain ⟨a1, b1, c1, q1, q2, q3, hy⟩ := (ExsIn.keep (Same.of_below hB.out HF.out) s hFb hex).at_ hlt
      have HY := hid hy
      have PI := hid (IH.out s[i] (List.getElem_mem hlt))
      have i1 : (i : Int) < (s.length : Int) := by omega
      have SY := hid (SZ.out s[i] (List.getElem_mem hlt))
      have TK := hid (take_snoc hlt)
      obtain ⟨⟨k1, n1, s1⟩, hy0⟩ : ∃ y, y = s[i] := ⟨_, rfl⟩
      rw [← hy0] at HY PI SY TK
      obtain ⟨A1, cp1, rfl, rfl, rfl, _, _, _⟩ := HY.out.box
      obtain ⟨A2, c2, hv⟩ := hE.out.slice
      have lt : (s.take i).length = i := by rw [List.length_take]; omega
      rw [lt] at hv
      subst hv
      have WF1 := hid HY.out.wf
      clear hex hy hy0
      obtain ⟨cs, o1, o2⟩ := hE.out.row
      rw [lt] at o1
      have OW := hid o1
      have OC := hid o2
      clear o1 o2
      go_upto_region 5 with fail
      have q0 : (wo.alloc (.cells #[.int .i64 k1, .int .i64 n1, .slice A1 s1.length cp1] 24)).cell? ⟨wo.heap.size, 0, none⟩ = some (.int .i64 k1) := by simp
      have q4 : (wo.alloc (.cells #[.int .i64 k1, .int .i64 n1, .slice A1 s1.length cp1] 24)).cell? ⟨wo.heap.size, 1, none⟩ = some (.int .i64 n1) := by simp
      have q5 : (wo.alloc (.cells #[.int .i64 k1, .int .i64 n1, .slice A1 s1.length cp1] 24)).cell? ⟨wo.heap.size, 2, none⟩ = some (.slice A1 s1.length cp1) := by simp
      have XA := hid (Has.alloc hX3.out (.cells #[.int .i64 k1, .int .i64 n1, .slice A1 s1.length cp1] 24))
      have XB := hid (Has.alloc hX2.out (.cells #[.int .i64 k1, .int .i64 n1, .slice A1 s1.length cp1] 24))
      have q6 := Has.cell XA.out 2
      simp at q6
      have BQ := hid (hB.out.alloc lB (.cells #[.int .i64 k1, .int .i64 n1, .slice A1 s1.length cp1] 24))
      have BW : Hid (Below wo.heap.size wo (wo.alloc (.cells #[.int .i64 k1, .int .i64 n1, .slice A1 s1.length cp1] 24))) := (Below.refl _ _).alloc (Nat.le_refl _) _
      have lq : wo.heap.size < (wo.alloc (.cells #[.int .i64 k1, .int .i64 n1, .slice A1 s1.length cp1] 24)).heap.size := by simp
      generalize wo.alloc (.cells #[.int .i64 k1, .int .i64 n1, .slice A1 s1.length cp1] 24) = wq at *
      have HYq := hid (ExIn.keep (fun b hb => (BW.out.block b (by have := HF.out b hb; omega))) _ HY.out)
      clear q1 q2 q3
      go_region_law (first
        | (refine step_app _ (by rfl) (.tmp 19) (.tmp 22) 22 (by rfl) (w.heap.size + 3) 24 i0 (.agg #[.int .i64 0, .int .i64 0, .slice none 0 0]) 3 40 Tryd.underlying22 hi0 hz0 hz1 hz2 rfl (by decide) (.slice A2 i c2) i cs (by rfl) (own_below OW.out BA.out) _ _ 1 [.int .i64 k1, .int .i64 n1, .slice A4 s1.length c4] (by rfl) (cells_three _ _ _ _ w2.heap.size (fun b => b = w2.heap.size) (by simp) (by simp) (by simp) rfl) (by intro u hu; simp at hu; rcases hu with rfl | rfl | rfl <;> rfl) (by unfold maxLen; omega) (by omega) (by simp; omega) ?_; intro v5 w5 hown5 hgrow5 hat5; obtain ⟨A5, c5, rfl, _⟩ := own_slice hown5; have EB := hid (einv_snoc (x := .mk k1 n1 s1) (by simp; omega) (by rw [lt]; exact own_below OW.out BA.out) ((OC.out.keep (Same.of_below BA.out fun b h => h.2.1)).more fun b h => ⟨h.1, by have := h.2.1; have := BA.out.size; omega, h.2.2⟩) NX.out (by rw [lt]; exact hown5) hgrow5 hat5); have Y5 := hid (Has.grown XC.out hgrow5 (fun e => by have := own_ge OW.out _ e.symm; omega)); have Z5 := hid (Has.grown XD.out hgrow5 (fun e => by have := own_ge OW.out _ e.symm; omega)); have y5 := Has.cell Y5.out 2; have fy5 := Has.froz Y5.out 2; simp at y5)
        | (go_simp; go_at_call 17; refine (PI.out F _ _ _ wq.drew (fun g hg => by have := HF.out g hg; simp; omega) (ExIn.keep (w := wq) (w' := wq.drew) (fun _ _ => rfl) _ HYq.out) SY.out).mono ?_; rintro e w2 ⟨S1, he, hE1, hb2⟩; simp only [Ex.k, Ex.n, Ex.s] at he hE1; subst he; have B2 := hid hb2; have E1 := hid hE1; obtain ⟨A4, c4, rfl⟩ := hE1.slice; have XC0 := Has.below (w := wq.drew) XA.out hb2 (Has.lt XA.out); have XD0 := Has.below (w := wq.drew) XB.out hb2 (Has.lt XB.out); have r2 := Has.cell XC0 2; have l2g := Has.lt XC0; have XC := hid (Has.alloc XC0 (.cells #[.int .i64 k1, .int .i64 n1, .slice A4 s1.length c4] 24)); have XD := hid (Has.alloc XD0 (.cells #[.int .i64 k1, .int .i64 n1, .slice A4 s1.length c4] 24)); have BA : Hid (Below wo.heap.size wo (w2.alloc (.cells #[.int .i64 k1, .int .i64 n1, .slice A4 s1.length c4] 24))) := (BW.out.drew.trans (hb2.mono (by simp; omega))).alloc (by have := hb2.size; simp at this; omega) _; have NX : Hid (ExIn (fun b => w.heap.size + 3 ≤ b ∧ b < (w2.alloc (.cells #[.int .i64 k1, .int .i64 n1, .slice A4 s1.length c4] 24)).heap.size ∧ (Value.slice A2 i c2).ownBlock ≠ some b) (w2.alloc (.cells #[.int .i64 k1, .int .i64 n1, .slice A4 s1.length c4] 24)) (.mk k1 n1 s1) (.int .i64 k1) (.int .i64 n1) (.slice A4 s1.length c4)) := ExIn.more (fun b h => ⟨by have := h.1; simp at this; omega, by have := h.2; simp; omega, fun e => by have := own_lt OW.out _ e; have := h.1; simp at this; omega⟩) _ (ExIn.keep (fun b h => Below.heap_alloc _ _ _ h.2) _ (E1.out.ex WF1.out.1 WF1.out.2)); have s2 := hb2.size; simp at r2 s2; clear hb2 hE1 XC0 XD0))
      all_goals
        go_wp2_with fail
        go_roundw
        case rel =>
          refine ⟨i + 1, .slice A5 (i + 1) c5, by omega, by go_num, ?_, ?_, ?_, ?_⟩
          · show EInv _ _ _ _
            rw [TK.out]
            exact EB.out.1.set (by simp)
          · have h8 := Has.set Y5.out 2 (.slice A5 (i + 1) c5)
            simp at h8
            exact h8
          · exact Has.far Z5.out (p := ⟨w.heap.size + 1 + 1, 2, none⟩) (by simp) _
          · exact ((hB.out.trans (BA.out.mono lB)).trans (EB.out.2.mono (by omega))).setCell (by simp; omega) _
        case measure => simp [intOf]; omega
    · obtain rfl : i = s.length := by omega
      have TL : Hid (s.take s.length = s) := by show _ = _; simp
      rw [TL.out] at hE
      obtain ⟨A2, c2, rfl⟩ := hE.out.slice
      have p0 := Has.cell hX3.out 0
      have p1 := Has.cell hX3.out 1
      have p2 := Has.cell hX3.out 2
      have r0 := Has.cell hX2.out 0
      have r1 := Has.cell hX2.out 1
      have r2 := Has.cell hX2.out 2
      have fr0 := Has.froz hX2.out 0
      have fr1 := Has.froz hX2.out 1
      have fr2 := Has.froz hX2.out 2
      have lr := Has.lt hX2.out
      simp at p0 p1 p2 r0 r1 r2
      go_wp2_with fail
      refine bodyPost_ret (v := .agg #[.int .i64 k, .int .i64 n, .slice A2 s.length c2]) (by simp [results, Tryd.results17, go_sem, r0, r1, r2]) rfl ⟨_, rfl, ?_, ?_⟩
      · exact (((hE.out.set (p := ⟨w.heap.size + 1, 0, none⟩) (by simp)).set (p := ⟨w.heap.size + 1, 1, none⟩) (by simp)).set (p := ⟨w.heap.size + 1, 2, none⟩) (by simp)).base (by omega)
      · exact ((hB.out.setCell (by simp) _).setCell (by simp) _).setCell (by simp) _
theorem copied_any : ∀ x, CopyOk x := Ex.ind copied_step
end Go.Proofs.YtanpmmpdolaiiaaDoor
