/- What rose.Less's try does (Less$1): it mends, and puts what is less into the list of the box. Conditions: the generator checks; the tape reads; the box and its list are apart. -/
import Derived.Test.YtopehfmppfibhaaDoorRsw
import Derived.Test.YtopehfmppfibhaaDoorGme
namespace Go.Proofs.YtopehfmppfibhaaDoor
open Go.RowKit Go.Deep
theorem infoInts : (Tryd.prog.info? 25).map (fun i => (i.zero, i.size, i.bytes)) = some (some (.slice none 0 0), 1, 24) := by kernel_rfl
theorem own_intsR {w : World} {B n : Nat} {e : TypeId} {v : Value} {zs : List Int} (h : w.ownsRow B e 1 v n (zs.map (Value.int .i64))) (hw : ∀ z ∈ zs, (Lit.int .i64 z).wf = true) : IntsIn .i64 (fun b => v.ownBlock = some b) w v zs := by
  have hl : zs.length = n := by have := h.1; simpa using this
  subst hl
  rcases Nat.eq_zero_or_pos zs.length with h0 | h0
  · obtain rfl : zs = [] := List.eq_nil_of_length_eq_zero h0
    rcases h.2 with ⟨rfl, _⟩ | ⟨g, cap, cur, rfl, _, _, h1, h2, _⟩
    · exact IntsIn.nil_
    · exact ⟨_, cap, rfl, ⟨h1, h2⟩, hw, fun h => absurd h (by simp)⟩
  · obtain ⟨g, cap, rfl, _, _, h1, h2, h3⟩ := own_open h h0
    refine ⟨_, cap, rfl, ⟨h1, h2⟩, hw, fun _ => ⟨g, 0, rfl, rfl, fun i hi => ?_⟩⟩
    have := h3 i (by omega)
    rw [Nat.zero_add, this, List.getElem?_map, List.getElem?_eq_getElem hi, List.getD_eq_getElem?_getD, List.getElem?_eq_getElem hi]; rfl
theorem wf1000 {zs : List Int} (h : ∀ z ∈ zs, 0 ≤ z ∧ z ≤ 1000) : ∀ z ∈ zs, (Lit.int .i64 z).wf = true := fun z hz => by
  have := h z hz
  simp [Lit.wf, IntKind.min, IntKind.max, IntKind.bits, IntKind.signed]; omega
/-- the list of the tapes that are less: in the box bo and in a row that is behind it -/
def LessR (bo n : Nat) (D : Nat → Prop) (w : World) : Prop := ∃ v xs, (∀ b, D b ↔ (b = bo ∨ v.ownBlock = some b)) ∧ w.heap[bo]? = some (.cells #[v] 27 (0, 0)) ∧ w.ownsRow (bo + 1) 25 1 v n xs
theorem LessR.keep {bo n : Nat} {D : Nat → Prop} {w w' : World} (h : LessR bo n D w) (hD : ∀ b, D b → w'.heap[b]? = w.heap[b]?) : LessR bo n D w' := by
  obtain ⟨v, xs, h1, h2, h3⟩ := h
  exact ⟨v, xs, h1, (hD bo ((h1 bo).2 (.inl rfl))).trans h2, own_keep h3 fun k hk => hD k ((h1 k).2 (.inr hk))⟩
theorem LessR.lt {bo n : Nat} {D : Nat → Prop} {w : World} (h : LessR bo n D w) : ∀ b, D b → bo ≤ b ∧ b < w.heap.size := fun b hb => by
  obtain ⟨v, xs, h1, h2, h3⟩ := h
  rcases (h1 b).1 hb with rfl | hb
  · exact ⟨Nat.le_refl _, Has.lt h2⟩
  · exact ⟨by have := own_ge h3 b hb; omega, own_lt h3 b hb⟩
def TryPost (bo n : Nat) (D : Nat → Prop) (same : Prop) (w : World) (e : Ending) (w' : World) : Prop := e = .returned .nilIface ∧ OutsD D w w' ∧ ∃ D' n', LessR bo n' D' w' ∧ (∀ b, D' b → D b ∨ w.heap.size ≤ b) ∧ n' ≤ n + 1 ∧ (same → n' = n)
theorem less_app {bo n : Nat} {D : Nat → Prop} {w w1 w5 : World} {v v5 : Value} {xs xs5 : List Value} {o : Obj} {same : Prop} (hs : ¬ same) (hb : Below w.heap.size w w1)
    (h1 : ∀ b, D b ↔ (b = bo ∨ v.ownBlock = some b)) (h2 : w1.heap[bo]? = some (.cells #[v] 27 (0, 0))) (h3 : w1.ownsRow (bo + 1) 25 1 v n xs)
    (ho : w5.ownsRow (bo + 1) 25 1 v5 (n + 1) xs5) (hg : (w1.alloc o).grownBy w5 v.ownBlock) (ha : v5.ownBlock = v.ownBlock ∨ v5.ownBlock = some (w1.alloc o).heap.size) :
    TryPost bo n D same w (.returned .nilIface) (w5.setCell ⟨bo, 0, none⟩ v5) := by
  have sg := hg.size
  simp only [World.size_alloc] at sg
  have s1 := hb.size
  have vb : ∀ k, v.ownBlock = some k → bo + 1 ≤ k := own_ge h3
  have b5 := own_ge ho
  have old : ∀ b, b < w1.heap.size → v.ownBlock ≠ some b → w5.heap[b]? = w1.heap[b]? := fun b hb hne => (hg.block b (by simp; omega) fun e => hne e.symm).trans (Below.heap_alloc _ _ _ hb)
  refine ⟨rfl, ⟨?_, fun b hlt hD => ?_⟩, fun b => b = bo ∨ v5.ownBlock = some b, n + 1, ⟨v5, xs5, fun b => Iff.rfl, ?_, ?_⟩, fun b hb => ?_, Nat.le_refl _, fun h => absurd h hs⟩
  · exact ((((hb.mono (Nat.zero_le _)).alloc (Nat.zero_le _) o).grown hg (Nat.zero_le _) fun _ _ => Nat.zero_le _).setCell (Nat.zero_le _) v5)
  · have n1 : b ≠ bo := fun e => hD ((h1 b).2 (.inl e))
    have n2 : v.ownBlock ≠ some b := fun e => hD ((h1 b).2 (.inr e))
    rw [Below.heap_setCell _ _ _ _ (by simpa using n1)]
    exact (old b (by omega) n2).trans (hb.block b hlt)
  · have h := Has.set ((old bo (Has.lt h2) (fun e => by have := vb bo e; omega)).trans h2) 0 v5
    simpa using h
  · exact own_keep ho fun k hk => Below.heap_setCell _ _ _ _ (by have := b5 k hk; simp; omega)
  · rcases hb with h | h
    · exact .inl ((h1 b).2 (.inl h))
    · rcases ha with e | e
      · exact .inl ((h1 b).2 (.inr (by rw [← e]; exact h)))
      · rw [e] at h; injection h with h; simp at h; exact .inr (by omega)
set_option maxRecDepth 100000 in
set_option maxHeartbeats 2000000 in
theorem try_any (g : Ge) (l m : List Int) (F D : Nat → Prop) (u v x c lv mv : Value) (bo bg bl n : Nat) (w : World) (hF : ∀ b, F b → b < w.heap.size) (hx : GeIn F w g u v x c) (hm : IntsIn .i64 F w mv m) (hl : IntsIn .i64 F w lv l)
    (hg : w.heap[bg]? = some (.cells #[u, v, x, c] 24 (0, 0))) (hb : w.heap[bl]? = some (.cells #[lv] 25 (0, 0))) (hR : LessR bo n D w) (hc : chkG g = 0) (hn : n ≤ 1000000000000) :
    Calls Tryd.prog 26 #[mv, .pointer (some ⟨bg, 0, none⟩), .pointer (some ⟨bl, 0, none⟩), .pointer (some ⟨bo, 0, none⟩)] w (TryPost bo n D (mendL g m = l) w) := by
  have HX := hid hx
  have HM := hid hm
  have HL := hid hl
  have HF := hid hF
  have MA := hid (mend_any g m F u v x c mv w HF.out HX.out HM.out)
  have MR : Hid (mendR g m = mendL g m) := by show _ = _; unfold mendR; rw [if_pos hc]
  have RG := hid (mendL_range g m hc)
  obtain ⟨k, a, b, s⟩ := g
  obtain ⟨A, cp, rfl, rfl, rfl, rfl, l1, l2, _⟩ := hx.box
  generalize hG : Ge.mk k a b s = G at *
  obtain ⟨Al, cl, rfl, _, _, _⟩ := hl
  obtain ⟨Am, cm, rfl, _, _, _⟩ := hm
  obtain ⟨v0, xs, r1, r2, r3⟩ := hR
  have R1 := hid r1
  have y0 := Has.cell hg 0
  have y1 := Has.cell hg 1
  have y2 := Has.cell hg 2
  have y3 := Has.cell hg 3
  have y4 := Has.cell hb 0
  simp at y0 y1 y2 y3 y4
  have HB := hid hb
  have R2 := hid r2
  have R3 := hid r3
  have HN := hid hn
  have HC := hid hc
  clear hF hx hG hg hb r1 r2 r3 hn hc
  go_enter Tryd.func26, Tryd.ntmps26
  go_wp2_with fail
  refine MA.out.mono ?_
  rintro e w1 ⟨rv, rfl, o1, b1⟩
  rw [HC.out, errV_0]
  rw [MR.out] at o1
  have O1 := hid o1
  have B1 := hid b1
  obtain ⟨A1, c1, rfl⟩ := own_slice3 o1
  have Q0 := hid (Has.below R2.out b1 (Has.lt R2.out))
  have Q1 := hid (Has.below HB.out b1 (Has.lt HB.out))
  have Q3 := hid (own_below R3.out b1)
  have q1 := Has.cell Q1.out 0
  have q0 := Has.cell Q0.out 0
  have f0 := Has.froz Q0.out 0
  simp at q0 q1
  clear o1 b1 y0 y1 y2 y3 y4 MA
  go_wp2_with fail
  refine (tless_any (mendL G m) l (fun b => F b ∨ (Value.slice A1 (mendL G m).length c1).ownBlock = some b) _ _ w1 ((own_intsR O1.out (wf1000 RG.out)).more fun b h => .inr h) ((HL.out.keep (Same.of_below B1.out HF.out)).more fun b h => .inl h)).mono ?_
  rintro e w2 ⟨cb, q, rfl, rfl, hcb⟩
  have B2 := hid (below_drewN B1.out q)
  have LR : Hid (LessR bo n D w) := ⟨v0, xs, R1.out, R2.out, R3.out⟩
  cases cb with
  | false =>
    clear hcb
    go_wp2_with fail
    go_ret
    exact ⟨rfl, OutsD.below B2.out (Nat.le_refl _), D, n, LR.out.keep fun b hb => B2.out.block b (LR.out.lt b hb).2, fun b h => .inl h, Nat.le_succ _, fun _ => rfl⟩
  | true =>
    have NS : Hid (¬ (mendL G m = l)) := fun h => by cases hcb h
    have Q4 : Hid ((w1.drewN q).heap[bo]? = some (.cells #[v0] 27 (0, 0))) := Q0.out
    have Q5 : Hid ((w1.drewN q).ownsRow (bo + 1) 25 1 v0 n xs) := Q3.out
    obtain ⟨A0, c0, rfl⟩ := own_slice3 Q5.out
    obtain ⟨i0, hi0, hz0, hz1, hz2⟩ := info_parts infoInts
    have LB := hid (Has.lt Q4.out)
    have HN2 := HN.out
    clear hcb
    go_wp2_with (at_builtin; refine wpList_app _ rfl (.tmp 20) (.tmp 22) 27 rfl (bo + 1) 25 i0 (.slice none 0 0) 1 24 Tryd.underlying27 hi0 hz0 hz1 hz2 rfl (by decide) _ _ _ rfl (Q5.out.alloc _) _ _ 1 [.slice A1 (mendL G m).length c1] rfl (cells_oneG _ _ _ (by simp)) (by intro u hu; simp at hu; subst hu; rfl) (by unfold maxLen; omega) (by omega) (by have := LB.out; simp at this ⊢; omega) ?_; intro v5 w5 hown5 hgrow5 hat5; have PF := hid (less_app NS.out B2.out R1.out Q4.out Q5.out hown5 hgrow5 hat5); have X5 := Has.grown (Has.alloc Q4.out (.cells #[.slice A1 (mendL G m).length c1] 25)) hgrow5 (fun e => by have := own_ge Q5.out _ e.symm; omega); have e5 := Has.cell X5 0; have g5 := Has.froz X5 0; simp at e5; obtain ⟨A5, c5, rfl⟩ := own_slice3 hown5; clear hown5 hgrow5 hat5 X5)
    go_ret
    exact PF.out
end Go.Proofs.YtopehfmppfibhaaDoor
