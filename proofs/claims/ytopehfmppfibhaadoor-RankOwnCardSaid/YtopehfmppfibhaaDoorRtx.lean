/- What rose.Less's try does (Less$1), to the list: it mends, and puts the tape into the list of the box where it is less. Conditions: the generator checks; the tape reads; the box and its list are apart. -/
import Derived.Test.YtopehfmppfibhaaDoorRtr
import Derived.Test.YtopehfmppfibhaaDoorRcx
namespace Go.Proofs.YtopehfmppfibhaaDoor
open Go.RowKit Go.Deep
/-- what is kept of a tape that is tried -/
def keepG (g : Ge) (l m : List Int) : List (List Int) := if tlessB (mendL g m) l then [mendL g m] else []
/-- rows of ints, each in a block of its own, no two in one -/
structure OwnRows (B : Nat) (v : Value) (w : World) (cs : List Value) (ll : List (List Int)) : Prop where
  len : cs.length = ll.length
  at_ : ∀ (i : Nat) r row, cs[i]? = some r → ll[i]? = some row → w.ownsRow B 3 1 r row.length (row.map (Value.int .i64)) ∧ ∀ b, r.ownBlock = some b → v.ownBlock ≠ some b
  ap : ∀ (i j : Nat) ri rj (b : Nat), i ≠ j → cs[i]? = some ri → cs[j]? = some rj → ri.ownBlock = some b → rj.ownBlock ≠ some b
  ok : ∀ row ∈ ll, row.length ≤ 1000000000 ∧ ∀ z ∈ row, 0 ≤ z ∧ z ≤ 1000
theorem own_baseR {w : World} {base base' : Nat} {e : TypeId} {size n : Nat} {v : Value} {xs : List Value} (h : w.ownsRow base e size v n xs) (hb : base' ≤ base) : w.ownsRow base' e size v n xs := by
  refine ⟨h.1, ?_⟩
  rcases h.2 with h | ⟨g, cap, cur, rfl, h1, h2⟩
  · exact .inl h
  · exact .inr ⟨g, cap, cur, rfl, by omega, h2⟩
section
variable {B B' : Nat} {v v5 r : Value} {w w' w1 w5 : World} {cs : List Value} {ll : List (List Int)} {row : List Int}
theorem OwnRows.nil_ : OwnRows B v w [] [] := ⟨rfl, by simp, by simp, by simp⟩
theorem OwnRows.keep (h : OwnRows B v w cs ll) (hs : ∀ b, B ≤ b → b < w.heap.size → v.ownBlock ≠ some b → w'.heap[b]? = w.heap[b]?) : OwnRows B v w' cs ll :=
  ⟨h.len, fun i r row h1 h2 => by
    obtain ⟨h3, h4⟩ := h.at_ i r row h1 h2
    exact ⟨own_keep h3 fun k hk => hs k (own_ge h3 k hk) (own_lt h3 k hk) (h4 k hk), h4⟩, h.ap, h.ok⟩
theorem OwnRows.base (h : OwnRows B v w cs ll) (hB : B' ≤ B) : OwnRows B' v w cs ll :=
  ⟨h.len, fun i r row h1 h2 => ⟨own_baseR (h.at_ i r row h1 h2).1 hB, (h.at_ i r row h1 h2).2⟩, h.ap, h.ok⟩
theorem OwnRows.lt (h : OwnRows B v w cs ll) {i : Nat} {r : Value} (hr : cs[i]? = some r) {b : Nat} (hb : r.ownBlock = some b) : b < w.heap.size := by
  have hi : i < cs.length := by
    rcases Nat.lt_or_ge i cs.length with h | h
    · exact h
    · rw [List.getElem?_eq_none h] at hr; cases hr
  exact own_lt (h.at_ i r (ll[i]'(by rw [← h.len]; exact hi)) hr (List.getElem?_eq_getElem _)).1 b hb
theorem OwnRows.snoc (h : OwnRows B v w cs ll) (hB : B ≤ w.heap.size) (_hv : ∀ b, v.ownBlock = some b → b < w.heap.size) (h1 : ∀ b, B ≤ b → b < w.heap.size → v.ownBlock ≠ some b → w5.heap[b]? = w.heap[b]?)
    (hr : w5.ownsRow w.heap.size 3 1 r row.length (row.map (Value.int .i64))) (hok : row.length ≤ 1000000000 ∧ ∀ z ∈ row, 0 ≤ z ∧ z ≤ 1000) (hn : ∀ b, r.ownBlock = some b → v5.ownBlock ≠ some b) (ha : v5.ownBlock = v.ownBlock ∨ ∀ b, v5.ownBlock = some b → w.heap.size ≤ b) : OwnRows B v5 w5 (cs ++ [r]) (ll ++ [row]) := by
  have hc : ∀ (i : Nat) x, (cs ++ [r])[i]? = some x → cs[i]? = some x ∨ (i = cs.length ∧ x = r) := fun i x hx => by
    by_cases hi : i < cs.length
    · rw [List.getElem?_append_left hi] at hx; exact .inl hx
    · rw [List.getElem?_append_right (by omega)] at hx
      have e : i - cs.length = 0 := by
        rcases Nat.eq_zero_or_pos (i - cs.length) with e | e
        · exact e
        · rw [List.getElem?_eq_none (by simp; omega)] at hx; cases hx
      rw [e] at hx
      exact .inr ⟨by omega, by simpa using hx.symm⟩
  have rge := own_ge hr
  refine ⟨by simp [h.len], fun i x y hx hy => ?_, fun i j x y b hij hx hy hb => ?_, fun x hx => ?_⟩
  · rcases hc i x hx with hx | ⟨rfl, rfl⟩
    · have hi : i < cs.length := by
        rcases Nat.lt_or_ge i cs.length with h | h
        · exact h
        · rw [List.getElem?_eq_none h] at hx; cases hx
      rw [List.getElem?_append_left (by rw [← h.len]; exact hi)] at hy
      obtain ⟨h3, h4⟩ := h.at_ i x y hx hy
      refine ⟨own_keep h3 fun k hk => h1 k (own_ge h3 k hk) (own_lt h3 k hk) (h4 k hk), fun b hb => ?_⟩
      rcases ha with e | e
      · rw [e]; exact h4 b hb
      · intro e2; have := e b e2; have := own_lt h3 b hb; omega
    · rw [h.len, List.getElem?_append_right (Nat.le_refl _), Nat.sub_self] at hy
      have hy' : row = y := by simpa using hy
      subst hy'
      exact ⟨own_baseR hr hB, hn⟩
  · rcases hc i x hx with hx' | ⟨rfl, rfl⟩
    · rcases hc j y hy with hy' | ⟨rfl, rfl⟩
      · exact h.ap i j x y b hij hx' hy' hb
      · intro e; have := h.lt hx' hb; have := rge b e; omega
    · rcases hc j y hy with hy' | ⟨rfl, rfl⟩
      · intro e; have := h.lt hy' e; have := rge b hb; omega
      · omega
  · rcases List.mem_append.1 hx with hx | hx
    · exact h.ok x hx
    · have hx' : x = row := by simpa using hx
      subst hx'; exact hok
end
/-- the list of the tapes that are less: in the box bo and in a row that is behind it, each in a row of its own -/
def LessX (bo : Nat) (ll : List (List Int)) (D : Nat → Prop) (w : World) : Prop := ∃ v cs, (∀ b, D b ↔ (b = bo ∨ v.ownBlock = some b)) ∧ w.heap[bo]? = some (.cells #[v] 27 (0, 0)) ∧ w.ownsRow (bo + 1) 25 1 v ll.length cs ∧ OwnRows (bo + 1) v w cs ll
theorem LessX.keep {bo : Nat} {ll : List (List Int)} {D : Nat → Prop} {w w' : World} (h : LessX bo ll D w) (hs : ∀ b, bo ≤ b → b < w.heap.size → w'.heap[b]? = w.heap[b]?) : LessX bo ll D w' := by
  obtain ⟨v, cs, h1, h2, h3, h4⟩ := h
  exact ⟨v, cs, h1, (hs bo (Nat.le_refl _) (Has.lt h2)).trans h2, own_keep h3 fun k hk => hs k (by have := own_ge h3 k hk; omega) (own_lt h3 k hk), h4.keep fun b hb hl _ => hs b (by omega) hl⟩
theorem LessX.lt {bo : Nat} {ll : List (List Int)} {D : Nat → Prop} {w : World} (h : LessX bo ll D w) : ∀ b, D b → bo ≤ b ∧ b < w.heap.size := fun b hb => by
  obtain ⟨v, cs, h1, h2, h3, h4⟩ := h
  rcases (h1 b).1 hb with rfl | hb
  · exact ⟨Nat.le_refl _, Has.lt h2⟩
  · exact ⟨by have := own_ge h3 b hb; omega, own_lt h3 b hb⟩
def TryX (bo : Nat) (ll : List (List Int)) (D : Nat → Prop) (w : World) (e : Ending) (w' : World) : Prop := e = .returned .nilIface ∧ OutsD D w w' ∧ ∃ D', LessX bo ll D' w' ∧ ∀ b, D' b → D b ∨ w.heap.size ≤ b
theorem lessX_app {bo : Nat} {ll : List (List Int)} {D : Nat → Prop} {w w1 w5 : World} {v v5 r : Value} {cs : List Value} {o : Obj} {row : List Int} (hb : Below w.heap.size w w1)
    (h1 : ∀ b, D b ↔ (b = bo ∨ v.ownBlock = some b)) (h2 : w1.heap[bo]? = some (.cells #[v] 27 (0, 0))) (h3 : w1.ownsRow (bo + 1) 25 1 v ll.length cs) (h3' : w.ownsRow (bo + 1) 25 1 v ll.length cs) (h4 : OwnRows (bo + 1) v w cs ll) (hbo : bo < w.heap.size)
    (hr : w1.ownsRow w.heap.size 3 1 r row.length (row.map (Value.int .i64))) (hok : row.length ≤ 1000000000 ∧ ∀ z ∈ row, 0 ≤ z ∧ z ≤ 1000)
    (ho : w5.ownsRow (bo + 1) 25 1 v5 (ll.length + 1) (cs ++ [r])) (hg : (w1.alloc o).grownBy w5 v.ownBlock) (ha : v5.ownBlock = v.ownBlock ∨ v5.ownBlock = some (w1.alloc o).heap.size) :
    TryX bo (ll ++ [row]) D w (.returned .nilIface) (w5.setCell ⟨bo, 0, none⟩ v5) := by
  have sg := hg.size
  simp only [World.size_alloc] at sg
  have s1 := hb.size
  have vb : ∀ k, v.ownBlock = some k → bo + 1 ≤ k := own_ge h3
  have vl : ∀ k, v.ownBlock = some k → k < w.heap.size := own_lt h3'
  have b5 := own_ge ho
  have old : ∀ b, b < w1.heap.size → v.ownBlock ≠ some b → w5.heap[b]? = w1.heap[b]? := fun b hb hne => (hg.block b (by simp; omega) fun e => hne e.symm).trans (Below.heap_alloc _ _ _ hb)
  have rg := own_ge hr
  have rl := own_lt hr
  refine ⟨rfl, ⟨?_, fun b hlt hD => ?_⟩, fun b => b = bo ∨ v5.ownBlock = some b, ⟨v5, cs ++ [r], fun b => Iff.rfl, ?_, ?_, ?_⟩, fun b hb => ?_⟩
  · exact ((((hb.mono (Nat.zero_le _)).alloc (Nat.zero_le _) o).grown hg (Nat.zero_le _) fun _ _ => Nat.zero_le _).setCell (Nat.zero_le _) v5)
  · have n1 : b ≠ bo := fun e => hD ((h1 b).2 (.inl e))
    have n2 : v.ownBlock ≠ some b := fun e => hD ((h1 b).2 (.inr e))
    rw [Below.heap_setCell _ _ _ _ (by simpa using n1)]
    exact (old b (by omega) n2).trans (hb.block b hlt)
  · have h := Has.set ((old bo (Has.lt h2) (fun e => by have := vb bo e; omega)).trans h2) 0 v5
    simpa using h
  · rw [List.length_append]
    exact own_keep ho fun k hk => Below.heap_setCell _ _ _ _ (by have := b5 k hk; simp; omega)
  · have key : ∀ b, bo + 1 ≤ b → b < w1.heap.size → v.ownBlock ≠ some b → (w5.setCell ⟨bo, 0, none⟩ v5).heap[b]? = w1.heap[b]? := fun b h5 h6 h7 => by
      rw [Below.heap_setCell _ _ _ _ (by simp; omega)]; exact old b h6 h7
    have rn : ∀ b, r.ownBlock = some b → v.ownBlock ≠ some b := fun b e e2 => by have := rg b e; have := vl b e2; omega
    have hr5 : (w5.setCell ⟨bo, 0, none⟩ v5).ownsRow w.heap.size 3 1 r row.length (row.map (Value.int .i64)) := own_keep hr fun k hk => key k (by have := rg k hk; omega) (rl k hk) (rn k hk)
    refine OwnRows.snoc (w := w) h4 hbo vl (fun b h5 h6 h7 => (key b h5 (by omega) h7).trans (hb.block b h6)) hr5 hok (fun b e e2 => ?_) ?_
    · rcases ha with e3 | e3
      · rw [e3] at e2; exact rn b e e2
      · rw [e3] at e2; injection e2 with e2; have := rl b e; simp at e2; omega
    · rcases ha with e3 | e3
      · exact .inl e3
      · right; intro b e2; rw [e3] at e2; injection e2 with e2; simp at e2; omega
  · rcases hb with h | h
    · exact .inl ((h1 b).2 (.inl h))
    · rcases ha with e | e
      · exact .inl ((h1 b).2 (.inr (by rw [← e]; exact h)))
      · rw [e] at h; injection h with h; simp at h; exact .inr (by omega)
set_option maxRecDepth 100000 in
set_option maxHeartbeats 2000000 in
theorem try_is (g : Ge) (l m : List Int) (F D : Nat → Prop) (u v x c lv mv : Value) (bo bg bl : Nat) (ll : List (List Int)) (w : World) (hF : ∀ b, F b → b < w.heap.size) (hx : GeIn F w g u v x c) (hm : IntsIn .i64 F w mv m) (hl : IntsIn .i64 F w lv l)
    (hg : w.heap[bg]? = some (.cells #[u, v, x, c] 24 (0, 0))) (hb : w.heap[bl]? = some (.cells #[lv] 25 (0, 0))) (hR : LessX bo ll D w) (hc : chkG g = 0) (hn : ll.length ≤ 1000000000000) :
    Calls Tryd.prog 26 #[mv, .pointer (some ⟨bg, 0, none⟩), .pointer (some ⟨bl, 0, none⟩), .pointer (some ⟨bo, 0, none⟩)] w (TryX bo (ll ++ keepG g l m) D w) := by
  have HX := hid hx
  have HM := hid hm
  have HL := hid hl
  have HF := hid hF
  have MA := hid (mend_any g m F u v x c mv w HF.out HX.out HM.out)
  have MR : Hid (mendR g m = mendL g m) := by show _ = _; unfold mendR; rw [if_pos hc]
  have RG := hid (mendL_range g m hc)
  have RL := hid (mendL_len g m hc)
  have KG : Hid (keepG g l m = if tlessB (mendL g m) l then [mendL g m] else []) := rfl
  obtain ⟨k, a, b, s⟩ := g
  obtain ⟨A, cp, rfl, rfl, rfl, rfl, l1, l2, _⟩ := hx.box
  generalize hG : Ge.mk k a b s = G at *
  obtain ⟨Al, cl, rfl, _, _, _⟩ := hl
  obtain ⟨Am, cm, rfl, _, _, _⟩ := hm
  obtain ⟨v0, xs, r1, r2, r3, r4⟩ := hR
  have R4 := hid r4
  have R1 := hid r1
  have y0 := Has.cell hg 0
  have y1 := Has.cell hg 1
  have y2 := Has.cell hg 2
  have y3 := Has.cell hg 3
  have y4 := Has.cell hb 0
  simp at y0 y1 y2 y3 y4
  have HB := hid hb
  have R2 := hid r2
  have R3 := hid r3
  have HN := hid hn
  have HC := hid hc
  clear hF hx hG hg hb r1 r2 r3 r4 hn hc
  go_enter Tryd.func26, Tryd.ntmps26
  go_wp2_with fail
  refine MA.out.mono ?_
  rintro e w1 ⟨rv, rfl, o1, b1⟩
  rw [HC.out, errV_0]
  rw [MR.out] at o1
  have O1 := hid o1
  have B1 := hid b1
  obtain ⟨A1, c1, rfl⟩ := own_slice3 o1
  have Q0 := hid (Has.below R2.out b1 (Has.lt R2.out))
  have Q1 := hid (Has.below HB.out b1 (Has.lt HB.out))
  have Q3 := hid (own_below R3.out b1)
  have q1 := Has.cell Q1.out 0
  have q0 := Has.cell Q0.out 0
  have f0 := Has.froz Q0.out 0
  simp at q0 q1
  clear o1 b1 y0 y1 y2 y3 y4 MA
  go_wp2_with fail
  refine (tless_is (mendL G m) l (fun b => F b ∨ (Value.slice A1 (mendL G m).length c1).ownBlock = some b) _ _ w1 ((own_intsR O1.out (wf1000 RG.out)).more fun b h => .inr h) ((HL.out.keep (Same.of_below B1.out HF.out)).more fun b h => .inl h)).mono ?_
  rintro e w2 ⟨q, rfl, rfl⟩
  generalize tlessB (mendL G m) l = cb at *
  have B2 := hid (below_drewN B1.out q)
  have LR : Hid (LessX bo ll D w) := ⟨v0, xs, R1.out, R2.out, R3.out, R4.out⟩
  cases cb with
  | false =>
    have KF : Hid (ll ++ keepG G l m = ll) := by show _ = _; rw [KG.out]; simp
    clear KG
    go_wp2_with fail
    go_ret
    rw [KF.out]
    exact ⟨rfl, OutsD.below B2.out (Nat.le_refl _), D, LR.out.keep fun b _ hb => B2.out.block b hb, fun b h => .inl h⟩
  | true =>
    have KF : Hid (keepG G l m = [mendL G m]) := by show _ = _; rw [KG.out]; rfl
    clear KG
    have HM1 : Hid ((w1.drewN q).ownsRow w.heap.size 3 1 (.slice A1 (mendL G m).length c1) (mendL G m).length ((mendL G m).map (Value.int .i64))) := O1.out
    have LB0 := hid (Has.lt R2.out)
    have Q4 : Hid ((w1.drewN q).heap[bo]? = some (.cells #[v0] 27 (0, 0))) := Q0.out
    have Q5 : Hid ((w1.drewN q).ownsRow (bo + 1) 25 1 v0 ll.length xs) := Q3.out
    obtain ⟨A0, c0, rfl⟩ := own_slice3 Q5.out
    obtain ⟨i0, hi0, hz0, hz1, hz2⟩ := info_parts infoInts
    have LB := hid (Has.lt Q4.out)
    have HN2 := HN.out
    go_wp2_with (at_builtin; refine wpList_app _ rfl (.tmp 20) (.tmp 22) 27 rfl (bo + 1) 25 i0 (.slice none 0 0) 1 24 Tryd.underlying27 hi0 hz0 hz1 hz2 rfl (by decide) _ _ _ rfl (Q5.out.alloc _) _ _ 1 [.slice A1 (mendL G m).length c1] rfl (cells_oneG _ _ _ (by simp)) (by intro u hu; simp at hu; subst hu; rfl) (by unfold maxLen; omega) (by omega) (by have := LB.out; simp at this ⊢; omega) ?_; intro v5 w5 hown5 hgrow5 hat5; have PF := hid (lessX_app B2.out R1.out Q4.out Q5.out R3.out R4.out LB0.out HM1.out ⟨RL.out, RG.out⟩ hown5 hgrow5 hat5); have X5 := Has.grown (Has.alloc Q4.out (.cells #[.slice A1 (mendL G m).length c1] 25)) hgrow5 (fun e => by have := own_ge Q5.out _ e.symm; omega); have e5 := Has.cell X5 0; have g5 := Has.froz X5 0; simp at e5; obtain ⟨A5, c5, rfl⟩ := own_slice3 hown5; clear hown5 hgrow5 hat5 X5)
    go_ret
    rw [KF.out]
    exact PF.out
end Go.Proofs.YtopehfmppfibhaaDoor
