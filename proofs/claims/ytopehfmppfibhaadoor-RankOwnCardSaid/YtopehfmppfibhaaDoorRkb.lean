/- Lists of generators in rows of the call's own; what rank.times and rank.branches return of right generators. Conditions: those. -/
import Derived.Test.YtopehfmppfibhaaDoorRkc
import Derived.Test.YtopehfmppfibhaaDoorBas
import Derived.Deep.RegionLaw
import Derived.Deep.OwnRows
import Derived.Test.YtopehfmppfibhaaDoorGmd
namespace Go.Proofs.YtopehfmppfibhaaDoor
open Go.RowKit Go.Deep
theorem infoGe : (Tryd.prog.info? 24).map (fun i => (i.zero, i.size, i.bytes)) = some (some (.agg #[.int .i64 0, .int .i64 0, .int .i64 0, .slice none 0 0]), 4, 48) := by kernel_rfl
theorem infoGes : (Tryd.prog.info? 22).map (fun i => (i.zero, i.size, i.bytes)) = some (some (.slice none 0 0), 1, 24) := by kernel_rfl
section
variable {F F' : Nat → Prop} {w w' : World}
/-- a list's cells, four each -/
def GeCells (F : Nat → Prop) (w : World) (cs : List Value) (l : List Ge) : Prop :=
  cs.length = l.length * 4 ∧ ∀ i, (h : i < l.length) → ∃ u v x c, cs[i * 4]? = some u ∧ cs[i * 4 + 1]? = some v ∧ cs[i * 4 + 2]? = some x ∧ cs[i * 4 + 3]? = some c ∧ GeIn F w l[i] u v x c
theorem GeCells.nil_ : GeCells F w [] [] := ⟨rfl, fun i h => by simp at h⟩
theorem GeCells.keep {cs : List Value} {l : List Ge} (h : GeCells F w cs l) (hs : Same F w w') : GeCells F w' cs l :=
  ⟨h.1, fun i hi => by obtain ⟨a, b, x, c, h1, h2, h3, h4, h5⟩ := h.2 i hi; exact ⟨a, b, x, c, h1, h2, h3, h4, GeIn.keep hs _ h5⟩⟩
theorem GeCells.more {cs : List Value} {l : List Ge} (h : GeCells F w cs l) (hF : ∀ b, F b → F' b) : GeCells F' w cs l :=
  ⟨h.1, fun i hi => by obtain ⟨a, b, x, c, h1, h2, h3, h4, h5⟩ := h.2 i hi; exact ⟨a, b, x, c, h1, h2, h3, h4, GeIn.more hF _ h5⟩⟩
theorem GeCells.one {g : Ge} {a b x c : Value} (h : GeIn F w g a b x c) : GeCells F w [a, b, x, c] [g] :=
  ⟨rfl, fun i hi => by
    obtain rfl : i = 0 := by simpa using hi
    exact ⟨a, b, x, c, rfl, rfl, rfl, rfl, h⟩⟩
theorem GeCells.append {cs cs' : List Value} {l l' : List Ge} (h : GeCells F w cs l) (h' : GeCells F w cs' l') : GeCells F w (cs ++ cs') (l ++ l') := by
  refine ⟨by simp [h.1, h'.1, Nat.add_mul], fun i hi => ?_⟩
  have l1 := h.1
  by_cases hl : i < l.length
  · obtain ⟨a, b, x, c, h1, h2, h3, h4, h5⟩ := h.2 i hl
    refine ⟨a, b, x, c, ?_, ?_, ?_, ?_, by rw [List.getElem_append_left hl]; exact h5⟩ <;> rw [List.getElem?_append_left (by omega)] <;> assumption
  · have hi' : i - l.length < l'.length := by rw [List.length_append] at hi; omega
    obtain ⟨a, b, x, c, h1, h2, h3, h4, h5⟩ := h'.2 (i - l.length) hi'
    refine ⟨a, b, x, c, ?_, ?_, ?_, ?_, by rw [List.getElem_append_right (by omega)]; exact h5⟩
    · rw [List.getElem?_append_right (by omega), show i * 4 - cs.length = (i - l.length) * 4 by omega]; exact h1
    · rw [List.getElem?_append_right (by omega), show i * 4 + 1 - cs.length = (i - l.length) * 4 + 1 by omega]; exact h2
    · rw [List.getElem?_append_right (by omega), show i * 4 + 2 - cs.length = (i - l.length) * 4 + 2 by omega]; exact h3
    · rw [List.getElem?_append_right (by omega), show i * 4 + 3 - cs.length = (i - l.length) * 4 + 3 by omega]; exact h4
theorem GeIn.ones {g : Ge} {u v x c : Value} (h : GeIn F w g u v x c) : u.oneCell' = true ∧ v.oneCell' = true ∧ x.oneCell' = true ∧ c.oneCell' = true := by
  obtain ⟨k, a, b, s⟩ := g
  obtain ⟨A, cp, rfl, rfl, rfl, rfl, _⟩ := h.box
  exact ⟨rfl, rfl, rfl, rfl⟩
theorem GeCells.ones {cs : List Value} {l : List Ge} (h : GeCells F w cs l) : ∀ u ∈ cs, u.oneCell' = true := by
  intro u hu
  obtain ⟨j, hj, rfl⟩ := List.getElem_of_mem hu
  have l1 := h.1
  obtain ⟨a, b, x, c, h1, h2, h3, h4, h5⟩ := h.2 (j / 4) (by omega)
  obtain ⟨o1, o2, o3, o4⟩ := h5.ones
  have key : ∀ m (v : Value), j = m → cs[m]? = some v → v.oneCell' = true → cs[j].oneCell' = true := fun m v e hm ho => by
    subst e
    rw [List.getElem?_eq_getElem hj] at hm
    injection hm with hm
    rw [hm]; exact ho
  have hj4 : j = j / 4 * 4 + j % 4 := by omega
  have h4' : j % 4 < 4 := by omega
  rcases (by omega : j % 4 = 0 ∨ j % 4 = 1 ∨ j % 4 = 2 ∨ j % 4 = 3) with e | e | e | e
  · exact key _ _ (by omega) h1 o1
  · exact key _ _ (by omega) h2 o2
  · exact key _ _ (by omega) h3 o3
  · exact key _ _ (by omega) h4 o4
theorem choose4 {n : Nat} {p : Nat → Value → Value → Value → Value → Prop} (h : ∀ i, i < n → ∃ u v x c, p i u v x c) : ∃ f : Nat → Value × Value × Value × Value, ∀ i, i < n → p i (f i).1 (f i).2.1 (f i).2.2.1 (f i).2.2.2 := by
  refine ⟨fun i => if hi : i < n then ⟨(h i hi).choose, (h i hi).choose_spec.choose, (h i hi).choose_spec.choose_spec.choose, (h i hi).choose_spec.choose_spec.choose_spec.choose⟩ else ⟨undef, undef, undef, undef⟩, fun i hi => ?_⟩
  simp only [dif_pos hi]
  exact (h i hi).choose_spec.choose_spec.choose_spec.choose_spec
/-- the cells of a list behind a slice -/
theorem GesV.cells {v : Value} {l : List Ge} (h : GesV F w v l) : ∃ cs, CellsIn F w 4 v l.length cs ∧ GeCells F w cs l := by
  obtain ⟨A, c, rfl, h1, h2, h4⟩ := h
  by_cases hn : 0 < l.length
  · obtain ⟨bl, off, rfl, hF, hx⟩ := h4 hn
    obtain ⟨f, hf⟩ := choose4 (n := l.length) (p := fun i u v x c => ∃ h : i < l.length, w.cell? ⟨bl, off + i * 4, none⟩ = some u ∧ w.cell? ⟨bl, off + i * 4 + 1, none⟩ = some v ∧ w.cell? ⟨bl, off + i * 4 + 2, none⟩ = some x ∧ w.cell? ⟨bl, off + i * 4 + 3, none⟩ = some c ∧ GeIn F w l[i] u v x c) fun i hi => by
      obtain ⟨u, v, x, c, q⟩ := hx.at_ hi
      exact ⟨u, v, x, c, hi, q⟩
    have key : ∀ j, j < l.length * 4 → ∃ u, w.cell? ⟨bl, off + j, none⟩ = some u := fun j hj => by
      obtain ⟨_, q1, q2, q3, q4, _⟩ := hf (j / 4) (by omega)
      rcases (by omega : j = j / 4 * 4 ∨ j = j / 4 * 4 + 1 ∨ j = j / 4 * 4 + 2 ∨ j = j / 4 * 4 + 3) with e | e | e | e
      · exact ⟨_, by rw [e]; exact q1⟩
      · exact ⟨_, by rw [e, ← Nat.add_assoc]; exact q2⟩
      · exact ⟨_, by rw [e, ← Nat.add_assoc]; exact q3⟩
      · exact ⟨_, by rw [e, ← Nat.add_assoc]; exact q4⟩
    have hg : ∀ j, j < l.length * 4 → ((List.range (l.length * 4)).map fun j => (w.cell? ⟨bl, off + j, none⟩).getD undef)[j]? = w.cell? ⟨bl, off + j, none⟩ := fun j hj => by
      obtain ⟨u, hu⟩ := key j hj
      simp [hj, hu]
    refine ⟨(List.range (l.length * 4)).map fun j => (w.cell? ⟨bl, off + j, none⟩).getD undef, ⟨_, c, rfl, by simp, fun _ => ⟨bl, off, rfl, hF, fun j u hj => ?_⟩⟩, by simp, fun i hi => ?_⟩
    · have hlt : j < l.length * 4 := by
        rcases Nat.lt_or_ge j (l.length * 4) with h | h
        · exact h
        · rw [List.getElem?_eq_none (by simpa using h)] at hj; cases hj
      rw [hg j hlt] at hj; exact hj
    · obtain ⟨_, q1, q2, q3, q4, q5⟩ := hf i hi
      refine ⟨_, _, _, _, ?_, ?_, ?_, ?_, q5⟩
      · rw [hg _ (by omega)]; exact q1
      · rw [hg _ (by omega), ← Nat.add_assoc]; exact q2
      · rw [hg _ (by omega), ← Nat.add_assoc]; exact q3
      · rw [hg _ (by omega), ← Nat.add_assoc]; exact q4
  · have h0 : l = [] := List.eq_nil_of_length_eq_zero (by omega)
    subst h0
    exact ⟨[], ⟨A, c, rfl, by simp, fun h => absurd h hn⟩, GeCells.nil_⟩
/-- what the call owns, read as a list of generators -/
theorem gesV_own {base : Nat} {e : TypeId} {v : Value} {cs : List Value} {l : List Ge} (h : w.ownsRow base e 4 v l.length cs) (hc : GeCells F w cs l) (hF : ∀ b, F b → F' b) (hF2 : ∀ b, v.ownBlock = some b → F' b) : GesV F' w v l := by
  rcases h.2 with ⟨rfl, h0⟩ | ⟨g, cap, cur, rfl, hb, hh, hc1, hc2, _⟩
  · exact ⟨none, 0, by rw [h0], by omega, by omega, fun h => absurd h (by omega)⟩
  · refine ⟨_, cap, rfl, hc1, by unfold maxLen at hc2; omega, fun hn => ⟨g, 0, rfl, hF2 g rfl, ?_⟩⟩
    refine GesIn.more hF _ (GesIn.mk_ fun i hi => ?_)
    obtain ⟨a, b, x, c, h1, h2, h3, h4, h5⟩ := hc.2 i hi
    have l1 := hc.1
    have key : ∀ j, j < l.length * 4 → w.cell? ⟨g, j, none⟩ = cs[j]? := fun j hj => h.cellAt j hj
    refine ⟨a, b, x, c, ?_, ?_, ?_, ?_, h5⟩
    · rw [Nat.zero_add]; exact (key _ (by omega)).trans h1
    · rw [Nat.zero_add]; exact (key _ (by omega)).trans h2
    · rw [Nat.zero_add]; exact (key _ (by omega)).trans h3
    · rw [Nat.zero_add]; exact (key _ (by omega)).trans h4
end
theorem cells_four (w : World) (a b x c : Value) (t : TypeId) {g : Nat} (hg : g = w.heap.size) : CellsIn (fun b => b = g) (w.alloc (.cells #[a, b, x, c] t)) 4 (.slice (some ⟨g, 0, none⟩) 1 1) 1 [a, b, x, c] := by
  subst hg
  exact ⟨_, 1, rfl, rfl, fun _ => ⟨w.heap.size, 0, rfl, rfl, fun j u hj => by
    match j, hj with
    | 0, hj => simp at hj; subst hj; simp
    | 1, hj => simp at hj; subst hj; simp
    | 2, hj => simp at hj; subst hj; simp
    | 3, hj => simp at hj; subst hj; simp⟩⟩
def TimesPost (F : Nat → Prop) (g : Ge) (n : Nat) (w : World) (e : Ending) (w' : World) : Prop := ∃ v, e = .returned v ∧ GesV (fun b => (w.heap.size ≤ b ∧ b < w'.heap.size) ∨ F b) w' v (List.replicate n g) ∧ Below w.heap.size w w'
set_option maxRecDepth 100000 in
set_option maxHeartbeats 2000000 in
theorem times_any (g : Ge) (n : Nat) (hn : n ≤ 5) (F : Nat → Prop) (u v x c : Value) (w : World) (hF : ∀ b, F b → b < w.heap.size) (hx : GeIn F w g u v x c) :
    Calls Tryd.prog 51 #[.agg #[u, v, x, c], .int .i64 n] w (TimesPost F g n w) := by
  have HF := hid hF
  have HX := hid hx
  generalize hG : g = G at HX ⊢
  obtain ⟨k, a, b, s⟩ := g
  obtain ⟨A, cp, rfl, rfl, rfl, rfl, l1, l2, _⟩ := hx.box
  have X0 := hid (Has.new w (.cells #[.int .i64 k, .int .i64 a, .int .i64 b, .slice A s.length cp] 24))
  obtain ⟨W, hW⟩ : ∃ W, W = w.alloc (.cells #[.int .i64 k, .int .i64 a, .int .i64 b, .slice A s.length cp] 24) := ⟨_, rfl⟩
  have SW : W.heap.size = w.heap.size + 1 := by rw [hW]; simp
  have BW : Hid (Below w.heap.size w W) := by show Below _ _ _; rw [hW]; exact (Below.refl _ _).alloc (Nat.le_refl _) _
  rw [← hW] at X0
  have HW := hid hW
  obtain ⟨i0, hi0, hz0, hz1, hz2⟩ := info_parts infoGe
  clear hF hx hG hW
  go_enter Tryd.func51, Tryd.ntmps51
  go_wp2_with fail
  rw [← HW.out]
  go_loopw [5, 7] (fun ov iv wr => ∃ (i : Nat) (cs : List Value), i ≤ n ∧ iv = .int .i64 i ∧ Hid (wr.ownsRow W.heap.size 24 4 ov i cs) ∧ Hid (GeCells F wr cs (List.replicate i G)) ∧ Hid (Below W.heap.size W wr)) (fun _ iv _ => n - (intOf iv).toNat)
  case atStart => exact ⟨0, [], Nat.zero_le _, rfl, World.ownsRow_nil _ _ _ _, GeCells.nil_, Below.refl _ _⟩
  case round =>
    obtain ⟨i, cs, hi, rfl, hO, hC, hB⟩ := hrel
    obtain ⟨wo, rfl⟩ : ∃ wo : World, wo = wr := ⟨_, rfl⟩
    have lB := hB.out.size
    by_cases hlt : i < n
    · have X1 := Has.below X0.out hB.out (by omega)
      have x0 := Has.cell X1 0
      have x1 := Has.cell X1 1
      have x2 := Has.cell X1 2
      have x3 := Has.cell X1 3
      simp at x0 x1 x2 x3
      have i1 : (i : Int) < (n : Int) := by omega
      have O2 := hid (hO.out.alloc (.cells #[.int .i64 k, .int .i64 a, .int .i64 b, .slice A s.length cp] 24))
      have C2 := hid (cells_four wo (.int .i64 k) (.int .i64 a) (.int .i64 b) (.slice A s.length cp) 24 rfl)
      clear X1
      go_wp2_with (at_builtin; refine wpList_app _ rfl (.tmp 9) (.tmp 11) 22 rfl W.heap.size 24 i0 (.agg #[.int .i64 0, .int .i64 0, .int .i64 0, .slice none 0 0]) 4 48 Tryd.underlying22 hi0 hz0 hz1 hz2 rfl (by decide) _ _ _ rfl O2.out _ _ 1 _ rfl C2.out (by intro u hu; simp at hu; rcases hu with rfl | rfl | rfl | rfl <;> rfl) (by unfold maxLen; omega) (by omega) (by simp; omega) ?_; intro v1 w1 hown hgrow hat; have R1 := hid hown; have G1 := hid hgrow; clear hown hgrow hat)
      have B1 : Hid (Below W.heap.size W _) := (hB.out.alloc lB (.cells #[.int .i64 k, .int .i64 a, .int .i64 b, .slice A s.length cp] 24)).grown G1.out (by simp; omega) (own_ge O2.out)
      have BL : Hid (Same F wo w1) := fun q hq => by
        replace hq := HF.out q hq
        have h1 := G1.out.block q (by simp; omega) (fun e => by have := own_ge O2.out _ e.symm; omega)
        exact h1.trans (Below.heap_alloc _ _ _ (by omega))
      have GN : Hid (GeIn F w1 G (.int .i64 k) (.int .i64 a) (.int .i64 b) (.slice A s.length cp)) := GeIn.keep (fun q hq => (BL.out q hq).trans ((hB.out.block q (by have := HF.out q hq; omega)).trans (BW.out.block q (HF.out q hq)))) _ HX.out
      have C3 : Hid (GeCells F w1 (cs ++ [.int .i64 k, .int .i64 a, .int .i64 b, .slice A s.length cp]) (List.replicate (i + 1) G)) := by
        show GeCells _ _ _ _
        rw [List.replicate_succ']
        exact (hC.out.keep BL.out).append (GeCells.one GN.out)
      clear G1 C2 O2
      go_roundw
      case rel => exact ⟨i + 1, _, by omega, by go_num, R1, C3, B1⟩
      case measure => simp [intOf]; omega
    · obtain rfl : i = n := by omega
      have FIN : Hid (GesV (fun b => (w.heap.size ≤ b ∧ b < wo.heap.size) ∨ F b) wo _ (List.replicate i G)) := gesV_own (by rw [List.length_replicate]; exact hO.out) hC.out (fun b hb => .inr hb) (fun b hb => .inl ⟨by have := own_ge hO.out b hb; omega, own_lt hO.out b hb⟩)
      have BF := hid (BW.out.trans (hB.out.mono (by omega)))
      go_wp2_with fail
      go_ret
      exact ⟨_, rfl, FIN.out, BF.out⟩
end Go.Proofs.YtopehfmppfibhaaDoor
