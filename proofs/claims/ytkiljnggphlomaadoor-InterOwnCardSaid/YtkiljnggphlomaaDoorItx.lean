/- What slices.Max returns of lens and a 0; append of one cell that leaves the row what it was. No conditions beyond 2^47 bytes. -/
import Derived.Test.YtkiljnggphlomaaDoorItw
import Derived.Maps.AppendAt
namespace Go.Proofs.YtkiljnggphlomaaDoor
open Go.RowKit Go.Deep
theorem nAt_sum {l : List Nat} {j : Nat} (hj : j < l.length) : nAt l j ≤ sumN l := by
  have h1 := sum_take_le l (j + 1)
  rw [nAt_take hj, sumN_append] at h1
  simp only [sumN, Nat.add_zero] at h1
  omega
theorem sum_pos {l : List Nat} (h : 0 < sumN l) : ∃ j, j < l.length ∧ 0 < nAt l j := by
  induction l with
  | nil => simp [sumN] at h
  | cons n l ih =>
    by_cases hn : 0 < n
    · exact ⟨0, by simp, by simpa [nAt] using hn⟩
    · obtain ⟨j, h1, h2⟩ := ih (by simp only [sumN] at h; omega)
      exact ⟨j + 1, by simp; omega, by simpa [nAt] using h2⟩
set_option maxHeartbeats 1000000 in
/-- the greatest is no less than each, and one of them -/
theorem max_any (zs : List Int) (F : Nat → Prop) (v : Value) (w : World) (hv : IntsIn .i64 F w v zs) (h0 : 0 < zs.length) :
    Calls Tryd.prog 60 #[v] w fun e w' => (∃ m : Int, e = .returned (.int .i64 m) ∧ (∀ j, j < zs.length → at0 zs j ≤ m) ∧ ∃ j, j < zs.length ∧ at0 zs j = m) ∧ w' = w := by
  obtain ⟨A, c, rfl, h1, _, h3⟩ := hv
  obtain ⟨b, o, rfl, hb, hc⟩ := h3 h0
  have HC := hid hc
  unfold maxLen at h1
  have c0 := hc 0 h0
  rw [Nat.add_zero] at c0
  have i0 : (0 : Int) < (zs.length : Int) := by omega
  have i1 : ¬ (zs.length : Int) < 1 := by omega
  have i2 : decide ((zs.length : Int) < 1) = false := decide_eq_false i1
  have i3 : ¬ zs.length < 1 := by omega
  have i4 : zs.length ≠ 0 := by omega
  clear hc h3
  obtain ⟨x0, hx0⟩ : ∃ x0, x0 = at0 zs 0 := ⟨_, rfl⟩
  have HX0 := hid hx0
  have E0 : zs.getD 0 0 = at0 zs 0 := rfl
  rw [E0, ← hx0] at c0
  clear hx0 E0
  go_enter Tryd.func60, Tryd.ntmps60
  go_wp2_with fail
  go_loop [3, 4] (fun mi ji => ∃ (j : Nat) (m : Int), 1 ≤ j ∧ j ≤ zs.length ∧ mi = .int .i64 m ∧ ji = .int .i64 j ∧ Hid ((∀ k, k < j → at0 zs k ≤ m) ∧ ∃ k, k < j ∧ at0 zs k = m)) (fun _ ji => zs.length - (intOf ji).toNat)
  case atStart => exact ⟨1, x0, Nat.le_refl _, h0, rfl, rfl, fun k hk => by rw [show k = 0 by omega, HX0.out]; exact Int.le_refl _, 0, by omega, HX0.out.symm⟩
  case round =>
    obtain ⟨j, m, hj1, hj, rfl, rfl, hM⟩ := hrel
    by_cases hlt : j < zs.length
    · have c1 := HC.out j hlt
      have E1 : zs.getD j 0 = at0 zs j := rfl
      rw [E1] at c1
      obtain ⟨x, hx⟩ : ∃ x, x = at0 zs j := ⟨_, rfl⟩
      have HX := hid hx
      rw [← hx] at c1
      have j1 : (j : Int) < (zs.length : Int) := by omega
      have N : Hid ((∀ k, k < j + 1 → at0 zs k ≤ max m x) ∧ ∃ k, k < j + 1 ∧ at0 zs k = max m x) := by
        refine ⟨fun k hk => ?_, ?_⟩
        · by_cases e : k = j
          · subst e; rw [← HX.out]; exact Int.le_max_right _ _
          · have := hM.out.1 k (by omega); exact Int.le_trans this (Int.le_max_left _ _)
        · obtain ⟨k, h1, h2⟩ := hM.out.2
          by_cases h : m ≤ x
          · exact ⟨j, by omega, by rw [← HX.out]; omega⟩
          · exact ⟨k, by omega, by rw [h2]; omega⟩
      clear hx E1
      go_wp2_with fail
      go_round
      case rel => exact ⟨j + 1, max m x, by omega, by omega, rfl, by go_num, N⟩
      case measure => simp [intOf]; omega
    · obtain rfl : j = zs.length := by omega
      go_wp2_with fail
      go_ret
      exact ⟨⟨m, rfl, hM.out.1, hM.out.2⟩, rfl⟩
theorem max_li {l : List Nat} {m : Int} (h1 : ∀ j, j < (li l ++ [0]).length → at0 (li l ++ [0]) j ≤ m) (h2 : ∃ j, j < (li l ++ [0]).length ∧ at0 (li l ++ [0]) j = m) : (0 < m ↔ 0 < sumN l) := by
  have at1 : ∀ j, j < l.length → at0 (li l ++ [0]) j = (nAt l j : Nat) := fun j hj => by
    rw [← li_at]; unfold at0
    rw [List.getD_eq_getElem?_getD, List.getD_eq_getElem?_getD, List.getElem?_append_left (by rw [li_len]; exact hj)]
  have at2 : at0 (li l ++ [0]) l.length = 0 := by
    unfold at0
    rw [List.getD_eq_getElem?_getD, List.getElem?_append_right (by rw [li_len]; exact Nat.le_refl _), li_len, Nat.sub_self]; rfl
  constructor
  · intro h
    obtain ⟨j, hj, e⟩ := h2
    rw [List.length_append, li_len, List.length_singleton] at hj
    by_cases h : j < l.length
    · rw [at1 j h] at e
      have := nAt_sum h
      omega
    · rw [show j = l.length by omega, at2] at e
      omega
  · intro h
    obtain ⟨j, hj, hp⟩ := sum_pos h
    have := h1 j (by rw [List.length_append, li_len]; omega)
    rw [at1 j hj] at this
    omega
/-- append of one cell: the longer row is of the call's own, and the row itself is what it was -/
theorem run_app_one {P : Program} (w : World) (base : Nat) (t ty e : TypeId) (i : TypeInfo) (z : Value) (bytes : Nat) (ht : P.underlying t = some (.slice e)) (hi : P.info? e = some i) (hz : i.zero = some z)
    (hsize : i.size = 1) (hby : i.bytes = bytes) (hzs : z.cells.size = 1) (v : Value) (n : Nat) (xs : List Value) (hown : w.ownsRow base e 1 v n xs) (ad : Addr) (c : Nat) (u : Value) (hu : w.cell? ad = some u) (h1 : u.oneCell' = true)
    (h63 : n + 1 ≤ maxLen) (hbytes : (n + 1) * bytes ≤ 140737488355328) (hbase : base ≤ w.heap.size) :
    ∃ v' w', (Builtin.append_ #[t, t] ty #[v, .slice (some ad) 1 c]).run P w = .ok v' w' ∧ w'.ownsRow base e 1 v' (n + 1) (xs ++ [u]) ∧ w.grownBy w' v.ownBlock ∧ w'.ownsRow base e 1 v n xs := by
  have hnews : ∀ (j : Nat) (u' : Value), [u][j]? = some u' → w.cell? (ad.add j) = some u' := by
    intro j u' hj
    match j, hj with
    | 0, hj => simp at hj; subst hj; simpa [Addr.add] using hu
  have hone : ∀ u' ∈ [u], u'.oneCell' = true := by intro u' h; simp at h; subst h; exact h1
  have hat := run_append_own_at (P := P) w base t ty e i z 1 bytes ht hi hz hsize hby hzs (by decide) v n xs hown ad 1 c [u] rfl hnews hone h63 hbytes hbase
  rcases hown.2 with ⟨rfl, rfl⟩ | ⟨g, cap, cur, rfl, hbg, hg, hnc, hcm, hcs, htake⟩
  · obtain ⟨v', w', hr, ho, hgr, _, _⟩ := hat
    have hx : xs = [] := List.eq_nil_of_length_eq_zero (by simpa using hown.1)
    subst hx
    exact ⟨v', w', hr, ho, hgr, World.ownsRow_nil _ _ _ _⟩
  · by_cases hroom : n + 1 ≤ cap
    · have hr := run_append_room (P := P) w t ty e i ht hi g n cap cur hg ad 1 c [u] (by rw [hsize]; rfl) hnews hone hroom (by rw [hsize, hcs]; simp; omega)
      obtain ⟨v', w', hr2, ho, hgr, _, _⟩ := hat
      rw [hr] at hr2
      injection hr2 with e1 e2
      subst e1 e2
      refine ⟨_, _, hr, ho, hgr, ⟨hown.1, .inr ⟨g, cap, _, rfl, hbg, setRow_heap w g cur _ e _ hg, hnc, hcm, ?_, ?_⟩⟩⟩
      · simp [hcs, hsize]; omega
      · rw [hsize, Nat.mul_one] at *
        have hl : (cur.toList.take n).length = n := by simp [hcs]; omega
        show ((cur.toList.take n ++ [u]) ++ _).take n = xs
        rw [List.append_assoc, List.take_append_of_le_length (by omega), List.take_of_length_le (by omega), htake]
    · have holds : ∀ j u, xs[j]? = some u → w.cell? ((⟨g, 0, none⟩ : Addr).add j) = some u := hown.cells (g := g) rfl
      have hsmall : n + 1 ≤ 9223372036854775807 := by simp only [maxLen] at h63; omega
      have hr := run_append_grow (P := P) w t ty e i z ht hi hz ⟨g, 0, none⟩ n cap xs (by rw [hsize]; exact hown.1) holds ad 1 c [u] (by rw [hsize]; rfl) hnews (by omega) (by omega) (growslice_fits (by omega) (by rw [hby]; exact hbytes))
      obtain ⟨v', w', hr2, ho, hgr, _, _⟩ := hat
      rw [hr] at hr2
      injection hr2 with e1 e2
      subst e1 e2
      exact ⟨_, _, hr, ho, hgr, own_keep hown fun k hk => by
        simp [Value.ownBlock] at hk
        subst hk
        exact Below.heap_alloc w.drew _ g (Has.lt hg)⟩
end Go.Proofs.YtkiljnggphlomaaDoor
