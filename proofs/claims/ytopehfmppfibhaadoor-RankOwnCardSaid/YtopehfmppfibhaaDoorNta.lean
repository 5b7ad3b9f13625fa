/- What rank.Nth returns of whatever it is called with. No conditions. -/
import Derived.Test.YtopehfmppfibhaaDoorNth
namespace Go.Proofs.YtopehfmppfibhaaDoor
open Go.RowKit Go.Deep
set_option maxRecDepth 100000 in
set_option maxHeartbeats 4000000 in
theorem nth_any (g : Ge) (i : Int) (F : Nat → Prop) (u v x c : Value) (w : World) (hF : ∀ b, F b → b < w.heap.size) (hx : GeIn F w g u v x c) :
    Calls Tryd.prog 17 #[.agg #[u, v, x, c], .int .i64 i] w (NthPost g i w) := by
  by_cases h : nthE g i = 0
  · obtain ⟨h1, h2, h3, h4⟩ := nthL_rk h
    obtain ⟨i0, rfl⟩ : ∃ i0 : Nat, i = i0 := ⟨i.toNat, by omega⟩
    refine (nth_ok g i0 (nthL g i0) F u v x c w hF hx h4 (by omega) (by simpa using h1)).mono ?_
    rintro e w' ⟨v, rfl, h5, h6⟩
    exact ⟨v, by rw [h, errV_0], h5, h6⟩
  · have HX := hid (GeIn.more (F' := fun b => b < w.heap.size) hF _ hx)
    have CA := hid (count_any g)
    have HN := hid (nthL_nil h)
    have HE : Hid (cntE g ≠ 0 → nthE g i = cntE g) := fun hc => by unfold nthE; rw [if_pos hc]
    have HE2 : Hid (cntE g = 0 → (i < 0 ∨ (g.ways : Int) ≤ i) ∧ nthE g i = 1 ∧ cntN g = g.ways) := fun hc => by
      have h1 : i < 0 ∨ (g.ways : Int) ≤ i := by
        apply Classical.byContradiction
        intro h1
        apply h
        unfold nthE
        rw [if_neg (by simp [hc]), if_neg h1]
      refine ⟨h1, ?_, (cnt_good hc).2.2⟩
      unfold nthE
      rw [if_neg (by simp [hc]), if_pos h1]
    generalize hG : g = G at HX CA HN HE HE2 ⊢
    obtain ⟨k, a, b, s⟩ := g
    obtain ⟨A, cp, rfl, rfl, rfl, rfl, _, _, _⟩ := hx.box
    obtain ⟨W, hW⟩ : ∃ W, W = w.alloc (.cells #[.int .i64 k, .int .i64 a, .int .i64 b, .slice A s.length cp] 24) := ⟨_, rfl⟩
    have BW : Hid (Below w.heap.size w W) := by show Below _ _ _; rw [hW]; exact (Below.refl _ _).alloc (Nat.le_refl _) _
    have SW : W.heap.size = w.heap.size + 1 := by rw [hW]; simp
    have HW := hid hW
    clear hF hx hG hW h
    go_enter Tryd.func17, Tryd.ntmps17
    go_wp2_with fail
    rw [← HW.out]
    refine (CA.out (fun b => b < w.heap.size) _ _ _ _ _ (fun q hq => by omega) (GeIn.keep (Same.of_below BW.out fun q hq => hq) _ HX.out)).mono ?_
    rintro e w1 ⟨rfl, hb1⟩
    have B1 := hid (BW.out.trans (hb1.mono (by omega)))
    clear hb1
    have FIN : Hid (∀ n : Int, nthE G i = n → NthPost G i w (.returned (.tuple #[.slice none 0 0, errV n])) w1) := fun n hn => ⟨.slice none 0 0, by rw [hn], by rw [HN.out]; exact World.ownsRow_nil _ _ _ _, B1.out⟩
    by_cases hc : cntE G = 0
    · obtain ⟨h1, h2, h3⟩ := HE2.out hc
      have FF := hid (FIN.out 1 h2)
      rw [hc, errV_0, h3]
      rw [errV_no (show (1 : Int) ≠ 0 by decide)] at FF
      clear h2 h3 hc
      by_cases hneg : i < 0
      · clear h1
        go_wp2_with fail
        go_ret2
        exact FF.out
      · have hge : (G.ways : Int) ≤ i := by rcases h1 with h1 | h1 <;> omega
        clear h1
        go_wp2_with fail
        go_ret2
        exact FF.out
    · have FF := hid (FIN.out _ (HE.out hc))
      rw [errV_no hc] at FF ⊢
      go_wp2_with fail
      go_ret2
      exact FF.out
end Go.Proofs.YtopehfmppfibhaaDoor
