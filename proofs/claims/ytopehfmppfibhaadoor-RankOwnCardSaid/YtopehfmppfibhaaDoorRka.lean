/- What rank.Rank returns of whatever it is called with. No conditions. -/
import Derived.Test.YtopehfmppfibhaaDoorRkr
namespace Go.Proofs.YtopehfmppfibhaaDoor
open Go.RowKit Go.Deep
theorem replR_no {g : Ge} {t : List Int} {c : Int} (h : replR g t = .error c) : c ≠ 0 := by
  unfold replR at h
  split at h
  · rename_i hc
    injection h with h
    omega
  · cases hr : g.made.run (replayF t) 0 with
    | error c' =>
      rw [hr] at h
      injection h with h
      subst h
      exact run_replay_no t g.made 0 _ hr
    | ok p =>
      obtain ⟨pos, y⟩ := p
      rw [hr] at h
      simp only at h
      split at h
      · injection h with h; omega
      · cases h
def RankPost (g : Ge) (t : List Int) (w : World) (e : Ending) (w' : World) : Prop := (∃ n : Int, e = .returned (.tuple #[.int .i64 n, errV (rankE g t)])) ∧ Below w.heap.size w w'
set_option maxRecDepth 100000 in
set_option maxHeartbeats 4000000 in
theorem rank_any (g : Ge) (t : List Int) (F : Nat → Prop) (u v x c tv : Value) (w : World) (hF : ∀ b, F b → b < w.heap.size) (hx : GeIn F w g u v x c) (ht : IntsIn .i64 F w tv t) :
    Calls Tryd.prog 16 #[.agg #[u, v, x, c], tv] w (RankPost g t w) := by
  have HRE : Hid (∀ cc, cntE g = 0 → replR g t = .error cc → rankE g t = cc) := fun cc h1 h2 => by unfold rankE; rw [if_neg (by simp [h1]), h2]
  by_cases h : cntE g = 0 ∧ ∃ z, replR g t = .ok z
  · obtain ⟨hc, z, hz⟩ := h
    obtain ⟨R, hR⟩ := rank_of hz
    obtain ⟨_, hr, _, _⟩ := replR_ok hz
    refine (rank_ok g t R z F u v x c tv w hF hx ht hc hr hR).mono ?_
    rintro e w' ⟨rfl, h6⟩
    refine ⟨⟨(R : Int), ?_⟩, h6⟩
    have : rankE g t = 0 := by unfold rankE; rw [if_neg (by simp [hc]), hz]
    rw [this, errV_0]
  · have HX := hid (GeIn.more (F' := fun b => b < w.heap.size) hF _ hx)
    have HT : Hid (IntsIn .i64 (fun b => b < w.heap.size) w tv t) := ht.more hF
    have CA := hid (count_any g)
    have RA := hid (replay_any g t)
    have HE : Hid (cntE g ≠ 0 → rankE g t = cntE g) := fun hc => by unfold rankE; rw [if_pos hc]
    have HE2 : Hid (cntE g = 0 → ∃ cc, replR g t = .error cc ∧ rankE g t = cc ∧ cc ≠ 0) := fun hc => by
      cases hz : replR g t with
      | ok z => exact absurd ⟨hc, z, hz⟩ h
      | error cc => exact ⟨cc, rfl, HRE.out cc hc hz, replR_no hz⟩
    generalize hG : g = G at HX CA RA HE HE2 ⊢
    obtain ⟨k, a, b, s⟩ := g
    obtain ⟨A, cp, rfl, rfl, rfl, rfl, _, _, _⟩ := hx.box
    obtain ⟨At, ct, rfl, tm, _, _⟩ := ht
    obtain ⟨W, hW⟩ : ∃ W, W = w.alloc (.cells #[.int .i64 k, .int .i64 a, .int .i64 b, .slice A s.length cp] 24) := ⟨_, rfl⟩
    have BW : Hid (Below w.heap.size w W) := by show Below _ _ _; rw [hW]; exact (Below.refl _ _).alloc (Nat.le_refl _) _
    have SW : W.heap.size = w.heap.size + 1 := by rw [hW]; simp
    have X0 := hid (Has.new w (.cells #[.int .i64 k, .int .i64 a, .int .i64 b, .slice A s.length cp] 24))
    rw [← hW] at X0
    have HW := hid hW
    clear hF hx hG hW h tm HRE
    go_enter Tryd.func16, Tryd.ntmps16
    go_wp2_with fail
    rw [← HW.out]
    refine (CA.out (fun b => b < w.heap.size) _ _ _ _ _ (fun q hq => by omega) (GeIn.keep (Same.of_below BW.out fun q hq => hq) _ HX.out)).mono ?_
    rintro e w1 ⟨rfl, hb1⟩
    have B1 := hid (BW.out.trans (hb1.mono (by omega)))
    have s1 := hb1.size
    have X1 := Has.below X0.out hb1 (by omega)
    have x0 := Has.cell X1 0
    have x1 := Has.cell X1 1
    have x2 := Has.cell X1 2
    have x3 := Has.cell X1 3
    simp at x0 x1 x2 x3
    clear hb1 X1
    have FIN : Hid (∀ (n : Int) (w' : World), rankE G t = n → Below w.heap.size w w' → RankPost G t w (.returned (.tuple #[.int .i64 0, errV n])) w') := fun n w' h1 h2 => ⟨⟨0, by rw [h1]⟩, h2⟩
    by_cases hc : cntE G = 0
    · obtain ⟨cc, h1, h2, h3⟩ := HE2.out hc
      have H1 := hid h1
      have H2 := hid h2
      have H3 := hid h3
      have lw : w.heap.size < w1.heap.size := by omega
      rw [hc, errV_0]
      clear h1 h2 h3 hc
      go_wp2_with fail
      refine (RA.out (fun b => b < w.heap.size) _ _ _ _ _ w1 (fun q hq => by omega) (GeIn.keep (Same.of_below B1.out fun q hq => hq) _ HX.out) (HT.out.keep (Same.of_below B1.out fun q hq => hq))).mono ?_
      rintro e w2 ⟨hb2, he⟩
      rw [H1.out] at he
      simp only at he
      obtain ⟨_, rfl⟩ := he
      have B2 := hid (B1.out.trans (hb2.mono (by omega)))
      rw [errV_no H3.out]
      clear hb2
      go_wp2_with fail
      go_ret2
      have FF := FIN.out _ _ H2.out (B2.out.alloc (by have := B2.out.size; omega) (.cells #[.bool false, .int .i64 0, .slice none 0 0] 47))
      rw [errV_no H3.out] at FF
      exact FF
    · have h2 := hid (HE.out hc)
      have H3 := hid hc
      rw [errV_no hc]
      clear hc
      go_wp2_with fail
      go_ret2
      have FF := FIN.out _ _ h2.out B1.out
      rw [errV_no H3.out] at FF
      exact FF
end Go.Proofs.YtopehfmppfibhaaDoor
