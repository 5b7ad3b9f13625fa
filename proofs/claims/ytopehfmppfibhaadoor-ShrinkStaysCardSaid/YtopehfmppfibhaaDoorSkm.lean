/- What a right generator makes has no fault as a value; where a walk that never ends early stands: no tape is less there. No program in sight. No conditions. -/
import Derived.Test.YtopehfmppfibhaaDoorShw
namespace Go.Proofs.YtopehfmppfibhaaDoor
open Go.RowKit
theorem all_mem {S α : Type} {f : S → Int → Except Int (S × Int)} : ∀ (cs : List (Ch α)) {s s' : S} {l : List α}, (Ch.all cs).run f s = .ok (s', l) → ∀ v ∈ l, ∃ c ∈ cs, ∃ s1 s2, c.run f s1 = .ok (s2, v)
  | [], _, _, _, h, v, hv => by
    rw [Ch.all, Ch.run] at h
    injection h with h
    injection h with _ h
    rw [← h] at hv; cases hv
  | c :: r, s, s', l, h, v, hv => by
    rw [all_cons_run] at h
    cases hc : c.run f s with
    | error e => rw [hc] at h; cases h
    | ok p =>
      obtain ⟨s1, x⟩ := p
      rw [hc] at h
      simp only [thenR] at h
      cases hr : (Ch.all r).run f s1 with
      | error e => rw [hr] at h; cases h
      | ok q =>
        obtain ⟨s2, l2⟩ := q
        rw [hr] at h
        simp only [glueR] at h
        injection h with h
        injection h with _ h
        rw [← h] at hv
        rcases List.mem_cons.1 hv with rfl | hv
        · exact ⟨c, by simp, s, s1, hc⟩
        · obtain ⟨c', h1, h2⟩ := all_mem r hr v hv
          exact ⟨c', by simp [h1], h2⟩
theorem vas_ok : ∀ (l : List Va) (d : Nat), (∀ v ∈ l, v.err d = 0) → Vas.err l d = 0
  | [], _, _ => by rw [Vas.err]
  | v :: r, d, h => by
    rw [Vas.err, if_neg (by rw [h v (by simp)]; simp)]
    exact vas_ok r d fun v hv => h v (by simp [hv])
theorem leaf_ok (a : Int) (d : Nat) (hd : d < 6) : (Va.mk false a []).err d = 0 := by
  rw [Va.err, if_neg (by simp [badV]), if_neg (by omega), Vas.err]
theorem list_ok (l : List Va) (d : Nat) (hd : d < 6) (h : ∀ v ∈ l, v.err (d + 1) = 0) : (Va.mk true 0 l).err d = 0 := by
  rw [Va.err, if_neg (by simp [badV]), if_neg (by omega)]
  exact vas_ok l _ h
theorem mades_mem {s : List Ge} {c : Ch Va} (h : c ∈ Ges.mades s) : ∃ y ∈ s, c = y.made := by
  obtain ⟨i, hi, rfl⟩ := List.getElem_of_mem h
  have hi' : i < s.length := by rw [mades_len] at hi; exact hi
  refine ⟨s[i], List.getElem_mem hi', ?_⟩
  have := mades_getD s i hi' (.done default)
  rwa [List.getD_eq_getElem?_getD, List.getElem?_eq_getElem hi] at this
theorem made_val {S : Type} (f : S → Int → Except Int (S × Int)) (hf : ∀ s m s' x, f s m = .ok (s', x) → 0 ≤ m → 0 ≤ x ∧ x ≤ m) : ∀ (g : Ge) (n d : Nat) (s s' : S) (z : Va), g.high n → g.err = 0 → d + n ≤ 6 → g.made.run f s = .ok (s', z) → z.err d = 0 := by
  refine Ge.ind fun k a b sub ih => ?_
  intro n d s s' z hh he hd hr
  cases n with
  | zero => rw [Ge.high] at hh; exact hh.elim
  | succ n =>
    rw [Ge.high] at hh
    obtain ⟨h1, h2⟩ := Ge.err_parts he
    rw [Ge.made] at hr
    by_cases k1 : k = 1
    · subst k1
      simp only [madeM, if_true, Ch.run] at hr
      injection hr with hr
      injection hr with _ hr
      rw [← hr]; exact leaf_ok a d (by omega)
    by_cases k2 : k = 2
    · subst k2
      simp only [madeM, show ¬ ((2 : Int) = 1) by decide, if_false, if_true] at hr
      obtain ⟨s1, x, _, hr⟩ := ask_ok hr
      rw [Ch.run] at hr
      injection hr with hr
      injection hr with _ hr
      rw [← hr]; exact leaf_ok _ d (by omega)
    by_cases k3 : k = 3
    · subst k3
      simp only [madeM, show ¬ ((3 : Int) = 1) by decide, show ¬ ((3 : Int) = 2) by decide, if_false, if_true] at hr
      rw [bind_list_run] at hr
      cases hc : (Ch.all (Ges.mades sub)).run f s with
      | error e => rw [hc] at hr; cases hr
      | ok p =>
        obtain ⟨s1, l⟩ := p
        rw [hc] at hr
        simp only [listR] at hr
        injection hr with hr
        injection hr with _ hr
        rw [← hr]
        refine list_ok l d (by omega) fun v hv => ?_
        obtain ⟨c, hcm, s1, s2, hcr⟩ := all_mem _ hc v hv
        obtain ⟨y, hy, rfl⟩ := mades_mem hcm
        exact ih y hy n (d + 1) s1 s2 v (Ges.high_mem hh y hy) (h2 y hy) (by omega) hcr
    by_cases k4 : k = 4
    · subst k4
      have h1' := h1
      unfold oneE at h1'
      rw [if_neg (by omega), if_pos rfl] at h1'
      have sl : sub.length = 1 := by
        split at h1'
        · omega
        · split at h1' <;> omega
      simp only [madeM, show ¬ ((4 : Int) = 1) by decide, show ¬ ((4 : Int) = 2) by decide, show ¬ ((4 : Int) = 3) by decide, if_false, if_true] at hr
      obtain ⟨s1, x, _, hr⟩ := ask_ok hr
      rw [bind_list_run] at hr
      cases hc : (Ch.all (List.replicate x.toNat ((Ges.mades sub).getD 0 (.done default)))).run f s1 with
      | error e => rw [hc] at hr; cases hr
      | ok p =>
        obtain ⟨s2, l⟩ := p
        rw [hc] at hr
        simp only [listR] at hr
        injection hr with hr
        injection hr with _ hr
        rw [← hr]
        refine list_ok l d (by omega) fun v hv => ?_
        obtain ⟨c, hcm, s3, s4, hcr⟩ := all_mem _ hc v hv
        rw [List.eq_of_mem_replicate hcm, mades_getD sub 0 (by omega)] at hcr
        exact ih _ (List.getElem_mem _) n (d + 1) s3 s4 v (Ges.high_mem hh _ (List.getElem_mem _)) (h2 _ (List.getElem_mem _)) (by omega) hcr
    by_cases k5 : k = 5
    · subst k5
      have h1' := h1
      unfold oneE at h1'
      rw [if_neg (by omega), if_neg (by omega), if_neg (by omega), if_pos rfl] at h1'
      have sl : sub.length ≠ 0 := by split at h1' <;> omega
      simp only [madeM, show ¬ ((5 : Int) = 1) by decide, show ¬ ((5 : Int) = 2) by decide, show ¬ ((5 : Int) = 3) by decide, show ¬ ((5 : Int) = 4) by decide, if_false, if_true] at hr
      obtain ⟨s1, x, hfx, hr⟩ := ask_ok hr
      rw [mades_len] at hfx
      have hx := hf _ _ _ _ hfx (by omega)
      have hlt : x.toNat < sub.length := by omega
      rw [mades_getD sub x.toNat hlt] at hr
      exact ih _ (List.getElem_mem _) n d s1 s' z (Ges.high_mem hh _ (List.getElem_mem _)) (h2 _ (List.getElem_mem _)) (by omega) hr
    · unfold oneE at h1
      rw [if_neg (by omega), if_neg k4, if_neg k3, if_neg k5] at h1
      omega
theorem replay_val {g : Ge} {t : List Int} {z : Va} (h : replR g t = .ok z) : chkV z = 0 := by
  obtain ⟨hc, hr, _, _⟩ := replR_ok h
  obtain ⟨h1, h2⟩ := chkG_good hc
  refine made_val (replayF t) (fun pos m s' x h hm => ?_) g 6 0 0 _ z (Ge.parts_high g 0 6 rfl h1) h2 (by omega) hr
  unfold replayF at h
  split at h
  · split at h
    · rename_i h3; injection h with h; injection h with _ h; rw [← h]; exact h3
    · cases h
  · cases h
/-- of a number alone: nought fails, and else nothing -/
theorem lit_fails (n : Int) (g : Ge) {t : List Int} {z : Va} (h : replR g t = .ok z) : failsG g (.mk 1 n []) t = (decide (n = 0), 0) := by
  unfold failsG
  rw [h]
  show failsX _ z = _
  have hc : chkE (.mk 1 n []) = 0 := by
    have e : (Ex.mk 1 n []).err = 0 := by simp [Ex.err, Exs.err, headBad, takesL]
    unfold chkE
    split
    · rename_i hp; simp [Ex.parts, Exs.parts] at hp
    · exact e
  have he : evalR (.mk 1 n []) z = (n, 0) := by
    unfold evalR
    rw [if_neg (by rw [hc]; simp), if_neg (by rw [replay_val h]; simp)]
    simp [Ex.ev, opM, evN]
  unfold failsX
  rw [he]
  simp
theorem lit_chk (n : Int) : chkE (.mk 1 n []) = 0 := by
  have e : (Ex.mk 1 n []).err = 0 := by simp [Ex.err, Exs.err, headBad, takesL]
  unfold chkE
  split
  · rename_i hp; simp [Ex.parts, Exs.parts] at hp
  · exact e
theorem lit_walk (n : Int) {g : Ge} {t : List Int} {z : Va} (h : replR g t = .ok z) : walkE g (.mk 1 n []) t = if n = 0 then 0 else 2 := by
  unfold walkE
  rw [if_neg (by rw [(replR_ok h).1]; simp), if_neg (by rw [lit_chk]; simp), lit_fails n g h]
  by_cases hn : n = 0 <;> simp [hn]
/-- a walk ends at a tape that replays -/
theorem walks_ok {g : Ge} {x : Ex} : ∀ {n : Nat} {t r : List Int}, (∃ z, replR g t = .ok z) → Walks g x n t r → (∃ z, replR g r = .ok z) ∧ stepW g x r = none
  | 0, t, r, h, hw => by obtain ⟨h1, rfl⟩ := hw; exact ⟨h, h1⟩
  | n + 1, t, r, h, hw => by
    obtain ⟨t', h1, h2⟩ := hw
    refine walks_ok ?_ h2
    unfold stepW at h1
    cases hf : (lessL g t).findIdx? (askB g x) with
    | none => rw [hf] at h1; cases h1
    | some j =>
      rw [hf] at h1
      obtain ⟨hj, hp, _⟩ := List.findIdx?_eq_some_iff_getElem.1 hf
      simp only [Option.map_some, Option.some.injEq] at h1
      rw [rowAt_get hj] at h1
      rw [← h1]
      refine failsG_ok (x := x) ?_
      unfold askB at hp
      simp at hp
      exact hp.1
/-- what is told less was mended -/
theorem lessTo_mended (g : Ge) (l : List Int) : ∀ j, ∀ m ∈ lessTo g l j, ∃ t, m = mendL g t
  | 0, m, h => by simp [lessTo] at h
  | j + 1, m, h => by
    rw [lessTo] at h
    rcases List.mem_append.1 h with h | h
    · exact lessTo_mended g l j m h
    · obtain ⟨z, _, h⟩ := List.mem_flatMap.1 h
      unfold keepG at h
      split at h
      · exact ⟨z, by simpa using h⟩
      · cases h
theorem replR_mended {g : Ge} (hc : chkG g = 0) (t : List Int) : ∃ z, replR g (mendL g t) = .ok z := by
  obtain ⟨z, hz⟩ := replay_mendL g t hc
  exact ⟨z, by unfold replR; rw [if_neg (by omega), hz]; simp⟩
/-- of what always fails the walk stops where nothing is less -/
theorem never_stop {g : Ge} {r : List Int} (hc : chkG g = 0) (h : stepW g (.mk 1 0 []) r = none) : lessL g r = [] := by
  unfold stepW at h
  cases hf : (lessL g r).findIdx? (askB g (.mk 1 0 [])) with
  | some j => rw [hf] at h; cases h
  | none =>
    rw [List.findIdx?_eq_none_iff] at hf
    cases hl : lessL g r with
    | nil => rfl
    | cons m ms =>
      have hm : m ∈ lessL g r := by rw [hl]; simp
      obtain ⟨t, rfl⟩ := lessTo_mended g r r.length m hm
      obtain ⟨z, hz⟩ := replR_mended hc t
      have := hf _ hm
      unfold askB at this
      rw [lit_fails 0 g hz] at this
      simp at this
theorem at0_zeroS {l : List Int} (h : ∀ z ∈ l, z = 0) (i : Nat) : at0 l i = 0 := by
  unfold at0
  rw [List.getD_eq_getElem?_getD]
  cases hi : l[i]? with
  | none => rfl
  | some z => exact h z (List.mem_of_getElem? hi)
theorem mendF_zeroS {t : List Int} (h : ∀ z ∈ t, z = 0) : mendF t = mendF [] := by
  funext out m
  have e : ∀ n, clampT t n m = clampT [] n m := fun n => by
    unfold clampT
    rw [at0_zeroS h]
    split
    · rw [if_neg (by simp)]; omega
    · rw [if_neg (by simp)]
  unfold mendF
  rw [e]
theorem mendL_zeroS {g : Ge} {t : List Int} (h : ∀ z ∈ t, z = 0) : mendL g t = mendL g [] := by
  unfold mendL
  rw [mendF_zeroS h]
/-- nothing is less than noughts -/
theorem less_noughts (g : Ge) : lessL g (mendL g []) = [] := by
  have hz : ∀ z ∈ mendL g [], z = 0 := (mendL_spec g []).2.2.2 rfl
  have key : ∀ j, lessTo g (mendL g []) j = [] := fun j => by
    induction j with
    | zero => rfl
    | succ j ih =>
      rw [lessTo, ih, List.nil_append]
      have e : triesL (mendL g []) j = [(mendL g []).take j ++ (mendL g []).drop (j + 1)] := by
        unfold triesL
        rw [if_neg (by rw [at0_zeroS hz]; omega)]; rfl
      rw [e]
      have hd : ∀ z ∈ (mendL g []).take j ++ (mendL g []).drop (j + 1), z = 0 := fun z h => by
        rcases List.mem_append.1 h with h | h
        · exact hz z (List.mem_of_mem_take h)
        · exact hz z (List.mem_of_mem_drop h)
      simp only [List.flatMap_cons, List.flatMap_nil, List.append_nil]
      unfold keepG
      rw [mendL_zeroS hd, tlessB_self]; rfl
  exact key _
theorem never_noughts {g : Ge} {n : Nat} {r : List Int} (h : Walks g (.mk 1 0 []) n (mendL g []) r) : n = 0 ∧ r = mendL g [] := by
  have hs : stepW g (.mk 1 0 []) (mendL g []) = none := by unfold stepW; rw [less_noughts]; rfl
  exact walks_one h (show Walks g (.mk 1 0 []) 0 (mendL g []) (mendL g []) from ⟨hs, rfl⟩)
end Go.Proofs.YtopehfmppfibhaaDoor
