/- The text of a value as mathematics: how long it is; how many parts a value has, and one that is made. No program in sight. No conditions. -/
import Derived.Test.YtopehfmppfibhaaDoorRlx
import Derived.Test.YtopehfmppfibhaaDoorTlp
namespace Go.Proofs.YtopehfmppfibhaaDoor
open Go.RowKit
mutual
def Va.text : Va → List UInt8
  | .mk l n s => if l then [40] ++ Lib.join (Vas.texts s) [32] ++ [41] else Lib.itoa n
def Vas.texts : List Va → List (List UInt8)
  | [] => []
  | y :: r => y.text :: Vas.texts r
end
mutual
def Va.size : Va → Nat
  | .mk _ _ s => 1 + Vas.size s
def Vas.size : List Va → Nat
  | [] => 0
  | y :: r => y.size + Vas.size r
end
mutual
/-- all numbers are 64 bits wide -/
def Va.wf : Va → Prop
  | .mk _ n s => (-9223372036854775808 ≤ n ∧ n ≤ 9223372036854775807) ∧ Vas.wf s
def Vas.wf : List Va → Prop
  | [] => True
  | y :: r => y.wf ∧ Vas.wf r
end
theorem texts_len : ∀ s : List Va, (Vas.texts s).length = s.length
  | [] => by simp [Vas.texts]
  | y :: r => by simp [Vas.texts, texts_len r]
theorem texts_app : ∀ (s : List Va) (y : Va), Vas.texts (s ++ [y]) = Vas.texts s ++ [y.text]
  | [], y => by simp [Vas.texts]
  | x :: r, y => by simp [Vas.texts, texts_app r y]
theorem texts_get : ∀ (s : List Va) (i : Nat) (h : i < s.length), (Vas.texts s)[i]'(by rw [texts_len]; exact h) = s[i].text
  | [], _, h => by simp at h
  | y :: r, 0, _ => by simp [Vas.texts]
  | y :: r, i + 1, h => by simpa [Vas.texts] using texts_get r i (by simpa using h)
theorem vsize_pos : ∀ v : Va, 1 ≤ v.size
  | .mk _ _ s => by rw [Va.size]; omega
theorem vsize_mem : ∀ {s : List Va} {y : Va}, y ∈ s → y.size ≤ Vas.size s
  | x :: r, y, h => by
    rw [Vas.size]
    rcases List.mem_cons.1 h with rfl | h
    · omega
    · have := vsize_mem h; omega
theorem vsize_len : ∀ s : List Va, s.length ≤ Vas.size s
  | [] => by simp [Vas.size]
  | y :: r => by rw [Vas.size, List.length_cons]; have := vsize_pos y; have := vsize_len r; omega
theorem vwf_mem : ∀ {s : List Va}, Vas.wf s → ∀ y ∈ s, y.wf
  | x :: r, hx, y, h => by
    rw [Vas.wf] at hx
    rcases List.mem_cons.1 h with rfl | h
    · exact hx.1
    · exact vwf_mem hx.2 y h
theorem lens_cons (x : List UInt8) (l : List (List UInt8)) : Lib.lens (x :: l) = x.length + Lib.lens l := by unfold Lib.lens; simp
theorem join_le (l : List (List UInt8)) (sep : List UInt8) : (Lib.join l sep).length ≤ Lib.lens l + l.length * sep.length := by
  cases l with
  | nil => simp [Lib.join]
  | cons x l =>
    rw [Lib.join_length]
    rw [List.length_cons, Nat.add_mul, Nat.mul_comm sep.length]
    omega
theorem text_le : ∀ v : Va, v.wf → v.text.length + 1 ≤ 24 * v.size := by
  refine Va.ind fun l n s ih hw => ?_
  rw [Va.wf] at hw
  have hs : ∀ r : List Va, (∀ y ∈ r, y.text.length + 1 ≤ 24 * y.size) → Lib.lens (Vas.texts r) + r.length ≤ 24 * Vas.size r := by
    intro r
    induction r with
    | nil => intro _; simp [Vas.texts, Lib.lens]
    | cons y r ihr =>
      intro h
      rw [Vas.texts, lens_cons, Vas.size, List.length_cons]
      have h1 := h y (by simp)
      have h2 := ihr fun z hz => h z (by simp [hz])
      omega
  rw [Va.text, Va.size]
  cases l with
  | false =>
    have := Lib.itoa_length_le n hw.1.1 hw.1.2
    simp only [Bool.false_eq_true, if_false]; omega
  | true =>
    simp only [if_true, List.length_append, List.length_cons, List.length_nil]
    have h1 := hs s fun y hy => ih y hy (vwf_mem hw.2 y hy)
    have h2 := join_le (Vas.texts s) [32]
    rw [texts_len] at h2
    simp only [List.length_cons, List.length_nil] at h2
    omega
theorem join_in (s : List Va) (h : ∀ y ∈ s, y.wf) : (Lib.join (Vas.texts s) [32]).length ≤ 24 * Vas.size s := by
  have hs : ∀ r : List Va, (∀ y ∈ r, y.wf) → Lib.lens (Vas.texts r) + r.length ≤ 24 * Vas.size r := by
    intro r
    induction r with
    | nil => intro _; simp [Vas.texts, Lib.lens]
    | cons y r ihr =>
      intro h
      rw [Vas.texts, lens_cons, Vas.size, List.length_cons]
      have h1 := text_le y (h y (by simp))
      have h2 := ihr fun z hz => h z (by simp [hz])
      omega
  have h1 := hs s h
  have h2 := join_le (Vas.texts s) [32]
  rw [texts_len] at h2
  simp only [List.length_cons, List.length_nil] at h2
  omega
theorem all_memV {S α : Type} {f : S → Int → Except Int (S × Int)} : ∀ (cs : List (Ch α)) {s s' : S} {l : List α}, (Ch.all cs).run f s = .ok (s', l) → ∀ v ∈ l, ∃ c ∈ cs, ∃ s1 s2, c.run f s1 = .ok (s2, v)
  | [], _, _, _, h, v, hv => by
    rw [Ch.all, Ch.run] at h
    injection h with h
    injection h with _ h
    rw [← h] at hv; cases hv
  | c :: r, s, s', l, h, v, hv => by
    rw [all_cons_run] at h
    cases hc : c.run f s with
    | error e => rw [hc] at h; cases h
    | ok p =>
      obtain ⟨s1, x⟩ := p
      rw [hc] at h
      simp only [thenR] at h
      cases hr : (Ch.all r).run f s1 with
      | error e => rw [hr] at h; cases h
      | ok q =>
        obtain ⟨s2, l2⟩ := q
        rw [hr] at h
        simp only [glueR] at h
        injection h with h
        injection h with _ h
        rw [← h] at hv
        rcases List.mem_cons.1 hv with rfl | hv
        · exact ⟨c, by simp, s, s1, hc⟩
        · obtain ⟨c', h1, h2⟩ := all_memV r hr v hv
          exact ⟨c', by simp [h1], h2⟩
theorem all_lenV {S α : Type} {f : S → Int → Except Int (S × Int)} : ∀ (cs : List (Ch α)) {s s' : S} {l : List α}, (Ch.all cs).run f s = .ok (s', l) → l.length = cs.length
  | [], _, _, _, h => by
    rw [Ch.all, Ch.run] at h
    injection h with h
    injection h with _ h
    rw [← h]; rfl
  | c :: r, s, s', l, h => by
    rw [all_cons_run] at h
    cases hc : c.run f s with
    | error e => rw [hc] at h; cases h
    | ok p =>
      obtain ⟨s1, x⟩ := p
      rw [hc] at h
      simp only [thenR] at h
      cases hr : (Ch.all r).run f s1 with
      | error e => rw [hr] at h; cases h
      | ok q =>
        obtain ⟨s2, l2⟩ := q
        rw [hr] at h
        simp only [glueR] at h
        injection h with h
        injection h with _ h
        rw [← h]
        have := all_lenV r hr
        simp; omega
theorem mades_memV {s : List Ge} {c : Ch Va} (h : c ∈ Ges.mades s) : ∃ y ∈ s, c = y.made := by
  obtain ⟨i, hi, rfl⟩ := List.getElem_of_mem h
  have hi' : i < s.length := by rw [mades_len] at hi; exact hi
  refine ⟨s[i], List.getElem_mem hi', ?_⟩
  have := mades_getD s i hi' (.done default)
  rwa [List.getD_eq_getElem?_getD, List.getElem?_eq_getElem hi] at this
theorem vsize_le {N : Nat} : ∀ l : List Va, (∀ v ∈ l, v.size ≤ N) → Vas.size l ≤ l.length * N
  | [], _ => by simp [Vas.size]
  | v :: r, h => by
    rw [Vas.size, List.length_cons, Nat.add_mul]
    have h1 := h v (by simp)
    have h2 := vsize_le r fun y hy => h y (by simp [hy])
    omega
/-- a value that is made has few parts -/
theorem made_size {S : Type} (f : S → Int → Except Int (S × Int)) (hf : ∀ s m s' x, f s m = .ok (s', x) → 0 ≤ m → 0 ≤ x ∧ x ≤ m) : ∀ (g : Ge) (n : Nat) (s s' : S) (z : Va), g.high n → g.wide → g.err = 0 → g.made.run f s = .ok (s', z) → z.size ≤ 31 ^ n := by
  refine Ge.ind fun k a b sub ih => ?_
  intro n s s' z hh hw he hr
  cases n with
  | zero => rw [Ge.high] at hh; exact hh.elim
  | succ n =>
    rw [Ge.high] at hh
    rw [Ge.wide] at hw
    obtain ⟨h1, h2⟩ := Ge.err_parts he
    rw [Ge.made] at hr
    have p31 : 1 ≤ 31 ^ n := Nat.pow_pos (by omega)
    have e31 : 31 ^ (n + 1) = 31 * 31 ^ n := by rw [Nat.pow_succ, Nat.mul_comm]
    have leaf : ∀ (c : Bool) (i : Int), (Va.mk c i []).size ≤ 31 ^ (n + 1) := fun c i => by rw [Va.size, Vas.size]; omega
    have lst : ∀ (c : Bool) (i : Int) (l : List Va), l.length ≤ 30 → (∀ v ∈ l, v.size ≤ 31 ^ n) → (Va.mk c i l).size ≤ 31 ^ (n + 1) := fun c i l hl hv => by
      rw [Va.size]
      have h3 := vsize_le l hv
      have h4 : l.length * 31 ^ n ≤ 30 * 31 ^ n := Nat.mul_le_mul_right _ hl
      omega
    by_cases k1 : k = 1
    · subst k1
      simp only [madeM, if_true, Ch.run] at hr
      injection hr with hr
      injection hr with _ hr
      rw [← hr]; exact leaf _ _
    by_cases k2 : k = 2
    · subst k2
      simp only [madeM, show ¬ ((2 : Int) = 1) by decide, if_false, if_true] at hr
      obtain ⟨s1, x, _, hr⟩ := ask_ok hr
      rw [Ch.run] at hr
      injection hr with hr
      injection hr with _ hr
      rw [← hr]; exact leaf _ _
    by_cases k3 : k = 3
    · subst k3
      simp only [madeM, show ¬ ((3 : Int) = 1) by decide, show ¬ ((3 : Int) = 2) by decide, if_false, if_true] at hr
      rw [bind_list_run] at hr
      cases hc : (Ch.all (Ges.mades sub)).run f s with
      | error e => rw [hc] at hr; cases hr
      | ok p =>
        obtain ⟨s1, l⟩ := p
        rw [hc] at hr
        simp only [listR] at hr
        injection hr with hr
        injection hr with _ hr
        rw [← hr]
        have hl := all_lenV _ hc
        rw [mades_len] at hl
        refine lst _ _ l (by omega) fun v hv => ?_
        obtain ⟨c, hcm, s1, s2, hcr⟩ := all_memV _ hc v hv
        obtain ⟨y, hy, rfl⟩ := mades_memV hcm
        exact ih y hy n s1 s2 v (Ges.high_mem hh y hy) (Ges.wide_mem hw.2 y hy) (h2 y hy) hcr
    by_cases k4 : k = 4
    · subst k4
      have h1' := h1
      unfold oneE at h1'
      rw [if_neg (by omega), if_pos rfl] at h1'
      have aa : 0 ≤ a ∧ a ≤ 5 := by split at h1' <;> omega
      have sl : sub.length = 1 := by
        rw [if_neg (by omega)] at h1'
        split at h1' <;> omega
      simp only [madeM, show ¬ ((4 : Int) = 1) by decide, show ¬ ((4 : Int) = 2) by decide, show ¬ ((4 : Int) = 3) by decide, if_false, if_true] at hr
      obtain ⟨s1, x, hfx, hr⟩ := ask_ok hr
      have hx := hf _ _ _ _ hfx (by omega)
      rw [bind_list_run] at hr
      cases hc : (Ch.all (List.replicate x.toNat ((Ges.mades sub).getD 0 (.done default)))).run f s1 with
      | error e => rw [hc] at hr; cases hr
      | ok p =>
        obtain ⟨s2, l⟩ := p
        rw [hc] at hr
        simp only [listR] at hr
        injection hr with hr
        injection hr with _ hr
        rw [← hr]
        have hl := all_lenV _ hc
        rw [List.length_replicate] at hl
        refine lst _ _ l (by omega) fun v hv => ?_
        obtain ⟨c, hcm, s3, s4, hcr⟩ := all_memV _ hc v hv
        rw [List.eq_of_mem_replicate hcm, mades_getD sub 0 (by omega)] at hcr
        exact ih _ (List.getElem_mem _) n s3 s4 v (Ges.high_mem hh _ (List.getElem_mem _)) (Ges.wide_mem hw.2 _ (List.getElem_mem _)) (h2 _ (List.getElem_mem _)) hcr
    by_cases k5 : k = 5
    · subst k5
      have h1' := h1
      unfold oneE at h1'
      rw [if_neg (by omega), if_neg (by omega), if_neg (by omega), if_pos rfl] at h1'
      have sl : sub.length ≠ 0 := by split at h1' <;> omega
      simp only [madeM, show ¬ ((5 : Int) = 1) by decide, show ¬ ((5 : Int) = 2) by decide, show ¬ ((5 : Int) = 3) by decide, show ¬ ((5 : Int) = 4) by decide, if_false, if_true] at hr
      obtain ⟨s1, x, hfx, hr⟩ := ask_ok hr
      rw [mades_len] at hfx
      have hx := hf _ _ _ _ hfx (by omega)
      have hlt : x.toNat < sub.length := by omega
      rw [mades_getD sub x.toNat hlt] at hr
      have := ih _ (List.getElem_mem _) n s1 s' z (Ges.high_mem hh _ (List.getElem_mem _)) (Ges.wide_mem hw.2 _ (List.getElem_mem _)) (h2 _ (List.getElem_mem _)) hr
      omega
    · unfold oneE at h1
      rw [if_neg (by omega), if_neg k4, if_neg k3, if_neg k5] at h1
      omega
theorem replay_size {g : Ge} {t : List Int} {z : Va} (h : replR g t = .ok z) : z.size ≤ 1000000000 := by
  obtain ⟨hc, hr, _, _⟩ := replR_ok h
  obtain ⟨h1, h2⟩ := chkG_good hc
  have := made_size (replayF t) (fun pos m s' x h hm => by
    unfold replayF at h
    split at h
    · split at h
      · rename_i h3; injection h with h; injection h with _ h; rw [← h]; exact h3
      · cases h
    · cases h) g 6 0 _ z (Ge.parts_high g 0 6 rfl h1) (Ge.parts_wide g 0 h1) h2 hr
  have : 31 ^ 6 = 887503681 := by decide
  omega
end Go.Proofs.YtopehfmppfibhaaDoor
