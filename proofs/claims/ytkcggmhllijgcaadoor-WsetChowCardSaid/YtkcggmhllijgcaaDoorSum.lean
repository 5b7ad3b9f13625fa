/- The words of wset.Suite as mathematics: what reaches each state, letters behind, and the words that tell apart. No conditions. -/
import Derived.Test.YtkcggmhllijgcaaDoorWtw
import Derived.Test.YtkcggmhllijgcaaDoorTlm
namespace Go.Proofs.YtkcggmhllijgcaaDoor
def lettersN (n : Nat) : List (List Int) := (List.range n).map fun (x : Nat) => [(x : Int)]
theorem lettersN_succ (n : Nat) : lettersN (n + 1) = lettersN n ++ [[(n : Int)]] := by unfold lettersN; rw [List.range_succ, List.map_append]; rfl
theorem lettersN_len (n : Nat) : (lettersN n).length = n := by simp [lettersN]
def lettersL (n : Nat) : List (List Int) := [] :: lettersN n
noncomputable def setW (m : MachD) : List (List Int) := if setL m = [] then [[]] else setL m
def sOut (n : Nat) (reach : List (List Int)) : Nat → List (List Int)
  | 0 => timesL reach (lettersL n)
  | e + 1 => timesL (sOut n reach e) (lettersL n)
noncomputable def suiteL (m : MachD) (e : Nat) (reach : List (List Int)) : List (List Int) := timesL (sOut (ins m) reach e) (setW m)
/-- states that are reached, and words that lead there; the first k have been looked at, and of the next one the first x letters -/
structure Reach (m : MachD) (k x : Nat) (seen : List Int) (reach : List (List Int)) : Prop where
  len : seen.length = reach.length
  nd : seen.Nodup
  rng : ∀ y ∈ seen, 0 ≤ y ∧ y < (m.out.length : Int)
  pos : 0 < seen.length
  fst : rowAt reach 0 = []
  way : ∀ i, i < seen.length → word m (rowAt reach i) ∧ (goes m 0 (rowAt reach i) : Int) = at0 seen i ∧ (rowAt reach i).length ≤ i
  kl : k ≤ seen.length
  shut : ∀ i, i < k → ∀ y, y < ins m → (nextAt m (at0 seen i).toNat (y : Int) : Int) ∈ seen
  part : ∀ y, y < x → (nextAt m (at0 seen k).toNat (y : Int) : Int) ∈ seen
theorem at0_mem {l : List Int} {i : Nat} (h : i < l.length) : at0 l i ∈ l := by
  unfold at0; rw [List.getD_eq_getElem?_getD, List.getElem?_eq_getElem h]; exact List.getElem_mem _
theorem at0_append_left {l k : List Int} {i : Nat} (h : i < l.length) : at0 (l ++ k) i = at0 l i := by
  unfold at0; rw [List.getD_eq_getElem?_getD, List.getD_eq_getElem?_getD, List.getElem?_append_left h]
theorem at0_last (l : List Int) (x : Int) : at0 (l ++ [x]) l.length = x := by
  unfold at0; rw [List.getD_eq_getElem?_getD]; simp
theorem rowAt_last (l : List (List Int)) (x : List Int) : rowAt (l ++ [x]) l.length = x := by
  unfold rowAt; rw [List.getD_eq_getElem?_getD]; simp
namespace Reach
variable {m : MachD} {k x : Nat} {seen : List Int} {reach : List (List Int)}
theorem start (g : Good m) : Reach m 0 0 [0] [[]] := by
  have := g.pos
  refine ⟨rfl, by simp, by simp; omega, by simp, rfl, fun i hi => ?_, by simp, fun i hi => by omega, fun y hy => by omega⟩
  obtain rfl : i = 0 := by simpa using hi
  exact ⟨fun x hx => by simp [rowAt] at hx, rfl, Nat.le_refl _⟩
theorem le (h : Reach m k x seen reach) : seen.length ≤ m.out.length := nodup_le _ h.nd h.rng
theorem st (h : Reach m k x seen reach) {i : Nat} (hi : i < seen.length) : (at0 seen i).toNat < m.out.length ∧ ((at0 seen i).toNat : Int) = at0 seen i := by
  have := h.rng _ (at0_mem hi); omega
/-- the next state has been seen -/
theorem has (h : Reach m k x seen reach) (hm : (nextAt m (at0 seen k).toNat (x : Int) : Int) ∈ seen) : Reach m k (x + 1) seen reach :=
  ⟨h.len, h.nd, h.rng, h.pos, h.fst, h.way, h.kl, h.shut, fun y hy => by
    rcases Nat.lt_or_ge y x with e | e
    · exact h.part y e
    · obtain rfl : y = x := by omega
      exact hm⟩
/-- it is new -/
theorem new (g : Good m) (h : Reach m k x seen reach) (hk : k < seen.length) (hx : x < ins m) (hm : (nextAt m (at0 seen k).toNat (x : Int) : Int) ∉ seen) :
    Reach m k (x + 1) (seen ++ [(nextAt m (at0 seen k).toNat (x : Int) : Int)]) (reach ++ [rowAt reach k ++ [(x : Int)]]) := by
  have hl : letter m (x : Int) := ⟨by omega, by omega⟩
  have hs := h.st hk
  have hn := nextAt_lt g hs.1 hl
  have hkl := h.len
  refine ⟨by simp [h.len], ?_, ?_, by simp, ?_, fun i hi => ?_, by have := h.kl; simp; omega, fun i hi y hy => ?_, fun y hy => ?_⟩
  · rw [List.nodup_append]
    exact ⟨h.nd, by simp, fun a ha b hb e => by simp at hb; subst hb; subst e; exact hm ha⟩
  · intro y hy
    rcases List.mem_append.1 hy with hy | hy
    · exact h.rng y hy
    · rw [List.mem_singleton.1 hy]; omega
  · rw [rowAt_append, if_pos (by have := h.pos; omega)]; exact h.fst
  · rw [List.length_append, List.length_singleton] at hi
    by_cases e : i < seen.length
    · rw [rowAt_append, if_pos (by omega), at0_append_left e]; exact h.way i e
    · obtain rfl : i = seen.length := by omega
      obtain ⟨w1, w2, w3⟩ := h.way k hk
      rw [at0_last, h.len, rowAt_last]
      refine ⟨fun y hy => ?_, ?_, by simp; omega⟩
      · rcases List.mem_append.1 hy with hy | hy
        · exact w1 y hy
        · rw [List.mem_singleton.1 hy]; exact hl
      · rw [goes_append]
        show ((nextAt m (goes m 0 (rowAt reach k)) (x : Int) : Nat) : Int) = _
        rw [show goes m 0 (rowAt reach k) = (at0 seen k).toNat by omega]
  · rw [at0_append_left (by omega)]
    exact List.mem_append_left _ (h.shut i hi y hy)
  · rw [at0_append_left hk]
    rcases Nat.lt_or_ge y x with e | e
    · exact List.mem_append_left _ (h.part y e)
    · obtain rfl : y = x := by omega
      simp
theorem next (h : Reach m k (ins m) seen reach) (hk : k < seen.length) : Reach m (k + 1) 0 seen reach :=
  ⟨h.len, h.nd, h.rng, h.pos, h.fst, h.way, hk, fun i hi y hy => by
    rcases Nat.lt_or_ge i k with e | e
    · exact h.shut i e y hy
    · obtain rfl : i = k := by omega
      exact h.part y hy, fun y hy => by omega⟩
theorem short (g : Good m) (h : Reach m k x seen reach) : Short 5 reach := fun y hy => by
  obtain ⟨i, hi, rfl⟩ := List.getElem_of_mem hy
  have hk := h.way i (by have := h.len; omega)
  have e : rowAt reach i = reach[i] := by unfold rowAt; rw [List.getD_eq_getElem?_getD, List.getElem?_eq_getElem hi]; rfl
  rw [e] at hk
  refine ⟨fun z hz => ?_, by have := h.le; have := g.le; have := h.len; omega⟩
  have := hk.1 z hz
  have := g.ins3
  unfold letter at *
  omega
end Reach
theorem word_bytes {m : MachD} (g : Good m) {y : List Int} (h : word m y) : Bytes y := fun z hz => by
  have h1 := h z hz
  have := g.ins3
  unfold letter at h1
  omega
theorem letters_short {n : Nat} (h : n ≤ 3) : Short 1 (lettersL n) := fun y hy => by
  unfold lettersL at hy
  rcases List.mem_cons.1 hy with rfl | hy
  · exact ⟨fun z hz => by simp at hz, by simp⟩
  · unfold lettersN at hy
    obtain ⟨x, hx, rfl⟩ := List.mem_map.1 hy
    have := List.mem_range.1 hx
    exact ⟨fun z hz => by rw [List.mem_singleton.1 hz]; omega, by simp⟩
theorem lettersL_len (n : Nat) : (lettersL n).length = n + 1 := by unfold lettersL; rw [List.length_cons, lettersN_len]
theorem setW_short {m : MachD} (g : Good m) : Short 11 (setW m) ∧ (setW m).length ≤ 15 := by
  have g1 := g.le
  have h2 := setL_len m
  unfold setW
  split
  · exact ⟨fun y hy => by rw [List.mem_singleton.1 hy]; exact ⟨fun z hz => by simp at hz, by simp⟩, by simp⟩
  · refine ⟨fun y hy => ?_, ?_⟩
    · have := setL_word g hy
      exact ⟨word_bytes g this.1, this.2⟩
    · have h3 : m.out.length * (m.out.length - 1) ≤ 6 * 5 := Nat.mul_le_mul g1 (by omega)
      omega
theorem sOut_short {m : MachD} (g : Good m) {k x : Nat} {seen : List Int} {reach : List (List Int)} (h : Reach m k x seen reach) : ∀ e, Short (6 + e) (sOut (ins m) reach e) ∧ (sOut (ins m) reach e).length ≤ 24 * 4 ^ e
  | 0 => by
    have h1 := h.le
    have h2 := g.le
    have h3 := h.len
    have h4 := times_len reach (lettersL (ins m))
    have h5 : reach.length * (lettersL (ins m)).length ≤ 6 * 4 := Nat.mul_le_mul (by omega) (by rw [lettersL_len]; have := g.ins3; omega)
    exact ⟨(h.short g).times (letters_short g.ins3), by show (timesL _ _).length ≤ _; omega⟩
  | e + 1 => by
    obtain ⟨h1, h2⟩ := sOut_short g h e
    have h4 := times_len (sOut (ins m) reach e) (lettersL (ins m))
    have h5 : (sOut (ins m) reach e).length * (lettersL (ins m)).length ≤ (24 * 4 ^ e) * 4 := Nat.mul_le_mul h2 (by rw [lettersL_len]; have := g.ins3; omega)
    exact ⟨h1.times (letters_short g.ins3), by show (timesL _ _).length ≤ _; rw [Nat.pow_succ]; omega⟩
/-- what the suite has: a word that reaches a state, at most e + 1 letters, a word that tells apart -/
theorem mem_letters {n : Nat} {y : List Int} : y ∈ lettersL n ↔ y = [] ∨ ∃ x : Nat, x < n ∧ y = [(x : Int)] := by
  unfold lettersL lettersN
  rw [List.mem_cons, List.mem_map]
  simp only [List.mem_range]
  exact or_congr_right ⟨fun ⟨x, h1, h2⟩ => ⟨x, h1, h2.symm⟩, fun ⟨x, h1, h2⟩ => ⟨x, h1, h2.symm⟩⟩
theorem mem_sOut {m : MachD} {reach : List (List Int)} {y : List Int} : ∀ e, y ∈ sOut (ins m) reach e ↔ ∃ r ∈ reach, ∃ v, word m v ∧ v.length ≤ e + 1 ∧ y = r ++ v
  | 0 => by
    show y ∈ timesL _ _ ↔ _
    rw [mem_times]
    constructor
    · rintro ⟨r, hr, v, hv, rfl⟩
      refine ⟨r, hr, v, ?_, ?_, rfl⟩
      · rcases mem_letters.1 hv with rfl | ⟨x, hx, rfl⟩
        · exact fun z hz => by simp at hz
        · exact fun z hz => by rw [List.mem_singleton.1 hz]; exact ⟨by omega, by omega⟩
      · rcases mem_letters.1 hv with rfl | ⟨x, hx, rfl⟩ <;> simp
    · rintro ⟨r, hr, v, hv, hl, rfl⟩
      refine ⟨r, hr, v, mem_letters.2 ?_, rfl⟩
      match v, hl with
      | [], _ => exact .inl rfl
      | [x], _ =>
        have h1 := hv x (by simp)
        unfold letter at h1
        exact .inr ⟨x.toNat, by omega, by rw [show ((x.toNat : Nat) : Int) = x by omega]⟩
  | e + 1 => by
    show y ∈ timesL _ _ ↔ _
    rw [mem_times]
    constructor
    · rintro ⟨s, hs, t, ht, rfl⟩
      obtain ⟨r, hr, v, hv, hl, rfl⟩ := (mem_sOut e).1 hs
      refine ⟨r, hr, v ++ t, ?_, ?_, by simp⟩
      · rcases mem_letters.1 ht with rfl | ⟨x, hx, rfl⟩
        · simpa using hv
        · intro z hz
          rcases List.mem_append.1 hz with hz | hz
          · exact hv z hz
          · rw [List.mem_singleton.1 hz]; exact ⟨by omega, by omega⟩
      · rcases mem_letters.1 ht with rfl | ⟨x, hx, rfl⟩ <;> simp <;> omega
    · rintro ⟨r, hr, v, hv, hl, rfl⟩
      by_cases h0 : v.length ≤ e + 1
      · exact ⟨r ++ v, (mem_sOut e).2 ⟨r, hr, v, hv, h0, rfl⟩, [], mem_letters.2 (.inl rfl), by simp⟩
      · have hne : v ≠ [] := fun h => by rw [h] at h0; simp at h0
        have hx := hv _ (List.getLast_mem hne)
        unfold letter at hx
        refine ⟨r ++ v.dropLast, (mem_sOut e).2 ⟨r, hr, v.dropLast, fun z hz => hv z (List.dropLast_subset _ hz), by simp; omega, rfl⟩, [v.getLast hne], mem_letters.2 (.inr ⟨(v.getLast hne).toNat, by omega, by rw [show (((v.getLast hne).toNat : Nat) : Int) = v.getLast hne by omega]⟩), ?_⟩
        rw [List.append_assoc, List.dropLast_concat_getLast hne]
theorem mem_suite {m : MachD} {e : Nat} {reach : List (List Int)} {y : List Int} : y ∈ suiteL m e reach ↔ ∃ r ∈ reach, ∃ v, word m v ∧ v.length ≤ e + 1 ∧ ∃ u ∈ setW m, y = r ++ v ++ u := by
  unfold suiteL
  rw [mem_times]
  constructor
  · rintro ⟨s, hs, u, hu, rfl⟩
    obtain ⟨r, hr, v, hv, hl, rfl⟩ := (mem_sOut e).1 hs
    exact ⟨r, hr, v, hv, hl, u, hu, rfl⟩
  · rintro ⟨r, hr, v, hv, hl, u, hu, rfl⟩
    exact ⟨r ++ v, (mem_sOut e).2 ⟨r, hr, v, hv, hl, rfl⟩, u, hu, rfl⟩
theorem word_app {m : MachD} {a b : List Int} (ha : word m a) (hb : word m b) : word m (a ++ b) := fun z hz => (List.mem_append.1 hz).elim (ha z) (hb z)
theorem setW_word {m : MachD} (g : Good m) {u : List Int} (h : u ∈ setW m) : word m u := by
  unfold setW at h
  split at h
  · rw [List.mem_singleton.1 h]; exact fun z hz => by simp at hz
  · exact (setL_word g h).1
theorem suite_word {m : MachD} (g : Good m) {k x e : Nat} {seen : List Int} {reach : List (List Int)} (hR : Reach m k x seen reach) {y : List Int} (h : y ∈ suiteL m e reach) : word m y ∧ y.length ≤ 17 + e := by
  obtain ⟨r, hr, v, hv, hl, u, hu, rfl⟩ := mem_suite.1 h
  obtain ⟨i, hi, rfl⟩ := List.getElem_of_mem hr
  have hk := hR.way i (by have := hR.len; omega)
  have e1 : rowAt reach i = reach[i] := by unfold rowAt; rw [List.getD_eq_getElem?_getD, List.getElem?_eq_getElem hi]; rfl
  rw [e1] at hk
  refine ⟨word_app (word_app hk.1 hv) (setW_word g hu), ?_⟩
  have h1 := ((setW_short g).1 u hu).2
  have h2 := hR.le
  have h3 := g.le
  have h4 := hR.len
  simp only [List.length_append]; omega
end Go.Proofs.YtkcggmhllijgcaaDoor
