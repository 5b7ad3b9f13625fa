/- Grammars as plain lists: what is wrong with one; a grammar in memory; gram.Check. No conditions. -/
import Derived.Test.YtbnannlpebggjaaDoorErv
namespace Go.Proofs.YtbnannlpebggjaaDoor
open Go.RowKit Go.Deep
abbrev Gr := List (List (List Int))
def gAt (g : Gr) (i : Nat) : List (List Int) := g.getD i []
def symB (n : Nat) (x : Int) : Bool := decide (x < -(n : Int)) || decide (2 < x)
def ruleE (n : Nat) (r : List Int) : Int := if 4 < r.length then 4 else if r.any (symB n) then 1 else 0
def firstE : List Int → Int
  | [] => 0
  | c :: r => if c ≠ 0 then c else firstE r
def nameE (n : Nat) (rs : List (List Int)) : Int := if 6 < rs.length then 4 else firstE (rs.map (ruleE n))
/-- what is wrong with a grammar -/
def gramE (g : Gr) : Int := if g.length < 1 ∨ 5 < g.length then 1 else firstE (g.map (nameE g.length))
theorem firstE_hit : ∀ {l : List Int} {j : Nat} (hj : j < l.length), (∀ k, (h : k < j) → l[k]'(by omega) = 0) → l[j] ≠ 0 → firstE l = l[j]
  | c :: r, 0, _, _, hc => by rw [firstE]; exact if_pos hc
  | c :: r, j + 1, hj, h0, hc => by
    have h1 : c = 0 := h0 0 (by omega)
    rw [firstE, if_neg (by simp [h1])]
    exact firstE_hit (l := r) (by simpa using hj) (fun k hk => h0 (k + 1) (by omega)) hc
theorem firstE_none : ∀ {l : List Int}, (∀ k, (h : k < l.length) → l[k] = 0) → firstE l = 0
  | [], _ => rfl
  | c :: r, h => by
    have h1 : c = 0 := h 0 (by simp)
    rw [firstE, if_neg (by simp [h1])]
    exact firstE_none (l := r) fun k hk => h (k + 1) (by simpa using hk)
theorem firstE_zero : ∀ {l : List Int}, firstE l = 0 → ∀ c ∈ l, c = 0
  | x :: r, h, c, hc => by
    rw [firstE] at h
    by_cases hx : x = 0
    · rw [if_neg (by simp [hx])] at h
      rcases List.mem_cons.1 hc with rfl | hc
      · exact hx
      · exact firstE_zero h c hc
    · rw [if_pos hx] at h; exact absurd h hx
theorem gAt_get {g : Gr} {i : Nat} (h : i < g.length) : gAt g i = g[i] := by unfold gAt; rw [List.getD_eq_getElem?_getD, List.getElem?_eq_getElem h]; rfl
theorem rAt_get {l : List (List Int)} {i : Nat} (h : i < l.length) : rowAt l i = l[i] := by unfold rowAt; rw [List.getD_eq_getElem?_getD, List.getElem?_eq_getElem h]; rfl
/-- a right grammar -/
structure GramOk (g : Gr) : Prop where
  lo : 1 ≤ g.length
  hi : g.length ≤ 5
  rules : ∀ i, i < g.length → (gAt g i).length ≤ 6
  len : ∀ i, i < g.length → ∀ k, k < (gAt g i).length → (rowAt (gAt g i) k).length ≤ 4
  sym : ∀ i, i < g.length → ∀ k, k < (gAt g i).length → ∀ x ∈ rowAt (gAt g i) k, -(g.length : Int) ≤ x ∧ x ≤ 2
theorem ruleE_ok {n : Nat} {r : List Int} (h : ruleE n r = 0) : r.length ≤ 4 ∧ ∀ x ∈ r, -(n : Int) ≤ x ∧ x ≤ 2 := by
  unfold ruleE at h
  by_cases h1 : 4 < r.length
  · rw [if_pos h1] at h; cases h
  rw [if_neg h1] at h
  by_cases h2 : r.any (symB n) = true
  · rw [if_pos h2] at h; cases h
  refine ⟨by omega, fun x hx => ?_⟩
  have h3 : symB n x = false := by
    cases h4 : symB n x with
    | false => rfl
    | true => exact absurd (List.any_eq_true.2 ⟨x, hx, h4⟩) h2
  unfold symB at h3
  simp at h3
  omega
theorem gram_ok {g : Gr} (h : gramE g = 0) : GramOk g := by
  unfold gramE at h
  by_cases h1 : g.length < 1 ∨ 5 < g.length
  · rw [if_pos h1] at h; cases h
  rw [if_neg h1] at h
  have h2 : ∀ i, i < g.length → nameE g.length (gAt g i) = 0 := fun i hi => firstE_zero h _ (List.mem_map.2 ⟨g[i], List.getElem_mem hi, by rw [gAt_get hi]⟩)
  have h3 : ∀ i, i < g.length → (gAt g i).length ≤ 6 ∧ ∀ k, k < (gAt g i).length → ruleE g.length (rowAt (gAt g i) k) = 0 := fun i hi => by
    have := h2 i hi
    unfold nameE at this
    by_cases h4 : 6 < (gAt g i).length
    · rw [if_pos h4] at this; cases this
    rw [if_neg h4] at this
    exact ⟨by omega, fun k hk => firstE_zero this _ (List.mem_map.2 ⟨_, List.getElem_mem hk, by rw [rAt_get hk]⟩)⟩
  exact ⟨by omega, by omega, fun i hi => (h3 i hi).1, fun i hi k hk => (ruleE_ok ((h3 i hi).2 k hk)).1, fun i hi k hk => (ruleE_ok ((h3 i hi).2 k hk)).2⟩
/-- a grammar in memory -/
def GramIn (F : Nat → Prop) (w : World) (v : Value) (g : Gr) : Prop :=
  ∃ A c, v = .slice A g.length c ∧ (g.length ≤ c ∧ c ≤ maxLen) ∧
    (0 < g.length → ∃ b off, A = some ⟨b, off, none⟩ ∧ F b ∧ ∀ i, i < g.length → ∃ r, w.cell? ⟨b, off + i, none⟩ = some r ∧ RowsIn F w r (gAt g i))
section
variable {F F' : Nat → Prop} {w w' : World} {v : Value} {g : Gr}
theorem GramIn.keep (h : GramIn F w v g) (hs : Same F w w') : GramIn F w' v g := by
  obtain ⟨A, c, rfl, h1, h3⟩ := h
  refine ⟨A, c, rfl, h1, fun hn => ?_⟩
  obtain ⟨b, off, rfl, hF, hc⟩ := h3 hn
  refine ⟨b, off, rfl, hF, fun i hi => ?_⟩
  obtain ⟨r, hr, hi⟩ := hc i hi
  exact ⟨r, (hs.cell (p := ⟨b, off + i, none⟩) hF).trans hr, hi.keep hs⟩
theorem GramIn.more (h : GramIn F w v g) (hF : ∀ b, F b → F' b) : GramIn F' w v g := by
  obtain ⟨A, c, rfl, h1, h3⟩ := h
  refine ⟨A, c, rfl, h1, fun hn => ?_⟩
  obtain ⟨b, off, rfl, hFb, hc⟩ := h3 hn
  refine ⟨b, off, rfl, hF _ hFb, fun i hi => ?_⟩
  obtain ⟨r, hr, hi⟩ := hc i hi
  exact ⟨r, hr, hi.more hF⟩
end
theorem gramE_hit {g : Gr} {i : Nat} (hg : ¬ (g.length < 1 ∨ 5 < g.length)) (hi : i < g.length) (h0 : ∀ k, k < i → nameE g.length (gAt g k) = 0) (hc : nameE g.length (gAt g i) ≠ 0) : gramE g = nameE g.length (gAt g i) := by
  unfold gramE
  rw [if_neg hg]
  have := firstE_hit (l := g.map (nameE g.length)) (j := i) (by simpa using hi) (fun k hk => by
    have := h0 k hk
    rw [gAt_get (by omega)] at this
    simpa using this) (by simpa [gAt_get hi] using hc)
  rw [this]
  simp [gAt_get hi]
theorem gramE_none {g : Gr} (hg : ¬ (g.length < 1 ∨ 5 < g.length)) (h0 : ∀ k, k < g.length → nameE g.length (gAt g k) = 0) : gramE g = 0 := by
  unfold gramE
  rw [if_neg hg]
  exact firstE_none fun k hk => by
    have hk' : k < g.length := by simpa using hk
    have := h0 k hk'
    rw [gAt_get hk'] at this
    simpa using this
theorem nameE_hit {n : Nat} {l : List (List Int)} {i : Nat} (hg : ¬ 6 < l.length) (hi : i < l.length) (h0 : ∀ k, k < i → ruleE n (rowAt l k) = 0) (hc : ruleE n (rowAt l i) ≠ 0) : nameE n l = ruleE n (rowAt l i) := by
  unfold nameE
  rw [if_neg hg]
  have := firstE_hit (l := l.map (ruleE n)) (j := i) (by simpa using hi) (fun k hk => by
    have := h0 k hk
    rw [rAt_get (by omega)] at this
    simpa using this) (by simpa [rAt_get hi] using hc)
  rw [this]
  simp [rAt_get hi]
theorem nameE_none {n : Nat} {l : List (List Int)} (hg : ¬ 6 < l.length) (h0 : ∀ k, k < l.length → ruleE n (rowAt l k) = 0) : nameE n l = 0 := by
  unfold nameE
  rw [if_neg hg]
  exact firstE_none fun k hk => by
    have hk' : k < l.length := by simpa using hk
    have := h0 k hk'
    rw [rAt_get hk'] at this
    simpa using this
theorem ruleE_none {n : Nat} {r : List Int} (hg : ¬ 4 < r.length) (h0 : ∀ k, k < r.length → symB n (at0 r k) = false) : ruleE n r = 0 := by
  unfold ruleE
  rw [if_neg hg, if_neg]
  intro h
  obtain ⟨x, hx, hb⟩ := List.any_eq_true.1 h
  obtain ⟨k, hk, rfl⟩ := List.getElem_of_mem hx
  have := h0 k hk
  unfold at0 at this
  rw [List.getD_eq_getElem?_getD, List.getElem?_eq_getElem hk] at this
  rw [Option.getD_some] at this
  rw [this] at hb; cases hb
theorem ruleE_hit {n : Nat} {r : List Int} {i : Nat} (hg : ¬ 4 < r.length) (hi : i < r.length) (h : symB n (at0 r i) = true) : ruleE n r = 1 := by
  unfold ruleE
  rw [if_neg hg, if_pos (List.any_eq_true.2 ⟨_, mem_at hi, h⟩)]
set_option maxRecDepth 100000 in
set_option maxHeartbeats 4000000 in
theorem grcheck_any (g : Gr) (F : Nat → Prop) (v : Value) (w : World) (hv : GramIn F w v g) :
    Calls Tryd.prog 13 #[v] w fun e w' => e = .returned (errV (gramE g)) ∧ w' = w := by
  obtain ⟨A, c, rfl, h1, h3⟩ := hv
  have H3 := hid h3
  unfold maxLen at h1
  clear h3
  by_cases h4 : g.length < 1 ∨ 5 < g.length
  · have E : gramE g = 1 := by unfold gramE; rw [if_pos h4]
    rw [E]
    clear E
    have h5 : (g.length : Int) < 1 ∨ 5 < (g.length : Int) := by omega
    clear h4
    by_cases h6 : (g.length : Int) < 1
    · clear h5
      go_enter Tryd.func13, Tryd.ntmps13
      go_wp2_with fail
      go_ret
      exact ⟨rfl, rfl⟩
    · have h7 : 5 < (g.length : Int) := by omega
      have h8 : ¬ (g.length : Int) ≤ 5 := by omega
      clear h5
      go_enter Tryd.func13, Tryd.ntmps13
      go_wp2_with fail
      go_ret
      exact ⟨rfl, rfl⟩
  · have NG := hid h4
    have h5 : ¬ (g.length : Int) < 1 := by omega
    have h6 : ¬ 5 < (g.length : Int) := by omega
    have g1 : g.length ≤ 5 := by omega
    clear h4
    go_enter Tryd.func13, Tryd.ntmps13
    go_wp2_with fail
    go_loop [20] (fun ii => ∃ i : Nat, i ≤ g.length ∧ ii = .int .i64 i ∧ Hid (∀ k, k < i → nameE g.length (gAt g k) = 0)) (fun ii => g.length - (intOf ii).toNat)
    case atStart => exact ⟨0, Nat.zero_le _, rfl, fun k hk => by omega⟩
    case round =>
      obtain ⟨i, hi, rfl, hI⟩ := hrel
      by_cases hlt : i < g.length
      · obtain ⟨b, o, rfl, _, hc⟩ := H3.out (by omega)
        obtain ⟨r, c1, hr⟩ := hc i hlt
        obtain ⟨l, hl⟩ : ∃ l, l = gAt g i := ⟨_, rfl⟩
        rw [← hl] at hr
        have HL := hid hl
        obtain ⟨A2, cp2, rfl, l1, hr3⟩ := hr
        have R3 := hid hr3
        unfold maxLen at l1
        have i1 : (i : Int) < (g.length : Int) := by omega
        clear hc hl hr3
        by_cases h6 : 6 < l.length
        · have E : Hid (gramE g = 4) := by
            have h7 : nameE g.length (gAt g i) = 4 := by rw [← HL.out]; unfold nameE; rw [if_pos h6]
            show _ = _
            rw [gramE_hit NG.out hlt hI.out (by rw [h7]; decide), h7]
          have h7 : 6 < (l.length : Int) := by omega
          clear h6
          go_wp2_with fail
          go_ret
          exact ⟨by rw [E.out]; rfl, rfl⟩
        · have N6 := hid h6
          have h7 : ¬ 6 < (l.length : Int) := by omega
          clear h6
          go_wp2_with fail
          go_loop [30] (fun ki => ∃ k : Nat, k ≤ l.length ∧ ki = .int .i64 k ∧ Hid (∀ q, q < k → ruleE g.length (rowAt l q) = 0)) (fun ki => l.length - (intOf ki).toNat)
          case atStart => exact ⟨0, Nat.zero_le _, rfl, fun k hk => by omega⟩
          case round =>
            obtain ⟨k, hk, rfl, hK⟩ := hrel
            by_cases hkt : k < l.length
            · obtain ⟨b2, o2, rfl, _, hc2⟩ := R3.out (by omega)
              obtain ⟨r2, c2, hr2⟩ := hc2 k hkt
              obtain ⟨s, hs⟩ : ∃ s, s = rowAt l k := ⟨_, rfl⟩
              rw [← hs] at hr2
              have HS := hid hs
              obtain ⟨A4, cp4, rfl, s1, _, hr4⟩ := hr2
              have R4 := hid hr4
              unfold maxLen at s1
              have i2 : (k : Int) < (l.length : Int) := by omega
              clear hc2 hs hr4
              by_cases h8 : 4 < s.length
              · have E : Hid (gramE g = 4) := by
                  have h9 : ruleE g.length (rowAt l k) = 4 := by rw [← HS.out]; unfold ruleE; rw [if_pos h8]
                  have h10 : nameE g.length (gAt g i) = 4 := by rw [← HL.out, nameE_hit N6.out hkt hK.out (by rw [h9]; decide), h9]
                  show _ = _
                  rw [gramE_hit NG.out hlt hI.out (by rw [h10]; decide), h10]
                have h9 : 4 < (s.length : Int) := by omega
                clear h8
                go_wp2_with fail
                go_ret
                exact ⟨by rw [E.out]; rfl, rfl⟩
              · have N8 := hid h8
                have h9 : ¬ 4 < (s.length : Int) := by omega
                clear h8
                go_wp2_with fail
                go_loop [40] (fun ji => ∃ j : Nat, j ≤ s.length ∧ ji = .int .i64 j ∧ Hid (∀ q, q < j → symB g.length (at0 s q) = false)) (fun ji => s.length - (intOf ji).toNat)
                case atStart => exact ⟨0, Nat.zero_le _, rfl, fun k hk => by omega⟩
                case round =>
                  obtain ⟨j, hj, rfl, hJ⟩ := hrel
                  by_cases hjt : j < s.length
                  · obtain ⟨b6, o6, rfl, _, hc6⟩ := R4.out (by omega)
                    have c6 := hc6 j hjt
                    have EX : s.getD j 0 = at0 s j := rfl
                    rw [EX] at c6
                    have i3 : (j : Int) < (s.length : Int) := by omega
                    obtain ⟨x, hx⟩ : ∃ x, x = at0 s j := ⟨_, rfl⟩
                    rw [← hx] at c6
                    have HX := hid hx
                    clear hc6 EX hx
                    by_cases hbad : symB g.length x = true
                    · have E : Hid (gramE g = 1) := by
                        have h9 : ruleE g.length (rowAt l k) = 1 := by rw [← HS.out]; exact ruleE_hit N8.out hjt (by rw [← HX.out]; exact hbad)
                        have h10 : nameE g.length (gAt g i) = 1 := by rw [← HL.out, nameE_hit N6.out hkt hK.out (by rw [h9]; decide), h9]
                        show _ = _
                        rw [gramE_hit NG.out hlt hI.out (by rw [h10]; decide), h10]
                      have hb2 : x < -(g.length : Int) ∨ 2 < x := by simpa [symB] using hbad
                      clear hbad
                      by_cases hb3 : x < -(g.length : Int)
                      · clear hb2
                        go_wp2_with fail
                        go_ret
                        exact ⟨by rw [E.out]; rfl, rfl⟩
                      · have hb4 : 2 < x := by omega
                        clear hb2
                        go_wp2_with fail
                        go_ret
                        exact ⟨by rw [E.out]; rfl, rfl⟩
                    · have hb1 : symB g.length x = false := by simpa using hbad
                      have N : Hid (∀ q, q < j + 1 → symB g.length (at0 s q) = false) := fun q hq => by
                        by_cases hqj : q = j
                        · subst hqj; rw [← HX.out]; exact hb1
                        · exact hJ.out q (by omega)
                      have hb2 : ¬ x < -(g.length : Int) ∧ ¬ 2 < x := by simpa [symB] using hb1
                      obtain ⟨hb3, hb4⟩ := hb2
                      clear hbad hb1
                      go_wp2_with fail
                      go_round
                      case rel => exact ⟨j + 1, by omega, by go_num, N⟩
                      case measure => simp [intOf]; omega
                  · obtain rfl : j = s.length := by omega
                    have N : Hid (∀ q, q < k + 1 → ruleE g.length (rowAt l q) = 0) := fun q hq => by
                      by_cases hqk : q = k
                      · subst hqk; rw [← HS.out]; exact ruleE_none N8.out hJ.out
                      · exact hK.out q (by omega)
                    go_wp2_with fail
                    go_round
                    case rel => exact ⟨k + 1, by omega, by go_num, N⟩
                    case measure => simp [intOf]; omega
            · obtain rfl : k = l.length := by omega
              have N : Hid (∀ q, q < i + 1 → nameE g.length (gAt g q) = 0) := fun q hq => by
                by_cases hqi : q = i
                · subst hqi; rw [← HL.out]; exact nameE_none N6.out hK.out
                · exact hI.out q (by omega)
              go_wp2_with fail
              go_round
              case rel => exact ⟨i + 1, by omega, by go_num, N⟩
              case measure => simp [intOf]; omega
      · obtain rfl : i = g.length := by omega
        have E : Hid (gramE g = 0) := gramE_none NG.out hI.out
        go_wp2_with fail
        go_ret
        exact ⟨by rw [E.out]; rfl, rfl⟩
end Go.Proofs.YtbnannlpebggjaaDoor
