/- What expr.told returns of an expression with parts, kind by kind. Condition: told's contract of the parts. -/
import Derived.Test.YtopehfmppfibhaaDoorEvs
namespace Go.Proofs.YtopehfmppfibhaaDoor
open Go.RowKit
set_option maxHeartbeats 400000 in
theorem sub_later (k n : Int) (s : List Ex) (ih : ∀ y ∈ s, ToldOk y) (he : ∀ y ∈ s, y.err = 0) (v : Va) (F : Nat → Prop) (A : Option Addr) (cp : Nat) (a' b' c' : Value) (w w3 : World) (hF : ∀ g, F g → g < w.heap.size)
    (hx : ExIn F w (.mk k n s) (.int .i64 k) (.int .i64 n) (.slice A s.length cp)) (hv : VaIn F w v a' b' c') (i : Nat) (hi : i < s.length) (z : Int) (hz : z = (i : Int))
    (hb : Below (w.heap.size + 2) ((w.alloc (.cells #[.int .i64 k, .int .i64 n, .slice A s.length cp] 53)).alloc (.cells #[a', b', c'] 47)) w3) :
    Calls Tryd.prog 64 #[.int .i64 z, .pointer (some ⟨w.heap.size, 0, none⟩), .pointer (some ⟨w.heap.size + 1, 0, none⟩)] w3 (ToldPost (s[i].ev v) w3) := by
  subst hz
  obtain ⟨A1, cp1, _, _, e3, l1, l2, hs⟩ := hx.box
  injection e3 with e4 _ e5
  subst e4 e5
  obtain ⟨bl, off, rfl, hbl, hex⟩ := hs (by omega)
  have B0 : Below w.heap.size w w3 := (((Below.refl _ _).alloc (Nat.le_refl _) _).alloc (by simp) _).trans (hb.mono (by omega))
  have hs3 := B0.size
  exact sub_any k n s i hi (ih _ (List.getElem_mem hi)) (he _ (List.getElem_mem hi)) v F bl off cp _ _ a' b' c' w3 (fun g hg => by have := hF g hg; omega) hbl (ExsIn.keep (Same.of_below B0 hF) s hbl hex) l1 l2 (VaIn.keep (Same.of_below B0 hF) _ hv)
    (Has.below (Has.alloc (Has.new _ _) _) hb (by omega)) (Has.below (Has.newAt _ _ (by simp)) hb (by omega))
theorem exs_err : ∀ {s : List Ex}, Exs.err s = 0 → ∀ y ∈ s, y.err = 0
  | [], _, y, hy => by cases hy
  | x :: r, h, y, hy => by
    rw [Exs.err] at h
    by_cases hx : x.err = 0
    · rw [if_neg (by simp [hx])] at h
      rcases List.mem_cons.1 hy with rfl | hy
      · exact hx
      · exact exs_err h y hy
    · rw [if_pos hx] at h; exact absurd h hx
set_option maxRecDepth 100000 in
set_option maxHeartbeats 2000000 in
theorem told_9 (n : Int) (s : List Ex) (ih : ∀ y ∈ s, ToldOk y) (he : ∀ y ∈ s, y.err = 0) (hl : s.length = 1) (v : Va) (F : Nat → Prop) (a b c a' b' c' : Value) (w : World) (hF : ∀ g, F g → g < w.heap.size) (hx : ExIn F w (.mk 9 n s) a b c) (hv : VaIn F w v a' b' c') :
    Calls Tryd.prog 48 #[.agg #[a, b, c], .agg #[a', b', c']] w (ToldPost (notM (s[0].ev v)) w) := by
  have HV := hid hv
  have HX := hid hx
  obtain ⟨A, cp, rfl, rfl, rfl, _, _, _⟩ := hx.box
  have SUB := hid fun i hi z hz w3 => sub_later 9 n s ih he v F A cp a' b' c' w w3 hF hx hv i hi z hz
  obtain ⟨k', n', s'⟩ := v
  obtain ⟨A', cp', rfl, rfl, rfl, _, _, _⟩ := hv.box
  have P0 := hid (SUB.out 0 (by omega) 0 rfl _ (Below.refl _ _))
  generalize s[0].ev (.mk k' n' s') = r0 at *
  clear hx hv ih he hF HV HX hl
  go_enter Tryd.func48, Tryd.ntmps48
  go_wp2_with fail
  refine P0.out.mono ?_
  rintro e w1 ⟨hb1, he1⟩
  have B1 : Hid (Below w.heap.size w w1) := (((Below.refl _ _).alloc (Nat.le_refl _) _).alloc (by simp) _).trans (hb1.mono (by simp; omega))
  cases r0 with
  | none =>
    simp only at he1
    subst he1
    exact ⟨rfl, B1.out, rfl⟩
  | some q =>
  simp only at he1
  subst he1
  clear SUB P0 hb1
  go_wp2_with fail
  refine (truth_any _ _).mono ?_
  rintro e w2 ⟨rfl, rfl⟩
  go_wp2_with fail
  go_ret
  exact ⟨B1.out, rfl⟩
set_option maxRecDepth 100000 in
set_option maxHeartbeats 2000000 in
theorem told_10 (n : Int) (s : List Ex) (ih : ∀ y ∈ s, ToldOk y) (he : ∀ y ∈ s, y.err = 0) (hl : s.length = 2) (v : Va) (F : Nat → Prop) (a b c a' b' c' : Value) (w : World) (hF : ∀ g, F g → g < w.heap.size) (hx : ExIn F w (.mk 10 n s) a b c) (hv : VaIn F w v a' b' c') :
    Calls Tryd.prog 48 #[.agg #[a, b, c], .agg #[a', b', c']] w (ToldPost (twoM 10 (s[0].ev v) (s[1].ev v)) w) := by
  have HV := hid hv
  have HX := hid hx
  obtain ⟨A, cp, rfl, rfl, rfl, _, _, _⟩ := hx.box
  have SUB := hid fun i hi z hz w3 => sub_later 10 n s ih he v F A cp a' b' c' w w3 hF hx hv i hi z hz
  obtain ⟨k', n', s'⟩ := v
  obtain ⟨A', cp', rfl, rfl, rfl, _, _, _⟩ := hv.box
  have P0 := hid (SUB.out 0 (by omega) 0 rfl _ (Below.refl _ _))
  generalize s[0].ev (.mk k' n' s') = r0 at *
  have P1 := hid (SUB.out 1 (by omega) 1 rfl)
  generalize s[1].ev (.mk k' n' s') = r1 at *
  clear hx hv ih he hF HV HX hl
  go_enter Tryd.func48, Tryd.ntmps48
  go_wp2_with fail
  refine P0.out.mono ?_
  rintro e w1 ⟨hb1, he1⟩
  have B1 : Hid (Below w.heap.size w w1) := (((Below.refl _ _).alloc (Nat.le_refl _) _).alloc (by simp) _).trans (hb1.mono (by simp; omega))
  cases r0 with
  | none =>
    simp only at he1
    subst he1
    exact ⟨rfl, B1.out, rfl⟩
  | some q =>
  simp only at he1
  subst he1
  have BB : Hid (Below (w.heap.size + 2) ((w.alloc (.cells #[.int .i64 10, .int .i64 n, .slice A s.length cp] 53)).alloc (.cells #[.bool k', .int .i64 n', .slice A' s'.length cp'] 47)) w1) := hb1.mono (by simp)
  have x0 : w1.cell? ⟨w.heap.size, 0, none⟩ = some (.int .i64 10) := (Has.cell (Has.below (Has.alloc (Has.new _ _) _) BB.out (by omega)) 0).trans rfl
  clear SUB P0 hb1
  by_cases hq : q = 0
  · subst hq
    have T : Hid (twoM 10 (some 0) r1 = some 0) := by show _ = _; simp [twoM]
    go_wp2_with fail
    go_ret
    change ToldPost _ _ _ _
    rw [T.out]
    exact ⟨B1.out, rfl⟩
  · have d0 : (q == 0) = false := by simpa using hq
    have d1 : (q != 0) = true := by simpa using hq
    have d2 : decide (q = 0) = false := by simpa using hq
    have T : Hid (twoM 10 (some q) r1 = r1) := by show _ = _; simp [twoM, hq]; cases r1 <;> simp [twoN, finM]
    clear hq
    go_wp2_with fail
    refine (P1.out _ BB.out).mono ?_
    rintro e w2 ⟨hb2, he2⟩
    have B2 : Hid (Below w.heap.size w w2) := B1.out.trans (hb2.mono B1.out.size)
    have x1 : w2.cell? ⟨w.heap.size, 0, none⟩ = some (.int .i64 10) := (Has.cell (Has.below (Has.below (Has.alloc (Has.new _ _) _) BB.out (by omega)) hb2 (cell_lt x0)) 0).trans rfl
    clear P1 hb2 x0 BB
    cases r1 with
    | none =>
      simp only at he2
      subst he2
      exact ⟨rfl, by rw [T.out]; exact ⟨B2.out, rfl⟩⟩
    | some p =>
    simp only at he2
    subst he2
    go_wp2_with fail
    go_ret
    change ToldPost _ _ _ _
    rw [T.out]
    exact ⟨B2.out, rfl⟩
set_option maxRecDepth 100000 in
set_option maxHeartbeats 2000000 in
theorem told_11 (n : Int) (s : List Ex) (ih : ∀ y ∈ s, ToldOk y) (he : ∀ y ∈ s, y.err = 0) (hl : s.length = 2) (v : Va) (F : Nat → Prop) (a b c a' b' c' : Value) (w : World) (hF : ∀ g, F g → g < w.heap.size) (hx : ExIn F w (.mk 11 n s) a b c) (hv : VaIn F w v a' b' c') :
    Calls Tryd.prog 48 #[.agg #[a, b, c], .agg #[a', b', c']] w (ToldPost (twoM 11 (s[0].ev v) (s[1].ev v)) w) := by
  have HV := hid hv
  have HX := hid hx
  obtain ⟨A, cp, rfl, rfl, rfl, _, _, _⟩ := hx.box
  have SUB := hid fun i hi z hz w3 => sub_later 11 n s ih he v F A cp a' b' c' w w3 hF hx hv i hi z hz
  obtain ⟨k', n', s'⟩ := v
  obtain ⟨A', cp', rfl, rfl, rfl, _, _, _⟩ := hv.box
  have P0 := hid (SUB.out 0 (by omega) 0 rfl _ (Below.refl _ _))
  generalize s[0].ev (.mk k' n' s') = r0 at *
  have P1 := hid (SUB.out 1 (by omega) 1 rfl)
  generalize s[1].ev (.mk k' n' s') = r1 at *
  clear hx hv ih he hF HV HX hl
  go_enter Tryd.func48, Tryd.ntmps48
  go_wp2_with fail
  refine P0.out.mono ?_
  rintro e w1 ⟨hb1, he1⟩
  have B1 : Hid (Below w.heap.size w w1) := (((Below.refl _ _).alloc (Nat.le_refl _) _).alloc (by simp) _).trans (hb1.mono (by simp; omega))
  cases r0 with
  | none =>
    simp only at he1
    subst he1
    exact ⟨rfl, B1.out, rfl⟩
  | some q =>
  simp only at he1
  subst he1
  have BB : Hid (Below (w.heap.size + 2) ((w.alloc (.cells #[.int .i64 11, .int .i64 n, .slice A s.length cp] 53)).alloc (.cells #[.bool k', .int .i64 n', .slice A' s'.length cp'] 47)) w1) := hb1.mono (by simp)
  have x0 : w1.cell? ⟨w.heap.size, 0, none⟩ = some (.int .i64 11) := (Has.cell (Has.below (Has.alloc (Has.new _ _) _) BB.out (by omega)) 0).trans rfl
  clear SUB P0 hb1
  by_cases hq : q = 0
  · subst hq
    have T : Hid (twoM 11 (some 0) r1 = r1) := by show _ = _; simp [twoM]; cases r1 <;> simp [twoN, finM]
    go_wp2_with fail
    refine (P1.out _ BB.out).mono ?_
    rintro e w2 ⟨hb2, he2⟩
    have B2 : Hid (Below w.heap.size w w2) := B1.out.trans (hb2.mono B1.out.size)
    have x1 : w2.cell? ⟨w.heap.size, 0, none⟩ = some (.int .i64 11) := (Has.cell (Has.below (Has.below (Has.alloc (Has.new _ _) _) BB.out (by omega)) hb2 (cell_lt x0)) 0).trans rfl
    clear P1 hb2 x0 BB
    cases r1 with
    | none =>
      simp only at he2
      subst he2
      exact ⟨rfl, by rw [T.out]; exact ⟨B2.out, rfl⟩⟩
    | some p =>
    simp only at he2
    subst he2
    go_wp2_with fail
    go_ret
    change ToldPost _ _ _ _
    rw [T.out]
    exact ⟨B2.out, rfl⟩
  · have d0 : (q == 0) = false := by simpa using hq
    have d1 : (q != 0) = true := by simpa using hq
    have d2 : decide (q = 0) = false := by simpa using hq
    have T : Hid (twoM 11 (some q) r1 = some q) := by show _ = _; simp [twoM, hq]
    clear hq
    go_wp2_with fail
    go_ret
    change ToldPost _ _ _ _
    rw [T.out]
    exact ⟨B1.out, rfl⟩
set_option maxRecDepth 100000 in
set_option maxHeartbeats 2000000 in
theorem told_5 (n : Int) (s : List Ex) (ih : ∀ y ∈ s, ToldOk y) (he : ∀ y ∈ s, y.err = 0) (hl : s.length = 2) (v : Va) (F : Nat → Prop) (a b c a' b' c' : Value) (w : World) (hF : ∀ g, F g → g < w.heap.size) (hx : ExIn F w (.mk 5 n s) a b c) (hv : VaIn F w v a' b' c') :
    Calls Tryd.prog 48 #[.agg #[a, b, c], .agg #[a', b', c']] w (ToldPost (twoM 5 (s[0].ev v) (s[1].ev v)) w) := by
  have HV := hid hv
  have HX := hid hx
  obtain ⟨A, cp, rfl, rfl, rfl, _, _, _⟩ := hx.box
  have SUB := hid fun i hi z hz w3 => sub_later 5 n s ih he v F A cp a' b' c' w w3 hF hx hv i hi z hz
  obtain ⟨k', n', s'⟩ := v
  obtain ⟨A', cp', rfl, rfl, rfl, _, _, _⟩ := hv.box
  have P0 := hid (SUB.out 0 (by omega) 0 rfl _ (Below.refl _ _))
  generalize s[0].ev (.mk k' n' s') = r0 at *
  have P1 := hid (SUB.out 1 (by omega) 1 rfl)
  generalize s[1].ev (.mk k' n' s') = r1 at *
  clear hx hv ih he hF HV HX hl
  go_enter Tryd.func48, Tryd.ntmps48
  go_wp2_with fail
  refine P0.out.mono ?_
  rintro e w1 ⟨hb1, he1⟩
  have B1 : Hid (Below w.heap.size w w1) := (((Below.refl _ _).alloc (Nat.le_refl _) _).alloc (by simp) _).trans (hb1.mono (by simp; omega))
  cases r0 with
  | none =>
    simp only at he1
    subst he1
    exact ⟨rfl, B1.out, rfl⟩
  | some q =>
  simp only at he1
  subst he1
  have BB : Hid (Below (w.heap.size + 2) ((w.alloc (.cells #[.int .i64 5, .int .i64 n, .slice A s.length cp] 53)).alloc (.cells #[.bool k', .int .i64 n', .slice A' s'.length cp'] 47)) w1) := hb1.mono (by simp)
  have x0 : w1.cell? ⟨w.heap.size, 0, none⟩ = some (.int .i64 5) := (Has.cell (Has.below (Has.alloc (Has.new _ _) _) BB.out (by omega)) 0).trans rfl
  clear SUB P0 hb1
  have T : Hid (twoM 5 (some q) r1 = twoN 5 q r1) := by show _ = _; simp [twoM]
  go_wp2_with fail
  refine (P1.out _ BB.out).mono ?_
  rintro e w2 ⟨hb2, he2⟩
  have B2 : Hid (Below w.heap.size w w2) := B1.out.trans (hb2.mono B1.out.size)
  have x1 : w2.cell? ⟨w.heap.size, 0, none⟩ = some (.int .i64 5) := (Has.cell (Has.below (Has.below (Has.alloc (Has.new _ _) _) BB.out (by omega)) hb2 (cell_lt x0)) 0).trans rfl
  clear P1 hb2 x0 BB
  cases r1 with
  | none =>
    simp only at he2
    subst he2
    exact ⟨rfl, by rw [T.out]; exact ⟨B2.out, rfl⟩⟩
  | some p =>
  simp only at he2
  subst he2
  have T2 : Hid (finM 5 q p = some (wrap64 (q + p))) := by show _ = _; simp [finM]
  go_wp2_with fail
  go_ret
  change ToldPost _ _ _ _
  rw [T.out]
  show ToldPost (finM _ _ _) _ _ _
  rw [T2.out]
  exact ⟨B2.out, rfl⟩
set_option maxRecDepth 100000 in
set_option maxHeartbeats 2000000 in
theorem told_7 (n : Int) (s : List Ex) (ih : ∀ y ∈ s, ToldOk y) (he : ∀ y ∈ s, y.err = 0) (hl : s.length = 2) (v : Va) (F : Nat → Prop) (a b c a' b' c' : Value) (w : World) (hF : ∀ g, F g → g < w.heap.size) (hx : ExIn F w (.mk 7 n s) a b c) (hv : VaIn F w v a' b' c') :
    Calls Tryd.prog 48 #[.agg #[a, b, c], .agg #[a', b', c']] w (ToldPost (twoM 7 (s[0].ev v) (s[1].ev v)) w) := by
  have HV := hid hv
  have HX := hid hx
  obtain ⟨A, cp, rfl, rfl, rfl, _, _, _⟩ := hx.box
  have SUB := hid fun i hi z hz w3 => sub_later 7 n s ih he v F A cp a' b' c' w w3 hF hx hv i hi z hz
  obtain ⟨k', n', s'⟩ := v
  obtain ⟨A', cp', rfl, rfl, rfl, _, _, _⟩ := hv.box
  have P0 := hid (SUB.out 0 (by omega) 0 rfl _ (Below.refl _ _))
  generalize s[0].ev (.mk k' n' s') = r0 at *
  have P1 := hid (SUB.out 1 (by omega) 1 rfl)
  generalize s[1].ev (.mk k' n' s') = r1 at *
  clear hx hv ih he hF HV HX hl
  go_enter Tryd.func48, Tryd.ntmps48
  go_wp2_with fail
  refine P0.out.mono ?_
  rintro e w1 ⟨hb1, he1⟩
  have B1 : Hid (Below w.heap.size w w1) := (((Below.refl _ _).alloc (Nat.le_refl _) _).alloc (by simp) _).trans (hb1.mono (by simp; omega))
  cases r0 with
  | none =>
    simp only at he1
    subst he1
    exact ⟨rfl, B1.out, rfl⟩
  | some q =>
  simp only at he1
  subst he1
  have BB : Hid (Below (w.heap.size + 2) ((w.alloc (.cells #[.int .i64 7, .int .i64 n, .slice A s.length cp] 53)).alloc (.cells #[.bool k', .int .i64 n', .slice A' s'.length cp'] 47)) w1) := hb1.mono (by simp)
  have x0 : w1.cell? ⟨w.heap.size, 0, none⟩ = some (.int .i64 7) := (Has.cell (Has.below (Has.alloc (Has.new _ _) _) BB.out (by omega)) 0).trans rfl
  clear SUB P0 hb1
  have T : Hid (twoM 7 (some q) r1 = twoN 7 q r1) := by show _ = _; simp [twoM]
  go_wp2_with fail
  refine (P1.out _ BB.out).mono ?_
  rintro e w2 ⟨hb2, he2⟩
  have B2 : Hid (Below w.heap.size w w2) := B1.out.trans (hb2.mono B1.out.size)
  have x1 : w2.cell? ⟨w.heap.size, 0, none⟩ = some (.int .i64 7) := (Has.cell (Has.below (Has.below (Has.alloc (Has.new _ _) _) BB.out (by omega)) hb2 (cell_lt x0)) 0).trans rfl
  clear P1 hb2 x0 BB
  cases r1 with
  | none =>
    simp only at he2
    subst he2
    exact ⟨rfl, by rw [T.out]; exact ⟨B2.out, rfl⟩⟩
  | some p =>
  simp only at he2
  subst he2
  have T2 : Hid (finM 7 q p = some (truthI (decide (q < p)))) := by show _ = _; simp [finM]
  go_wp2_with fail
  refine (truth_any _ _).mono ?_
  rintro e w3 ⟨rfl, rfl⟩
  go_wp2_with fail
  go_ret
  change ToldPost _ _ _ _
  rw [T.out]
  show ToldPost (finM _ _ _) _ _ _
  rw [T2.out]
  exact ⟨B2.out, rfl⟩
set_option maxRecDepth 100000 in
set_option maxHeartbeats 2000000 in
theorem told_8 (n : Int) (s : List Ex) (ih : ∀ y ∈ s, ToldOk y) (he : ∀ y ∈ s, y.err = 0) (hl : s.length = 2) (v : Va) (F : Nat → Prop) (a b c a' b' c' : Value) (w : World) (hF : ∀ g, F g → g < w.heap.size) (hx : ExIn F w (.mk 8 n s) a b c) (hv : VaIn F w v a' b' c') :
    Calls Tryd.prog 48 #[.agg #[a, b, c], .agg #[a', b', c']] w (ToldPost (twoM 8 (s[0].ev v) (s[1].ev v)) w) := by
  have HV := hid hv
  have HX := hid hx
  obtain ⟨A, cp, rfl, rfl, rfl, _, _, _⟩ := hx.box
  have SUB := hid fun i hi z hz w3 => sub_later 8 n s ih he v F A cp a' b' c' w w3 hF hx hv i hi z hz
  obtain ⟨k', n', s'⟩ := v
  obtain ⟨A', cp', rfl, rfl, rfl, _, _, _⟩ := hv.box
  have P0 := hid (SUB.out 0 (by omega) 0 rfl _ (Below.refl _ _))
  generalize s[0].ev (.mk k' n' s') = r0 at *
  have P1 := hid (SUB.out 1 (by omega) 1 rfl)
  generalize s[1].ev (.mk k' n' s') = r1 at *
  clear hx hv ih he hF HV HX hl
  go_enter Tryd.func48, Tryd.ntmps48
  go_wp2_with fail
  refine P0.out.mono ?_
  rintro e w1 ⟨hb1, he1⟩
  have B1 : Hid (Below w.heap.size w w1) := (((Below.refl _ _).alloc (Nat.le_refl _) _).alloc (by simp) _).trans (hb1.mono (by simp; omega))
  cases r0 with
  | none =>
    simp only at he1
    subst he1
    exact ⟨rfl, B1.out, rfl⟩
  | some q =>
  simp only at he1
  subst he1
  have BB : Hid (Below (w.heap.size + 2) ((w.alloc (.cells #[.int .i64 8, .int .i64 n, .slice A s.length cp] 53)).alloc (.cells #[.bool k', .int .i64 n', .slice A' s'.length cp'] 47)) w1) := hb1.mono (by simp)
  have x0 : w1.cell? ⟨w.heap.size, 0, none⟩ = some (.int .i64 8) := (Has.cell (Has.below (Has.alloc (Has.new _ _) _) BB.out (by omega)) 0).trans rfl
  clear SUB P0 hb1
  have T : Hid (twoM 8 (some q) r1 = twoN 8 q r1) := by show _ = _; simp [twoM]
  go_wp2_with fail
  refine (P1.out _ BB.out).mono ?_
  rintro e w2 ⟨hb2, he2⟩
  have B2 : Hid (Below w.heap.size w w2) := B1.out.trans (hb2.mono B1.out.size)
  have x1 : w2.cell? ⟨w.heap.size, 0, none⟩ = some (.int .i64 8) := (Has.cell (Has.below (Has.below (Has.alloc (Has.new _ _) _) BB.out (by omega)) hb2 (cell_lt x0)) 0).trans rfl
  clear P1 hb2 x0 BB
  cases r1 with
  | none =>
    simp only at he2
    subst he2
    exact ⟨rfl, by rw [T.out]; exact ⟨B2.out, rfl⟩⟩
  | some p =>
  simp only at he2
  subst he2
  have T2 : Hid (finM 8 q p = some (truthI (decide (q = p)))) := by show _ = _; simp [finM]
  go_wp2_with fail
  refine (truth_any _ _).mono ?_
  rintro e w3 ⟨rfl, rfl⟩
  go_wp2_with fail
  go_ret
  change ToldPost _ _ _ _
  rw [T.out]
  show ToldPost (finM _ _ _) _ _ _
  rw [T2.out]
  exact ⟨B2.out, rfl⟩
set_option maxRecDepth 100000 in
set_option maxHeartbeats 2000000 in
theorem told_6 (n : Int) (s : List Ex) (ih : ∀ y ∈ s, ToldOk y) (he : ∀ y ∈ s, y.err = 0) (hl : s.length = 2) (v : Va) (F : Nat → Prop) (a b c a' b' c' : Value) (w : World) (hF : ∀ g, F g → g < w.heap.size) (hx : ExIn F w (.mk 6 n s) a b c) (hv : VaIn F w v a' b' c') :
    Calls Tryd.prog 48 #[.agg #[a, b, c], .agg #[a', b', c']] w (ToldPost (twoM 6 (s[0].ev v) (s[1].ev v)) w) := by
  have HV := hid hv
  have HX := hid hx
  obtain ⟨A, cp, rfl, rfl, rfl, _, _, _⟩ := hx.box
  have SUB := hid fun i hi z hz w3 => sub_later 6 n s ih he v F A cp a' b' c' w w3 hF hx hv i hi z hz
  obtain ⟨k', n', s'⟩ := v
  obtain ⟨A', cp', rfl, rfl, rfl, _, _, _⟩ := hv.box
  have P0 := hid (SUB.out 0 (by omega) 0 rfl _ (Below.refl _ _))
  generalize s[0].ev (.mk k' n' s') = r0 at *
  have P1 := hid (SUB.out 1 (by omega) 1 rfl)
  generalize s[1].ev (.mk k' n' s') = r1 at *
  clear hx hv ih he hF HV HX hl
  go_enter Tryd.func48, Tryd.ntmps48
  go_wp2_with fail
  refine P0.out.mono ?_
  rintro e w1 ⟨hb1, he1⟩
  have B1 : Hid (Below w.heap.size w w1) := (((Below.refl _ _).alloc (Nat.le_refl _) _).alloc (by simp) _).trans (hb1.mono (by simp; omega))
  cases r0 with
  | none =>
    simp only at he1
    subst he1
    exact ⟨rfl, B1.out, rfl⟩
  | some q =>
  simp only at he1
  subst he1
  have BB : Hid (Below (w.heap.size + 2) ((w.alloc (.cells #[.int .i64 6, .int .i64 n, .slice A s.length cp] 53)).alloc (.cells #[.bool k', .int .i64 n', .slice A' s'.length cp'] 47)) w1) := hb1.mono (by simp)
  have x0 : w1.cell? ⟨w.heap.size, 0, none⟩ = some (.int .i64 6) := (Has.cell (Has.below (Has.alloc (Has.new _ _) _) BB.out (by omega)) 0).trans rfl
  clear SUB P0 hb1
  have T : Hid (twoM 6 (some q) r1 = twoN 6 q r1) := by show _ = _; simp [twoM]
  go_wp2_with fail
  refine (P1.out _ BB.out).mono ?_
  rintro e w2 ⟨hb2, he2⟩
  have B2 : Hid (Below w.heap.size w w2) := B1.out.trans (hb2.mono B1.out.size)
  have x1 : w2.cell? ⟨w.heap.size, 0, none⟩ = some (.int .i64 6) := (Has.cell (Has.below (Has.below (Has.alloc (Has.new _ _) _) BB.out (by omega)) hb2 (cell_lt x0)) 0).trans rfl
  clear P1 hb2 x0 BB
  cases r1 with
  | none =>
    simp only at he2
    subst he2
    exact ⟨rfl, by rw [T.out]; exact ⟨B2.out, rfl⟩⟩
  | some p =>
  simp only at he2
  subst he2
  by_cases hp : p = 0
  · subst hp
    have T2 : Hid (finM 6 q 0 = none) := by show _ = _; simp [finM]
    go_wp2_with fail
    exact ⟨rfl, by rw [T.out]; show ToldPost (finM _ _ _) _ _ _; rw [T2.out]; exact ⟨B2.out, rfl⟩⟩
  · have d0 : (p == 0) = false := by simpa using hp
    have d1 : p ≠ 0 := hp
    have d2 : decide (p = 0) = false := by simpa using hp
    have T2 : Hid (finM 6 q p = some (q.tmod p)) := by show _ = _; simp [finM, hp]
    go_wp2_with fail
    go_ret
    change ToldPost _ _ _ _
    rw [T.out]
    show ToldPost (finM _ _ _) _ _ _
    rw [T2.out]
    exact ⟨B2.out, rfl⟩
theorem told_any : ∀ x, ToldOk x := Ex.ind fun k n s ih v F a b c a' b' c' w he hF hx hv => by
  rw [Ex.err] at he
  by_cases hh : headBad k s.length = true
  · rw [if_pos hh] at he; exact absurd he (by decide)
  rw [if_neg hh] at he
  have hs := exs_err he
  have hh : headBad k s.length = false := by simpa using hh
  rw [Ex.ev]
  have g0 := Exs.ev_getD v s 0
  have g1 := Exs.ev_getD v s 1
  simp only [headBad, Bool.or_eq_false_iff, decide_eq_false_iff_not, Int.not_lt, ne_eq, Decidable.not_not] at hh
  obtain ⟨⟨h1, h2⟩, h3⟩ := hh
  have hk : k = 1 ∨ k = 2 ∨ k = 3 ∨ k = 4 ∨ k = 5 ∨ k = 6 ∨ k = 7 ∨ k = 8 ∨ k = 9 ∨ k = 10 ∨ k = 11 := by omega
  rcases hk with rfl | rfl | rfl | rfl | rfl | rfl | rfl | rfl | rfl | rfl | rfl
  · exact told_lit n s v F a b c a' b' c' w hx hv
  · exact told_sum n s v F a b c a' b' c' w hF hx hv
  · exact told_top n s v F a b c a' b' c' w hF hx hv
  · exact told_len n s v F a b c a' b' c' w hx hv
  · have hl : s.length = 2 := by simp [takesL] at h3; omega
    rw [show opM v 5 n (Exs.ev v s) = twoM 5 (s[0].ev v) (s[1].ev v) by unfold opM; rw [if_neg (by decide), if_neg (by decide), if_neg (by decide), if_neg (by decide), if_neg (by decide), g0 (by omega), g1 (by omega)]]
    exact told_5 n s ih hs hl v F a b c a' b' c' w hF hx hv
  · have hl : s.length = 2 := by simp [takesL] at h3; omega
    rw [show opM v 6 n (Exs.ev v s) = twoM 6 (s[0].ev v) (s[1].ev v) by unfold opM; rw [if_neg (by decide), if_neg (by decide), if_neg (by decide), if_neg (by decide), if_neg (by decide), g0 (by omega), g1 (by omega)]]
    exact told_6 n s ih hs hl v F a b c a' b' c' w hF hx hv
  · have hl : s.length = 2 := by simp [takesL] at h3; omega
    rw [show opM v 7 n (Exs.ev v s) = twoM 7 (s[0].ev v) (s[1].ev v) by unfold opM; rw [if_neg (by decide), if_neg (by decide), if_neg (by decide), if_neg (by decide), if_neg (by decide), g0 (by omega), g1 (by omega)]]
    exact told_7 n s ih hs hl v F a b c a' b' c' w hF hx hv
  · have hl : s.length = 2 := by simp [takesL] at h3; omega
    rw [show opM v 8 n (Exs.ev v s) = twoM 8 (s[0].ev v) (s[1].ev v) by unfold opM; rw [if_neg (by decide), if_neg (by decide), if_neg (by decide), if_neg (by decide), if_neg (by decide), g0 (by omega), g1 (by omega)]]
    exact told_8 n s ih hs hl v F a b c a' b' c' w hF hx hv
  · have hl : s.length = 1 := by simp [takesL] at h3; omega
    rw [show opM v 9 n (Exs.ev v s) = notM (s[0].ev v) by unfold opM; rw [if_neg (by decide), if_neg (by decide), if_neg (by decide), if_neg (by decide), if_pos rfl, g0 (by omega)]]
    exact told_9 n s ih hs hl v F a b c a' b' c' w hF hx hv
  · have hl : s.length = 2 := by simp [takesL] at h3; omega
    rw [show opM v 10 n (Exs.ev v s) = twoM 10 (s[0].ev v) (s[1].ev v) by unfold opM; rw [if_neg (by decide), if_neg (by decide), if_neg (by decide), if_neg (by decide), if_neg (by decide), g0 (by omega), g1 (by omega)]]
    exact told_10 n s ih hs hl v F a b c a' b' c' w hF hx hv
  · have hl : s.length = 2 := by simp [takesL] at h3; omega
    rw [show opM v 11 n (Exs.ev v s) = twoM 11 (s[0].ev v) (s[1].ev v) by unfold opM; rw [if_neg (by decide), if_neg (by decide), if_neg (by decide), if_neg (by decide), if_neg (by decide), g0 (by omega), g1 (by omega)]]
    exact told_11 n s ih hs hl v F a b c a' b' c' w hF hx hv
end Go.Proofs.YtopehfmppfibhaaDoor
