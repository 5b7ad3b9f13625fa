/- What shrink.Walk returns: what is wrong, or the tape where the walk ends and how many steps it took. Condition: expr.takes holds its numbers. -/
import Derived.Test.YtopehfmppfibhaaDoorShx
import Derived.Test.YtopehfmppfibhaaDoorRcp
namespace Go.Proofs.YtopehfmppfibhaaDoor
open Go.RowKit Go.Deep
theorem replR_no {g : Ge} {l : List Int} {c : Int} (h : replR g l = .error c) : c ≠ 0 := by
  unfold replR at h
  split at h
  · rename_i hc; injection h with h; omega
  · cases hr : g.made.run (replayF l) 0 with
    | error e => rw [hr] at h; injection h with h; have := run_replay_no l g.made 0 e hr; omega
    | ok p =>
      obtain ⟨pos, z⟩ := p
      rw [hr] at h
      simp only at h
      split at h
      · injection h with h; omega
      · cases h
theorem failsG_ok {g : Ge} {x : Ex} {t : List Int} (h : (failsG g x t).2 = 0) : ∃ z, replR g t = .ok z := by
  unfold failsG at h
  cases hr : replR g t with
  | error c => rw [hr] at h; exact absurd h (replR_no hr)
  | ok z => exact ⟨z, rfl⟩
/-- one step of the walk -/
def stepW (g : Ge) (x : Ex) (t : List Int) : Option (List Int) := ((lessL g t).findIdx? (askB g x)).map fun i => rowAt (lessL g t) i
def Walks (g : Ge) (x : Ex) : Nat → List Int → List Int → Prop
  | 0, t, r => stepW g x t = none ∧ r = t
  | n + 1, t, r => ∃ t', stepW g x t = some t' ∧ Walks g x n t' r
theorem walks_one {g : Ge} {x : Ex} : ∀ {n m : Nat} {t r r' : List Int}, Walks g x n t r → Walks g x m t r' → n = m ∧ r = r'
  | 0, 0, _, _, _, h1, h2 => ⟨rfl, h1.2.trans h2.2.symm⟩
  | 0, _ + 1, _, _, _, h1, h2 => by obtain ⟨t', h2, _⟩ := h2; rw [h1.1] at h2; cases h2
  | _ + 1, 0, _, _, _, h1, h2 => by obtain ⟨t', h1, _⟩ := h1; rw [h2.1] at h1; cases h1
  | n + 1, m + 1, _, _, _, h1, h2 => by
    obtain ⟨t1, a1, b1⟩ := h1
    obtain ⟨t2, a2, b2⟩ := h2
    rw [a1] at a2
    injection a2 with a2
    subst a2
    obtain ⟨h, k⟩ := walks_one b1 b2
    exact ⟨by omega, k⟩
def walkE (g : Ge) (x : Ex) (t : List Int) : Int := if chkG g ≠ 0 then chkG g else if chkE x ≠ 0 then chkE x else if (failsG g x t).2 ≠ 0 then (failsG g x t).2 else if (failsG g x t).1 then 0 else 2
def WalkIs (g : Ge) (x : Ex) (t R : List Int) (K : Int) : Prop := (walkE g x t = 0 → ∃ n : Nat, Walks g x n t R ∧ K = wrap64 n) ∧ (walkE g x t ≠ 0 → R = [] ∧ K = 0)
theorem walkIs_one {g : Ge} {x : Ex} {t R R' : List Int} {K K' : Int} (h : WalkIs g x t R K) (h' : WalkIs g x t R' K') : R = R' ∧ K = K' := by
  by_cases h0 : walkE g x t = 0
  · obtain ⟨n, a, rfl⟩ := h.1 h0
    obtain ⟨m, b, rfl⟩ := h'.1 h0
    obtain ⟨rfl, rfl⟩ := walks_one a b
    exact ⟨rfl, rfl⟩
  · obtain ⟨rfl, rfl⟩ := h.2 h0
    obtain ⟨rfl, rfl⟩ := h'.2 h0
    exact ⟨rfl, rfl⟩
/-- the numbers that a slice reads as -/
def readT (w : World) (v : Value) : List Int := match v with
  | .slice (some a) n _ => (List.range n).map fun i => match w.cell? ⟨a.block, a.off + i, none⟩ with
    | some (.int .i64 z) => z
    | _ => 0
  | _ => []
theorem readT_ints {F : Nat → Prop} {w : World} {v : Value} {zs : List Int} (h : IntsIn .i64 F w v zs) : readT w v = zs := by
  obtain ⟨A, c, rfl, _, _, h3⟩ := h
  by_cases hn : 0 < zs.length
  · obtain ⟨b, o, rfl, _, hc⟩ := h3 hn
    unfold readT
    refine List.ext_getElem (by simp) fun i h1 h2 => ?_
    simp only [List.getElem_map, List.getElem_range]
    rw [hc i h2]
    simp [List.getD_eq_getElem?_getD, List.getElem?_eq_getElem h2]
  · obtain rfl : zs = [] := List.eq_nil_of_length_eq_zero (by omega)
    cases A <;> simp [readT]
theorem OwnRows.rowsW {B : Nat} {v : Value} {w : World} {cs : List Value} {ll : List (List Int)} (h : OwnRows B v w cs ll) (ho : w.ownsRow B 25 1 v ll.length cs) : RowsIn (fun b => B ≤ b ∧ b < w.heap.size) w v ll :=
  rows_of_own ho rfl (fun i hi => by
    have hc : i < cs.length := by rw [h.len]; exact hi
    refine ⟨cs[i], List.getElem?_eq_getElem hc, ?_⟩
    obtain ⟨h1, _⟩ := h.at_ i cs[i] ll[i] (List.getElem?_eq_getElem hc) (List.getElem?_eq_getElem hi)
    rw [rowAt_get hi]
    exact (ints_blockC h1 (wf1000 (h.ok _ (List.getElem_mem hi)).2)).more fun b hb => ⟨own_ge h1 b hb, own_lt h1 b hb⟩) fun b h1 h2 => ⟨h1, h2⟩
theorem rIx_idx {P : List Int → Bool} {l : List (List Int)} : (l.findIdx? P = none ∧ rIx P l = -1) ∨ ∃ j, j < l.length ∧ l.findIdx? P = some j ∧ rIx P l = j ∧ P (rowAt l j) = true := by
  unfold rIx
  cases h : l.findIdx? P with
  | none => exact .inl ⟨rfl, rfl⟩
  | some j =>
    obtain ⟨h1, h2, _⟩ := List.findIdx?_eq_some_iff_getElem.1 h
    exact .inr ⟨j, h1, rfl, rfl, by rw [rowAt_get h1]; exact h2⟩
/-- what is told is less -/
theorem lessTo_mem (g : Ge) (l : List Int) : ∀ j, ∀ m ∈ lessTo g l j, tlessB m l = true
  | 0, m, h => by simp [lessTo] at h
  | j + 1, m, h => by
    rw [lessTo] at h
    rcases List.mem_append.1 h with h | h
    · exact lessTo_mem g l j m h
    · obtain ⟨z, _, h⟩ := List.mem_flatMap.1 h
      unfold keepG at h
      split at h
      · rename_i hk; have : m = mendL g z := by simpa using h
        rw [this]; exact hk
      · cases h
theorem wrap_succ (k : Nat) : wrap64 (wrap64 (k : Int) + 1) = wrap64 ((k + 1 : Nat) : Int) := by unfold wrap64; omega
def WalkPost (g : Ge) (x : Ex) (t : List Int) (w : World) (e : Ending) (w' : World) : Prop := ∃ v K R, e = .returned (.tuple #[v, .int .i64 K, errV (walkE g x t)]) ∧ WalkIs g x t R K ∧ w'.ownsRow w.heap.size 3 1 v R.length (R.map (Value.int .i64)) ∧ R.length ≤ 1000000000 ∧ (∀ z ∈ R, 0 ≤ z ∧ z ≤ 1000) ∧ Below w.heap.size w w'
theorem walk_bad {g : Ge} {x : Ex} {t : List Int} {w w' : World} {c : Int} (hc : c ≠ 0) (h : walkE g x t = c) (hb : Below w.heap.size w w') : WalkPost g x t w (.returned (.tuple #[.slice none 0 0, .int .i64 0, .iface 60 (.int .i64 c)])) w' :=
  ⟨_, 0, [], by rw [h, errV_no hc], ⟨fun h0 => absurd (h.symm.trans h0) hc, fun _ => ⟨rfl, rfl⟩⟩, World.ownsRow_nil _ _ _ _, by simp, by simp, hb⟩
set_option maxRecDepth 100000 in
set_option maxHeartbeats 4000000 in
theorem walk_any (g : Ge) (x : Ex) (t : List Int) (F : Nat → Prop) (u1 u2 u3 u4 a b c tv : Value) (w : World) (hF : ∀ g, F g → g < w.heap.size) (hg : GeIn F w g u1 u2 u3 u4) (hx : ExIn F w x a b c) (ht : IntsIn .i64 F w tv t) (hL : LaidT w) :
    Calls Tryd.prog 22 #[.agg #[u1, u2, u3, u4], .agg #[a, b, c], tv] w (WalkPost g x t w) := by
  have HF := hid hF
  have HG := hid hg
  have HX := hid hx
  have HT := hid ht
  have HL := hid hL
  have CG := hid (fun w => gcheck_any g F u1 u2 u3 u4 w)
  have CX := hid (fun w => tcheck_any x F a b c w)
  have GF := hid (fun w => gfails_any g x t F u1 u2 u3 u4 a b c tv w)
  have WE : Hid (walkE g x t = if chkG g ≠ 0 then chkG g else if chkE x ≠ 0 then chkE x else if (failsG g x t).2 ≠ 0 then (failsG g x t).2 else if (failsG g x t).1 then 0 else 2) := rfl
  have WB := hid (fun w' c => @walk_bad g x t w w' c)
  have WO : Hid (∀ w' v (n : Nat) R K, walkE g x t = 0 → Walks g x n t R → K = wrap64 n → w'.ownsRow w.heap.size 3 1 v R.length (R.map (Value.int .i64)) → R.length ≤ 1000000000 → (∀ z ∈ R, 0 ≤ z ∧ z ≤ 1000) → Below w.heap.size w w' → WalkPost g x t w (.returned (.tuple #[v, .int .i64 K, .nilIface])) w') := fun w' v n R K h h1 h2 h3 h4 h5 h6 => ⟨v, K, R, by rw [h, errV_0], ⟨fun _ => ⟨n, h1, h2⟩, fun h0 => absurd h h0⟩, h3, h4, h5, h6⟩
  have FO := hid (fun t h => @failsG_ok g x t h)
  have LS := hid (fun t F lv w => less_is g t F u1 u2 u3 u4 lv w)
  have ST : Hid (∀ t, stepW g x t = ((lessL g t).findIdx? (askB g x)).map fun i => rowAt (lessL g t) i) := fun _ => rfl
  have AS : Hid (∀ t, askB g x t = true → (failsG g x t).2 = 0) := fun t h => by unfold askB at h; simp at h; exact h.1
  have LM := hid (fun t => lessTo_mem g t t.length)
  have RO := hid (fun t z h => @replR_ok g t z h)
  have W0 : Hid (∀ n t' r, Walks g x (n + 1) t' r ↔ ∃ t'', stepW g x t' = some t'' ∧ Walks g x n t'' r) := fun _ _ _ => Iff.rfl
  have W1 : Hid (∀ t', stepW g x t' = none → Walks g x 0 t' t') := fun t' h => ⟨h, rfl⟩
  have WA := hid (walk_ask g x)
  obtain ⟨k, a1, b1, s⟩ := g
  generalize hGG : Ge.mk k a1 b1 s = G at *
  have hg' := hg
  rw [← hGG] at hg'
  obtain ⟨Ag, cg, rfl, rfl, rfl, rfl, _, _, _⟩ := hg'.box
  obtain ⟨xk, xn, xs⟩ := x
  generalize hXX : Ex.mk xk xn xs = X at *
  have hx' := hx
  rw [← hXX] at hx'
  obtain ⟨A, cp, rfl, rfl, rfl, _, _, _⟩ := hx'.box
  have ht' := ht
  obtain ⟨At, ct, rfl, tm, _, _⟩ := ht'
  have B2 : Hid (Below w.heap.size w ((w.alloc (.cells #[.int .i64 k, .int .i64 a1, .int .i64 b1, .slice Ag s.length cg] 24)).alloc (.cells #[.int .i64 xk, .int .i64 xn, .slice A xs.length cp] 53))) := ((Below.refl _ _).alloc (Nat.le_refl _) _).alloc (by simp) _
  have Y0 : Hid (((w.alloc (.cells #[.int .i64 k, .int .i64 a1, .int .i64 b1, .slice Ag s.length cg] 24)).alloc (.cells #[.int .i64 xk, .int .i64 xn, .slice A xs.length cp] 53)).heap[w.heap.size]? = some (.cells #[.int .i64 k, .int .i64 a1, .int .i64 b1, .slice Ag s.length cg] 24 (0, 0))) := Has.alloc (Has.new _ _) _
  have Y1 : Hid (((w.alloc (.cells #[.int .i64 k, .int .i64 a1, .int .i64 b1, .slice Ag s.length cg] 24)).alloc (.cells #[.int .i64 xk, .int .i64 xn, .slice A xs.length cp] 53)).heap[w.heap.size + 1]? = some (.cells #[.int .i64 xk, .int .i64 xn, .slice A xs.length cp] 53 (0, 0))) := Has.newAt _ _ (by simp)
  have hmf : ∀ (fn : Fn) (first cap : Array Value) (w : World), (Instr.makeFunc fn first cap).run Tryd.prog w = .ok (.func fn first cap) w := fun _ _ _ _ => rfl
  clear hF hg hg' hx hx' ht hL hGG hXX tm
  go_enter Tryd.func22, Tryd.ntmps22
  go_wp2_with fail
  refine (CG.out _ (fun g hg => by have := HF.out g hg; simp; omega) (GeIn.keep (Same.of_below B2.out HF.out) _ HG.out)).mono ?_
  rintro e w1 ⟨rfl, hb⟩
  have s1 := hb.size
  simp only [World.size_alloc] at s1
  have B1 := hid (B2.out.trans (hb.mono (by simp; omega)))
  have Z0 := hid (Has.below Y0.out hb (by simp; omega))
  have Z1 := hid (Has.below Y1.out hb (by simp))
  clear hb CG Y0 Y1 B2
  by_cases hc : chkG G = 0
  case neg =>
    have E : Hid (walkE G X t = chkG G) := by show _ = _; rw [WE.out, if_pos hc]
    have FP := hid (WB.out w1 _ hc E.out B1.out)
    rw [errV_no hc]
    clear hc
    go_wp2_with fail
    go_ret3
    exact FP.out
  have HC := hid hc
  have y0 := Has.cell Z1.out 0
  have y1 := Has.cell Z1.out 1
  have y2 := Has.cell Z1.out 2
  simp at y0 y1 y2
  have lw1 : w.heap.size + 1 < w1.heap.size := by omega
  rw [hc, errV_0]
  clear hc
  go_wp2_with fail
  refine (CX.out _ (fun g hg => by have := HF.out g hg; omega) (ExIn.keep (Same.of_below B1.out HF.out) _ HX.out) (HL.out.below B1.out)).mono ?_
  rintro e w2 ⟨rfl, hb⟩
  have s2 := hb.size
  have B2 := hid (B1.out.trans (hb.mono (by omega)))
  have V0 := hid (Has.below Z0.out hb (by omega))
  have V1 := hid (Has.below Z1.out hb (by omega))
  clear hb CX Z0 Z1 B1 y0 y1 y2
  by_cases hx : chkE X = 0
  case neg =>
    have E : Hid (walkE G X t = chkE X) := by show _ = _; rw [WE.out, if_neg (by rw [HC.out]; simp), if_pos hx]
    have FP := hid (WB.out w2 _ hx E.out B2.out)
    rw [errV_no hx]
    clear hx
    go_wp2_with fail
    go_ret3
    exact FP.out
  have HX0 := hid hx
  have x0 := Has.cell V0.out 0
  have x1 := Has.cell V0.out 1
  have x2 := Has.cell V0.out 2
  have x3 := Has.cell V0.out 3
  have y0 := Has.cell V1.out 0
  have y1 := Has.cell V1.out 1
  have y2 := Has.cell V1.out 2
  simp at x0 x1 x2 x3 y0 y1 y2
  have lw2 : w.heap.size + 1 < w2.heap.size := by omega
  rw [hx, errV_0]
  clear hx
  go_wp2_with fail
  refine (GF.out _ (fun g hg => by have := HF.out g hg; omega) (GeIn.keep (Same.of_below B2.out HF.out) _ HG.out) (ExIn.keep (Same.of_below B2.out HF.out) _ HX.out) (HT.out.keep (Same.of_below B2.out HF.out)) (HL.out.below B2.out)).mono ?_
  rintro e w3 ⟨rfl, hb⟩
  have s3 := hb.size
  have B3 := hid (B2.out.trans (hb.mono (by omega)))
  have U0 := hid (Has.below V0.out hb (by omega))
  have U1 := hid (Has.below V1.out hb (by omega))
  clear hb GF V0 V1 B2 x0 x1 x2 x3 y0 y1 y2
  have FOt := hid (FO.out t)
  obtain ⟨ff, hff⟩ : ∃ ff, failsG G X t = ff := ⟨_, rfl⟩
  rw [hff] at FOt
  rw [hff]
  have WE2 : Hid (walkE G X t = if ff.2 ≠ 0 then ff.2 else if ff.1 then 0 else 2) := by show _ = _; rw [WE.out, if_neg (by rw [HC.out]; simp), if_neg (by rw [HX0.out]; simp), hff]
  clear hff WE
  obtain ⟨fb, fc⟩ := ff
  by_cases hf : fc = 0
  case neg =>
    have E : Hid (walkE G X t = fc) := by show _ = _; rw [WE2.out, if_pos hf]
    have FP := hid (WB.out w3 _ hf E.out B3.out)
    simp only [errV_no hf]
    clear hf
    go_wp2_with fail
    go_ret3
    exact FP.out
  subst hf
  simp only [errV_0]
  cases fb with
  | false =>
    have E : Hid (walkE G X t = 2) := by show _ = _; rw [WE2.out]; simp
    have FP := hid (WB.out w3 2 (by decide) E.out B3.out)
    clear WE2
    go_wp2_with fail
    go_ret3
    exact FP.out
  | true =>
  have E0 : Hid (walkE G X t = 0) := by show _ = _; rw [WE2.out]; simp
  obtain ⟨z0, hz0⟩ := FOt.out rfl
  obtain ⟨_, _, tl, tr⟩ := RO.out t z0 hz0
  have TR := hid tr
  have RZ : Hid (∃ z, replR G t = .ok z) := ⟨z0, hz0⟩
  clear tr hz0 WE2 FOt
  go_wp2_with fail
  refine (clone_any t F _ w3 (fun g hg => by have := HF.out g hg; omega) (HT.out.keep (Same.of_below B3.out HF.out)) (by omega)).mono ?_
  rintro e w4 ⟨v4, rfl, hO, _, hb⟩
  have s4 := hb.size
  have B4 := hid (B3.out.trans (hb.mono (by omega)))
  have T0 := hid (Has.below U0.out hb (by omega))
  have T1 := hid (Has.below U1.out hb (by omega))
  have O4 := hid (own_baseR hO (show w.heap.size ≤ w3.heap.size by omega))
  obtain ⟨A4, c4, rfl⟩ := own_slice3 hO
  clear hO hb U0 U1
  go_wp2_with fail
  go_loopw [2, 13] (fun vt st wr => ∃ (T : List Int) (n : Nat) (K : Int), st = .int .i64 K ∧ Hid (K = wrap64 n) ∧ Hid (wr.ownsRow w.heap.size 3 1 vt T.length (T.map (Value.int .i64))) ∧ Hid (∃ z, replR G T = .ok z) ∧ Hid (∀ m r, Walks G X m T r → Walks G X (n + m) t r) ∧ Hid (Below w4.heap.size w4 wr)) (fun vt _ wr => rkT (readT wr vt))
  case atStart => exact ⟨t, 0, 0, rfl, by show _ = _; simp [wrap64], O4, RZ, (by show ∀ m r, _ → _; intro m r h; rw [Nat.zero_add]; exact h), Below.refl _ _⟩
  case round =>
    obtain ⟨T, n, K, rfl, hK, hO, hZ, hW, hB⟩ := hrel
    obtain ⟨A6, c6, rfl⟩ := own_slice3 hO.out
    obtain ⟨zT, hzT⟩ := hZ.out
    obtain ⟨_, _, Tl, Tr⟩ := RO.out T zT hzT
    have TRR := hid Tr
    have IT := hid (ints_blockC hO.out (wf1000 TRR.out))
    have RT : Hid (readT wr (.slice A6 T.length c6) = T) := readT_ints IT.out
    have sB := hB.out.size
    have Q0 := hid (Has.below T0.out hB.out (by omega))
    have Q1 := hid (Has.below T1.out hB.out (by omega))
    have BW : Hid (Below w.heap.size w wr) := B4.out.trans (hB.out.mono (by omega))
    have x0 := Has.cell Q0.out 0
    have x1 := Has.cell Q0.out 1
    have x2 := Has.cell Q0.out 2
    have x3 := Has.cell Q0.out 3
    simp at x0 x1 x2 x3
    obtain ⟨wo, hwo⟩ : ∃ wo, wo = wr := ⟨_, rfl⟩
    subst hwo
    have HZT := hid hzT
    clear Tr hzT
    go_wp2_with fail
    refine (LS.out T (fun b => b < wo.heap.size) _ wo (fun b h => h) (GeIn.more (fun b hb => by have := HF.out b hb; omega) _ (GeIn.keep (Same.of_below BW.out HF.out) _ HG.out)) (IT.out.more fun b hb => own_lt hO.out b hb)).mono ?_
    rintro e w6 ⟨hb, he⟩
    rw [HZT.out] at he
    obtain ⟨v6, cs, rfl, hO6, hR6⟩ := he
    have s6 := hb.size
    have B6 := hid hb
    have O6 := hid hO6
    have R6 := hid hR6
    have N0 := hid (Has.below Q0.out hb (by omega))
    have N1 := hid (Has.below Q1.out hb (by omega))
    obtain ⟨A7, c7, rfl⟩ := own_slice3 hO6
    have RI := hid (hR6.rowsW hO6)
    have WK := hid (WA.out F _ _ _ _ _ _ _ w.heap.size (w.heap.size + 1) w6 (fun b hb => by have := HF.out b hb; omega) (GeIn.keep (Same.of_below (BW.out.trans (B6.out.mono (by omega))) HF.out) _ HG.out) (ExIn.keep (Same.of_below (BW.out.trans (B6.out.mono (by omega))) HF.out) _ HX.out) (HL.out.below (BW.out.trans (B6.out.mono (by omega)))) N0.out N1.out)
    have SS := hid (ST.out T)
    have LMT := hid (LM.out T)
    have LT : Hid (lessTo G T T.length = lessL G T) := rfl
    have RX := hid (rIx_idx (P := askB G X) (l := lessL G T))
    obtain ⟨LL, hLL⟩ : ∃ LL, LL = lessL G T := ⟨_, rfl⟩
    rw [LT.out] at LMT
    rw [← hLL] at O6 R6 RI SS RX LMT ⊢
    clear hb hO6 hR6 x0 x1 x2 x3 hLL LT
    go_wp2_with fail
    refine (rix_any (askB G X) (fun _ => True) _ _ LL (fun b => wo.heap.size ≤ b ∧ b < w6.heap.size) _ w6 (fun b h => h.2) RI.out (fun _ _ => trivial) (Nat.le_refl _) WK.out (fun _ _ => by kernel_rfl)).mono ?_
    rintro e w7 ⟨rfl, hb⟩
    have s7 := hb.size
    have B7 := hid (B6.out.trans (hb.mono s6))
    have O7 := hid (own_below hO.out B7.out)
    have L7 := hid (own_below O6.out hb)
    have R7 := hid (R6.out.keep (w' := w7) fun b _ h _ => hb.block b h)
    clear hb WK RI
    rcases RX.out with ⟨hn, hi⟩ | ⟨j, hj, hf, hi, hp⟩
    · have FP := hid (WO.out w7 (.slice A6 T.length c6) (n + 0) T K E0.out (hW.out 0 T (W1.out T (by rw [SS.out, hn]; rfl))) (by rw [hK.out]; rfl) O7.out Tl TRR.out (BW.out.trans (B7.out.mono (by omega))))
      rw [hi]
      clear hi hn RX
      go_wp2_with fail
      go_ret3
      exact FP.out
    · have hcs : j < cs.length := by rw [R7.out.len]; exact hj
      obtain ⟨g2, cc, e1, _, _, _, _, hc⟩ := own_open L7.out (by omega)
      injection e1 with e1 _ e2
      subst e1 e2
      have q1 := hc j (by omega)
      rw [List.getElem?_eq_getElem hcs] at q1
      have hrow := (R7.out.at_ j cs[j] (LL[j]'hj) (List.getElem?_eq_getElem hcs) (List.getElem?_eq_getElem hj)).1
      have hok := R7.out.ok (LL[j]'hj) (List.getElem_mem hj)
      have hst : stepW G X T = some (LL[j]'hj) := by rw [SS.out, hf]; show some (rowAt LL j) = _; rw [rowAt_get hj]
      have hlt : tlessB (LL[j]'hj) T = true := LMT.out _ (List.getElem_mem hj)
      have hz2 : ∃ z, replR G (LL[j]'hj) = .ok z := FO.out _ (AS.out _ (by rw [← rowAt_get hj]; exact hp))
      obtain ⟨T2, hT2⟩ : ∃ T2, T2 = LL[j]'hj := ⟨_, rfl⟩
      rw [← hT2] at hrow hok hst hlt hz2
      obtain ⟨r2, hr2⟩ : ∃ r2, r2 = cs[j] := ⟨_, rfl⟩
      rw [← hr2] at q1 hrow
      have HROW := hid (own_baseR hrow (show w.heap.size ≤ wo.heap.size by omega))
      have HZ2 := hid hz2
      have HW2 : Hid (∀ m r, Walks G X m T2 r → Walks G X (n + 1 + m) t r) := by
        show ∀ m r, _ → _
        intro m r h
        have := hW.out (m + 1) r ((W0.out m T r).2 ⟨T2, hst, h⟩)
        rw [show n + 1 + m = n + (m + 1) by omega]; exact this
      have HMS : Hid (rkT (readT w7 r2) < rkT (readT wo (.slice A6 T.length c6))) := by
        show _ < _
        rw [RT.out, readT_ints (ints_blockC hrow (wf1000 hok.2))]
        exact rk_less hok.2 TRR.out hlt
      obtain ⟨A8, c8, rfl⟩ := own_slice3 hrow
      have i1 : (j : Int) < (LL.length : Int) := by omega
      have KS : Hid (wrap64 (K + 1) = wrap64 ((n + 1 : Nat) : Int)) := by show _ = _; rw [hK.out]; exact wrap_succ n
      have BN : Hid (Below w4.heap.size w4 w7) := hB.out.trans (B7.out.mono (by omega))
      rw [hi]
      clear hi hf hp hrow hok hst hlt hz2 hT2 hr2 hc RX hcs
      go_wp2_with fail
      go_roundw
      case rel => exact ⟨T2, n + 1, _, rfl, KS, HROW, HZ2, HW2, BN⟩
      case measure => exact HMS.out
end Go.Proofs.YtopehfmppfibhaaDoor
