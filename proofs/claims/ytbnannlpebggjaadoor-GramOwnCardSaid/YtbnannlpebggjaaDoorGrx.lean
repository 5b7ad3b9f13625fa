/- gram.Words, walked: the words in a row of the call's own, each in a row of its own. No conditions. -/
import Derived.Test.YtbnannlpebggjaaDoorGrw
import Derived.Test.YtbnannlpebggjaaDoorCon
namespace Go.Proofs.YtbnannlpebggjaaDoor
open Go.RowKit Go.Deep Go.ChangeShapes
def WordsPost (g : Gr) (n : Int) (w : World) (e : Ending) (w' : World) : Prop := ∃ out cs, e = .returned (.tuple #[out, errV (wordsE g n)]) ∧ Below w.heap.size w w' ∧ w'.ownsRow w.heap.size 29 1 out (wordsF g n).length cs ∧ Wds w.heap.size (fun b => out.ownBlock = some b) w' cs (wordsF g n)
theorem wrd_start (W : World) (g : Gr) : WrdInv W g 0 0 1 (.slice (some ⟨W.heap.size, 0, none⟩) 1 1) (.slice none 0 0) [.slice none 0 0] (W.alloc (.cells #[.slice none 0 0] 29)) := by
  refine ⟨⟨rfl, fun i r row h1 h2 => ?_, fun i j ri rj b hij h1 h2 hb => ?_⟩, ⟨rfl, W.heap.size, 0, 1, #[.slice none 0 0], rfl, Nat.le_refl _, Has.new _ _, by omega, by unfold maxLen; omega, by simp, fun j hj => ?_⟩, World.ownsRow_nil _ _ _ _, fun b hb e => (by cases e), (Below.refl _ _).alloc (Nat.le_refl _) _⟩
  · match i with
    | 0 =>
      have e1 : r = .slice none 0 0 := by simpa using h1.symm
      have e2 : row = [] := by simpa [word_zero] using h2.symm
      subst e1 e2
      exact ⟨World.ownsRow_nil _ _ _ _, fun b hb => (by cases hb)⟩
    | i + 1 => simp at h1
  · match i with
    | 0 =>
      have e1 : ri = .slice none 0 0 := by simpa using h1.symm
      subst e1; cases hb
    | i + 1 => simp at h1
  · match j with
    | 0 => rfl
theorem word_wf {n : Nat} (hn : n < 5) {k : Nat} (hk : k < 3 * mN n + 1) : ∀ z ∈ wordAt k, (Lit.int .i64 z).wf = true := fun z hz => WalkArith.wf_i64 (by have := (word_len n hn k hk).2.2 z hz; omega)
theorem word_in : ∀ k < 121, ∀ z ∈ wordAt k, 0 ≤ z ∧ z ≤ 2 := by decide
theorem infoRowW : (Tryd.prog.info? 29).map (fun i => (i.zero, i.size, i.bytes)) = some (some (.slice none 0 0), 1, 24) := by kernel_rfl
def idxW (word : List Int) : Nat := word.foldl (fun a x => 3 * a + 1 + x.toNat) 0
theorem idxW_at : ∀ k < 121, idxW (wordAt k) = k := by decide
/-- the integers that a slice reads as -/
def intsAt (w : World) : Value → List Int
  | .slice (some p) n _ => (List.range n).map fun j => match w.cell? ⟨p.block, p.off + j, none⟩ with
    | some (.int _ z) => z
    | _ => 0
  | _ => []
theorem intsAt_eq {F : Nat → Prop} {w : World} {v : Value} {zs : List Int} (h : IntsIn .i64 F w v zs) : intsAt w v = zs := by
  obtain ⟨A, c, rfl, _, _, h3⟩ := h
  rcases Nat.eq_zero_or_pos zs.length with h0 | h0
  · have : zs = [] := List.length_eq_zero_iff.1 h0
    subst this
    cases A <;> rfl
  · obtain ⟨b, off, rfl, _, hc⟩ := h3 h0
    apply List.ext_getElem
    · simp [intsAt]
    · intro i h1 h2
      have := hc i h2
      simp [intsAt, this, List.getD_eq_getElem?_getD, List.getElem?_eq_getElem h2]
def leftAt (T : Nat) (tv : Value) (w : World) : Nat := match tv with
  | .slice (some p) (_ + 1) _ => match w.cell? p with
    | some r => T - idxW (intsAt w r)
    | none => 0
  | _ => 0
theorem leftAt_zero (T c : Nat) (A : Option Addr) (w : World) : leftAt T (.slice A 0 c) w = 0 := by cases A <;> rfl
theorem WrdInv.cell {W w : World} {g : Gr} {ko kq cnt : Nat} {todo out : Value} {cs : List Value} (h : WrdInv W g ko kq cnt todo out cs w) (hk : kq < cnt) (hc : cnt ≤ 121) : ∃ p off cap A c, todo = .slice (some ⟨p, off, none⟩) (cnt - kq) cap ∧ cnt - kq ≤ cap ∧ cap ≤ maxLen ∧ cs[kq]? = some (.slice A (wordAt kq).length c) ∧ w.cell? ⟨p, off, none⟩ = some (.slice A (wordAt kq).length c) ∧ (∀ T, leftAt T todo w = T - kq) ∧ w.ownsRow W.heap.size 3 1 (.slice A (wordAt kq).length c) (wordAt kq).length ((wordAt kq).map (Value.int .i64)) := by
  obtain ⟨p, off, cap, rfl, h1, h2, h3, h4, h5⟩ := h.q.cell
  have hl := h.len
  have e0 : cs[kq]? = some (cs[kq]'(by omega)) := List.getElem?_eq_getElem _
  obtain ⟨row, h6, h7, _⟩ := h.rows.get_ e0
  have e1 : row = wordAt kq := by
    have : kq < ((List.range cnt).map wordAt).length := by simp; exact hk
    rw [List.getElem?_eq_getElem this] at h6
    simpa using h6.symm
  subst e1
  have h8 := h5 0 (by omega)
  rw [Nat.add_zero, List.getElem?_drop, Nat.add_zero] at h8
  obtain ⟨A, c, e2, _, _⟩ := own_sl h7
  have ww := intsAt_eq (ints_of_own h7 fun z hz => WalkArith.wf_i64 (by have := word_in kq (by omega) z hz; omega))
  rw [e0] at h8
  rw [e2] at h7 h8 ww
  refine ⟨p, off, cap, A, c, rfl, h3, h4, by rw [e0, e2], h8, fun T => ?_, h7⟩
  obtain ⟨m, hm⟩ : ∃ m, cnt - kq = m + 1 := ⟨cnt - kq - 1, by omega⟩
  rw [hm]
  show (match w.cell? ⟨p, off, none⟩ with | some r => T - idxW (intsAt w r) | none => 0) = _
  rw [h8]
  show T - idxW (intsAt w _) = _
  rw [ww, idxW_at kq (by omega)]
set_option maxRecDepth 100000 in
set_option maxHeartbeats 8000000 in
theorem words_any (g : Gr) (n : Int) (F : Nat → Prop) (v : Value) (w : World) (hF : ∀ b, F b → b < w.heap.size) (hv : GramIn F w v g) :
    Calls Tryd.prog 5 #[v, .int .i64 n] w (WordsPost g n w) := by
  have HF := hid hF
  have HG := hid hv
  have CK := hid (grcheck_any g F v w hv)
  have HA := hid (fun word u w' hb hu => has_any g word (fun b => b < w'.heap.size) v u w' (fun b h => h) ((hv.keep (Same.of_below (B := w.heap.size) hb hF)).more fun b h => Nat.lt_of_lt_of_le (hF b h) hb.size) hu)
  obtain ⟨A, c, rfl, h1, _⟩ := hv
  unfold maxLen at h1
  clear hF
  have FIN : Hid (∀ m : Int, wordsE g n = m → m ≠ 0 → ∀ w', Below w.heap.size w w' → WordsPost g n w (.returned (.tuple #[.slice none 0 0, errV m])) w') := fun m h1 h2 w' h3 => by
    have e : wordsF g n = [] := by unfold wordsF; rw [if_neg (by rw [h1]; exact h2)]
    exact ⟨.slice none 0 0, [], by rw [h1], h3, by rw [e]; exact World.ownsRow_nil _ _ _ _, by rw [e]; exact ⟨rfl, fun i r row h => by simp at h, fun i j ri rj b _ h => by simp at h⟩⟩
  obtain ⟨i0, hi0, hz0, hz1, hz2⟩ := info_parts infoRowW
  go_enter Tryd.func5, Tryd.ntmps5
  go_wp2_with fail
  refine CK.out.mono ?_
  rintro e w0 ⟨rfl, e0⟩
  rw [e0]
  clear e0 w0
  by_cases hg : gramE g = 0
  case neg =>
    have E : wordsE g n = gramE g := by unfold wordsE; rw [if_pos hg]
    have FF := hid (FIN.out _ E hg _ (Below.refl _ _))
    rw [errV_no hg] at FF ⊢
    clear E hg
    go_wp2_with fail
    go_ret2
    exact FF.out
  rw [hg, errV_0]
  by_cases hn : n < 0 ∨ 4 < n
  case pos =>
    have E : wordsE g n = 1 := by unfold wordsE; rw [if_neg (by simp [hg]), if_pos hn]
    have FF := hid (FIN.out _ E (by decide) _ (Below.refl _ _))
    rw [errV_no (by decide)] at FF
    by_cases hneg : n < 0
    · clear E hg hn
      go_wp2_with fail
      go_ret2
      exact FF.out
    · have h4 : 4 < n := by omega
      clear E hg hn
      go_wp2_with fail
      go_ret2
      exact FF.out
  have E0 : Hid (wordsE g n = 0) := by show _ = _; unfold wordsE; rw [if_neg (by simp [hg]), if_neg hn]
  obtain ⟨nn, rfl⟩ : ∃ nn : Nat, n = (nn : Int) := ⟨n.toNat, by omega⟩
  have n5 : nn < 5 := by omega
  have WF : Hid (wordsF g (nn : Int) = (pk g (3 * mN nn + 1)).map wordAt) := by show _ = _; unfold wordsF; rw [if_pos E0.out, Int.toNat_natCast]
  have HE0 : Hid (gramE g = 0) := hg
  have h3 : ¬ (nn : Int) < 0 := by omega
  have h4 : ¬ 4 < (nn : Int) := by omega
  have m40 := mN_le nn n5
  have WL := hid (word_len nn n5)
  have WW := hid (fun k (hk : k < 3 * mN nn + 1) => word_wf n5 hk)
  obtain ⟨M, hM⟩ : ∃ M, M = mN nn := ⟨_, rfl⟩
  rw [← hM] at WF m40 WL WW
  have I0 := hid (wrd_start w g)
  clear hg hn hM FIN
  go_wp2_with fail
  go_loopw [7, 8] (fun ov tv wr => ∃ (k : Nat) (cs : List Value), k ≤ 3 * M + 1 ∧ Hid (WrdInv w g k k (min (3 * k + 1) (3 * M + 1)) tv ov cs wr)) (fun _ tv wr => leftAt (3 * M + 1) tv wr)
  case atStart => exact ⟨0, _, by omega, by rw [show min (3 * 0 + 1) (3 * M + 1) = 1 by omega]; exact I0⟩
  case round =>
    clear I0
    obtain ⟨k, cs, hk, hI⟩ := hrel
    obtain ⟨cnt, hcnt⟩ : ∃ cnt, cnt = min (3 * k + 1) (3 * M + 1) := ⟨_, rfl⟩
    rw [← hcnt] at hI
    have c121 : cnt ≤ 121 := by omega
    by_cases hkt : k < cnt
    · obtain ⟨p, off, cap, Ar, cr, rfl, hc1, hc2, hk1, hk2, hk3, hk4⟩ := hI.out.cell hkt c121
      obtain ⟨Ao, co, rfl, _, _⟩ := own_sl hI.out.o
      have M0 := hid (hk3 (3 * M + 1))
      have hkT : k < 3 * M + 1 := by omega
      obtain ⟨wl1, wl2, wl3⟩ := WL.out k hkT
      have W2 := hid wl1
      have W3 := hid wl3
      have WK := hid (WW.out k hkT)
      have IW := hid ((ints_of_own hk4 WK.out).more (F' := fun b => b < wr.heap.size) fun b h => h.2)
      have I1 := hid hI.out
      have HK1 := hid hk1
      have BR := hid hI.out.bel
      have HCNT := hid hcnt
      obtain ⟨wd, hwd⟩ : ∃ wd, wd = wordAt k := ⟨_, rfl⟩
      rw [← hwd] at hk2 wl2 W2 WK IW HK1
      have HWD := hid hwd
      have t1 : (0 : Int) < ((cnt - k : Nat) : Int) := by omega
      unfold maxLen at hc2
      clear hk1 hk3 hk4 hI wl1 wl3 hwd hcnt
      go_wp2_with fail
      refine (HA.out wd _ wr BR.out IW.out).mono ?_
      rintro e w1 ⟨rfl, hb⟩
      have E1 : hasE g wd = 0 := by unfold hasE; rw [if_neg (by simp [HE0.out]), if_neg (by omega)]
      rw [E1, errV_0]
      have I2 := hid (I1.out.below hb)
      have k2 : w1.cell? ⟨p, off, none⟩ = some (.slice Ar wd.length cr) := (hb.cell (p := ⟨p, off, none⟩) (cell_lt hk2)).trans hk2
      clear hb E1 I1 IW hk2
      obtain ⟨hb2, hhb⟩ : ∃ hb2, hb2 = hasB g wd := ⟨_, rfl⟩
      rw [← hhb]
      cases hb2
      case' true =>
        have PK := hid (pk_yes (g := g) (k := k) (by rw [← HWD.out]; exact hhb.symm))
        have PL := pk_len g k
        have O2 := hid (I2.out.o.alloc (.cells #[.slice Ar wd.length cr] 29))
        have C2 := hid (cells_1 w1 (.slice Ar wd.length cr) 29 rfl)
        have sz := hid I2.out.bel.size
        clear hhb
        go_wp2_with (at_builtin; refine wpList_app _ rfl (.tmp 44) (.tmp 46) 23 rfl w.heap.size 29 i0 (.slice none 0 0) 1 24 Tryd.underlying23 hi0 hz0 hz1 hz2 rfl (by decide) _ _ _ rfl O2.out _ _ 1 _ rfl C2.out (by intro u hu; simp at hu; subst hu; rfl) (by unfold maxLen; omega) (by omega) (by have := sz.out; simp; omega) ?_; intro vo w3 hown hgrow hat; have I3 := hid (I2.out.put HK1.out PK.out hown hgrow hat); clear hown hgrow hat O2 C2 I2 PK)
      case' false =>
        have PK := hid (pk_no (g := g) (k := k) (by rw [← HWD.out]; exact hhb.symm))
        obtain ⟨w3, hw3⟩ : ∃ w3, w3 = w1 := ⟨_, rfl⟩
        have I3 := hid (I2.out.skip PK.out)
        rw [← hw3] at I3 ⊢
        clear hhb PK k2 hw3 I2
        generalize Value.slice Ao (pk g k).length co = vo at *
        go_wp2_with fail
      all_goals
        by_cases hkM : k < M
        · have hcn : Hid (cnt = 3 * k + 1) := by have := HCNT.out; show _ = _; omega
          have lt3 : (wd.length : Int) < (nn : Int) := by have := (W2.out).2 hkM; omega
          go_loopw [8, 48] (fun tv xi wr => ∃ (x : Nat) (cs2 : List Value), x ≤ 3 ∧ xi = .int .i64 x ∧ cs2[k]? = some (.slice Ar wd.length cr) ∧ Hid (WrdInv w g (k + 1) k (3 * k + 1 + x) tv vo cs2 wr)) (fun _ xi _ => 3 - (intOf xi).toNat)
          case atStart => exact ⟨0, cs, by omega, rfl, HK1.out, by rw [Nat.add_zero, ← hcn.out]; exact I3⟩
          case round =>
            clear I3
            obtain ⟨x, cs2, hx, rfl, hK, hJ⟩ := hrel
            by_cases hxt : x < 3
            · obtain ⟨p4, off4, cap4, A4, c4, rfl, hd1, hd2, _, _, _, _⟩ := hJ.out.cell (by omega) (by omega)
              have RW := hJ.out.rowOf (by omega) hK
              rw [← HWD.out] at RW
              have IW := hid ((ints_of_own RW WK.out).more (F' := fun b => b < wr.heap.size) fun b h => h.2)
              have WX : Hid ((Lit.int .i64 (x : Int)).wf = true) := WalkArith.wf_i64 (by omega)
              have NX : Hid (wordAt (3 * k + 1 + x) = wd ++ [(x : Int)]) := by show _ = _; rw [word_next k (by omega) x hxt, HWD.out]
              have WXW : Hid (∀ z ∈ wd ++ [(x : Int)], (Lit.int .i64 z).wf = true) := fun z hz => by
                rcases List.mem_append.1 hz with hz | hz
                · exact WK.out z hz
                · simp at hz; subst hz; exact WX.out
              have J1 := hid hJ.out
              have HK := hid hK
              have i3 : (x : Int) < 3 := by omega
              obtain ⟨l4, hl4⟩ : ∃ l4, l4 = 3 * k + 1 + x - k := ⟨_, rfl⟩
              rw [← hl4] at J1 hd1 ⊢
              have l9 : l4 ≤ 200 := by omega
              have HL4 := hid hl4
              have sJ := hJ.out.bel.size
              unfold maxLen at hd2
              clear hJ hK RW hl4
              go_wp2_with fail
              have FL : [wd, [(x : Int)]].flatten = wd ++ [(x : Int)] := by simp
              refine (concat_any [wd, [(x : Int)]] (fun b => b < wr.heap.size + 2) _ _ (fun b hb => by simp; exact hb) (rows2 (r0 := .slice Ar wd.length cr) (r1 := .slice (some ⟨wr.heap.size, 0, none⟩) 1 1) (by omega) (by simp) (by simp) (((IW.out.keep fun b hb => Below.heap_alloc _ _ _ hb).keep fun b hb => Below.heap_alloc _ _ _ (by simp; omega)).more fun b hb => by omega) (ints1 (by omega) (by simp) WX.out)) (by rw [FL]; simp; omega)).mono ?_
              rintro e w2 ⟨r2, rfl, own2, hb2⟩
              rw [FL] at own2
              have BB := hid ((((Below.refl wr.heap.size wr).alloc (Nat.le_refl _) (.cells #[.int .i64 (x : Int)] 3)).alloc (by simp) (.cells #[.slice Ar wd.length cr, .slice (some ⟨wr.heap.size, 0, none⟩) 1 1] 29)).trans (hb2.mono (by simp; omega)))
              have O2 : Hid (w2.ownsRow wr.heap.size 3 1 r2 (wordAt (3 * k + 1 + x)).length ((wordAt (3 * k + 1 + x)).map (Value.int .i64))) := by show World.ownsRow _ _ _ _ _ _ _; rw [NX.out]; exact own_lo own2 (by simp; omega)
              obtain ⟨A9, c9, e9, _, _⟩ := own_sl own2
              rw [List.length_append, List.length_singleton] at e9
              subst e9
              have Q3 := hid ((J1.out.q.below BB.out).alloc (.cells #[.slice A9 (wd.length + 1) c9] 29))
              have N3 : Hid (∀ (j : Nat) u, [Value.slice A9 (wd.length + 1) c9][j]? = some u → (w2.alloc (.cells #[.slice A9 (wd.length + 1) c9] 29)).cell? ((⟨w2.heap.size, 0, none⟩ : Addr).add j) = some u) := fun j u hj => by
                match j, hj with
                | 0, hj => simp at hj; subst hj; simp [Addr.add]
              have s2 := BB.out.size
              clear hb2 own2 FL
              go_wp2_with (at_builtin; refine wpList_app_q _ rfl (.tmp 55) (.tmp 61) 23 rfl w.heap.size 29 i0 (.slice none 0 0) 1 24 Tryd.underlying23 hi0 hz0 hz1 hz2 rfl (by decide) _ _ _ rfl Q3.out _ 1 _ [_] rfl (by decide) rfl N3.out (by intro u hu; simp at hu; subst hu; rfl) (by unfold maxLen; have := HL4.out; omega) (by have := HL4.out; omega) (by simp; omega) ?_; intro v6 w6 hown hgrow hat; have I6 := hid (J1.out.made (by omega) (by omega) BB.out O2.out hown hgrow hat); have K6 : (cs2 ++ [Value.slice A9 (wd.length + 1) c9])[k]? = some (.slice Ar wd.length cr) := (by rw [List.getElem?_append_left (by have := J1.out.len; omega)]; exact HK.out); clear hown hgrow hat)
              go_roundw
              case rel => exact ⟨x + 1, _, by omega, by go_num, K6, by rw [show 3 * k + 1 + (x + 1) = 3 * k + 1 + x + 1 by omega]; exact I6⟩
              case measure => simp [intOf]; omega
            · obtain rfl : x = 3 := by omega
              have hcc : 3 * k + 1 + 3 ≤ 3 * M + 1 := by omega
              obtain ⟨p3, off3, cap3, ln, hln, rfl, hq1, hq2, HP⟩ := hJ.out.tail (by omega)
              have HP' := hid HP
              have k3 : (1 : Int) ≤ ((ln + 1 : Nat) : Int) := by omega
              have M1 : Hid (leftAt (3 * M + 1) (.slice (if cap3 + 1 = 1 then some ⟨p3, off3, none⟩ else some ⟨p3, off3 + 1, none⟩) ln cap3) wr < 3 * M + 1 - k) := by
                by_cases hl : k + 1 < (3 * k + 1 + 3)
                · obtain ⟨p5, off5, cap5, A5, c5, e5, _, _, _, _, h5, _⟩ := HP.cell hl (by omega)
                  have e6 := hln
                  have h6 := h5 (3 * M + 1)
                  show _ < _
                  have e7 := hln
                  rw [h6]; omega
                · obtain rfl : ln = 0 := by omega
                  show _ < _
                  rw [leftAt_zero]; omega
              unfold maxLen at hq2
              have HLN := hid hln
              clear hln
              clear HP
              by_cases hcap : cap3 = 0
              · subst hcap
                obtain rfl : ln = 0 := by omega
                simp only [Nat.zero_add, if_true] at HP' M1
                clear hJ
                go_wp2_with fail
                go_roundw
                case rel => exact ⟨k + 1, _, by omega, by rw [show min (3 * (k + 1) + 1) (3 * M + 1) = (3 * k + 1 + 3) by omega]; exact HP'⟩
                case measure => rw [M0.out]; exact M1.out
              · rw [if_neg (by omega)] at HP' M1
                clear hJ
                go_wp2_with fail
                go_roundw
                case rel => exact ⟨k + 1, _, by omega, by rw [show min (3 * (k + 1) + 1) (3 * M + 1) = (3 * k + 1 + 3) by omega]; exact HP'⟩
                case measure => rw [M0.out]; exact M1.out
        · have hcn : Hid (cnt = 3 * M + 1) := by have := HCNT.out; show _ = _; omega
          have lt3 : ¬ (wd.length : Int) < (nn : Int) := by have := (W2.out).1; omega
          go_loopw [8, 48] (fun tv xi wr => ∃ (x : Nat), x ≤ 3 ∧ xi = .int .i64 x ∧ Hid (WrdInv w g (k + 1) k (3 * M + 1) tv vo cs wr)) (fun _ xi _ => 3 - (intOf xi).toNat)
          case atStart => exact ⟨0, by omega, rfl, by rw [← hcn.out]; exact I3⟩
          case round =>
            clear I3
            obtain ⟨x, hx, rfl, hJ⟩ := hrel
            by_cases hxt : x < 3
            · have i3 : (x : Int) < 3 := by omega
              go_wp2_with fail
              go_roundw
              case rel => exact ⟨x + 1, by omega, by go_num, hJ⟩
              case measure => simp [intOf]; omega
            · obtain rfl : x = 3 := by omega
              obtain ⟨p3, off3, cap3, ln, hln, rfl, hq1, hq2, HP⟩ := hJ.out.tail (by omega)
              have HP' := hid HP
              have k3 : (1 : Int) ≤ ((ln + 1 : Nat) : Int) := by omega
              have M1 : Hid (leftAt (3 * M + 1) (.slice (if cap3 + 1 = 1 then some ⟨p3, off3, none⟩ else some ⟨p3, off3 + 1, none⟩) ln cap3) wr < 3 * M + 1 - k) := by
                by_cases hl : k + 1 < (3 * M + 1)
                · obtain ⟨p5, off5, cap5, A5, c5, e5, _, _, _, _, h5, _⟩ := HP.cell hl (by omega)
                  have e6 := hln
                  have h6 := h5 (3 * M + 1)
                  show _ < _
                  have e7 := hln
                  rw [h6]; omega
                · obtain rfl : ln = 0 := by omega
                  show _ < _
                  rw [leftAt_zero]; omega
              unfold maxLen at hq2
              have HLN := hid hln
              clear hln
              clear HP
              by_cases hcap : cap3 = 0
              · subst hcap
                obtain rfl : ln = 0 := by omega
                simp only [Nat.zero_add, if_true] at HP' M1
                clear hJ
                go_wp2_with fail
                go_roundw
                case rel => exact ⟨k + 1, _, by omega, by rw [show min (3 * (k + 1) + 1) (3 * M + 1) = (3 * M + 1) by omega]; exact HP'⟩
                case measure => rw [M0.out]; exact M1.out
              · rw [if_neg (by omega)] at HP' M1
                clear hJ
                go_wp2_with fail
                go_roundw
                case rel => exact ⟨k + 1, _, by omega, by rw [show min (3 * (k + 1) + 1) (3 * M + 1) = (3 * M + 1) by omega]; exact HP'⟩
                case measure => rw [M0.out]; exact M1.out
    · obtain rfl : k = 3 * M + 1 := by omega
      obtain rfl : cnt = 3 * M + 1 := by omega
      have hq := hI.out.q
      rw [Nat.sub_self] at hq
      obtain ⟨p, off, cap, rfl, _⟩ := hq.cell
      obtain ⟨Ao, co, rfl, _, _⟩ := own_sl hI.out.o
      have PO : Hid (WordsPost g (nn : Int) w (.returned (.tuple #[.slice Ao (pk g (3 * M + 1)).length co, .nilIface])) wr) := by
        have hl := hI.out.len
        have e1 : (pk g (3 * M + 1)).map wordAt = (pk g (3 * M + 1)).map fun i => ((List.range (3 * M + 1)).map wordAt).getD i [] := by
          refine List.map_congr_left fun i hi => ?_
          have := pk_lt hi
          rw [List.getD_eq_getElem?_getD, List.getElem?_eq_getElem (by simp; omega)]
          simp
        refine ⟨_, _, by rw [E0.out]; rfl, hI.out.bel, by rw [WF.out, List.length_map]; exact hI.out.o, ?_⟩
        rw [WF.out, e1]
        exact (hI.out.rows.pick (pk_nodup g _) fun i hi => by have := pk_lt hi; omega).turn fun b hb => .inl (.inr hb)
      clear hI hq
      go_wp2_with fail
      go_ret2
      exact PO.out
end Go.Proofs.YtbnannlpebggjaaDoor
