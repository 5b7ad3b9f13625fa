/- gram.Has, walked. No conditions. -/
import Derived.Test.YtbnannlpebggjaaDoorGrh
namespace Go.Proofs.YtbnannlpebggjaaDoor
open Go.RowKit Go.Deep
def HasPost (g : Gr) (word : List Int) (w : World) (e : Ending) (w' : World) : Prop := e = .returned (.tuple #[.bool (hasB g word), errV (hasE g word)]) ∧ Below w.heap.size w w'
/-- the table and all that was there -/
structure HasR (W : World) (g : Gr) (st : St) (w : World) : Prop where
  tab : TabIn w (.slice (some ⟨W.heap.size, 0, none⟩) g.length g.length) W.heap.size g.length st.1
  bel : Below W.heap.size W w
theorem HasR.lt {W w : World} {g : Gr} {st : St} (h : HasR W g st w) : W.heap.size < w.heap.size := Has.lt h.tab.2.2
theorem HasR.below {W w w' : World} {g : Gr} {st : St} (h : HasR W g st w) (hb : Below w.heap.size w w') : HasR W g st w' := ⟨h.tab.below hb, h.bel.trans (hb.mono h.bel.size)⟩
theorem HasR.set {W w : World} {g : Gr} {st : St} (h : HasR W g st w) (i : Nat) (c : Bool) : HasR W g (st.1.set i true, c) (w.setCell ⟨W.heap.size, i, none⟩ (.bool true)) := ⟨h.tab.set i, h.bel.setCell (p := ⟨W.heap.size, i, none⟩) (by simp) (.bool true)⟩
theorem HasR.ch {W w : World} {g : Gr} {st : St} (h : HasR W g st w) (c : Bool) : HasR W g (st.1, c) w := ⟨h.tab, h.bel⟩
def liveM (c : Value) (n : Nat) : Nat := match c with
  | .bool true => n
  | _ => 0
set_option maxRecDepth 100000 in
set_option maxHeartbeats 8000000 in
theorem has_any (g : Gr) (word : List Int) (F : Nat → Prop) (v u : Value) (w : World) (hF : ∀ b, F b → b < w.heap.size) (hv : GramIn F w v g) (hu : IntsIn .i64 F w u word) :
    Calls Tryd.prog 7 #[v, u] w (HasPost g word w) := by
  have HF := hid hF
  have HG := hid hv
  have HU := hid hu
  have CK := hid (grcheck_any g F v w hv)
  obtain ⟨A, c, rfl, h1, h3⟩ := hv
  obtain ⟨A', c', rfl, h1', _, _⟩ := hu
  have H3 := hid h3
  unfold maxLen at h1 h1'
  clear h3 hF
  have FIN : Hid (∀ n : Int, hasE g word = n → n ≠ 0 → ∀ w', Below w.heap.size w w' → HasPost g word w (.returned (.tuple #[.bool false, errV n])) w') := fun n h1 h2 w' h3 => ⟨by unfold hasB; rw [if_neg (by rw [h1]; exact h2), h1], h3⟩
  go_enter Tryd.func7, Tryd.ntmps7
  go_wp2_with fail
  refine CK.out.mono ?_
  rintro e w0 ⟨rfl, e0⟩
  rw [e0]
  clear e0 w0
  by_cases hg : gramE g = 0
  case neg =>
    have E : hasE g word = gramE g := by unfold hasE; rw [if_pos hg]
    have FF := hid (FIN.out _ E hg _ (Below.refl _ _))
    rw [errV_no hg] at FF ⊢
    clear E hg
    go_wp2_with fail
    go_ret2
    exact FF.out
  have OK := hid (gram_ok hg)
  rw [hg, errV_0]
  by_cases hw : 8 < word.length
  case pos =>
    have E : hasE g word = 4 := by unfold hasE; rw [if_neg (by simp [hg]), if_pos hw]
    have FF := hid (FIN.out _ E (by decide) _ (Below.refl _ _))
    rw [errV_no (by decide)] at FF
    have hw2 : 8 < (word.length : Int) := by omega
    clear E hg hw
    go_wp2_with fail
    go_ret2
    exact FF.out
  have E0 : Hid (hasE g word = 0) := by show _ = _; unfold hasE; rw [if_neg (by simp [hg]), if_neg hw]
  have HB : Hid (hasB g word = hasF g word) := by show _ = _; unfold hasB; rw [if_pos E0.out]
  have hw2 : ¬ 8 < (word.length : Int) := by omega
  have hw8 : word.length ≤ 8 := by omega
  have W8 := hid hw8
  have lo := OK.out.lo
  have g5 := OK.out.hi
  have hmk := run_make_tab g.length g5
  obtain ⟨rows, hrows⟩ : ∃ rows : Array Value, rows = ((List.replicate (g.length * 81) false).map Value.bool).toArray := ⟨_, rfl⟩
  rw [← hrows] at hmk
  have R0 : Hid (HasR w g (List.replicate (g.length * 81) false, true) (w.alloc (.cells rows 50))) := by
    refine ⟨⟨rfl, by simp, ?_⟩, (Below.refl _ _).alloc (Nat.le_refl _) _⟩
    rw [hrows]; exact Has.new _ _
  obtain ⟨fin, hfin⟩ : ∃ fin, fin = iterF g word (g.length * 81 + 1) (List.replicate (g.length * 81) false) := ⟨_, rfl⟩
  have V0 : Hid (HasInv g word fin (List.replicate (g.length * 81) false) true) := by show HasInv _ _ _ _ _; rw [hfin]; exact hasInv_start g word
  have HFIN : Hid (hasF g word = tabAt fin 0 0 word.length) := by show _ = _; rw [hfin]; rfl
  clear hg hw hrows hfin FIN
  go_wp2_with fail
  go_loopw [8] (fun cv wr => ∃ (bs : List Bool) (ch : Bool), cv = .bool ch ∧ Hid (HasR w g (bs, ch) wr) ∧ Hid (HasInv g word fin bs ch)) (fun cv wr => liveM cv (1 + openAt w.heap.size wr))
  case atStart => exact ⟨_, true, rfl, R0, V0⟩
  case round =>
    clear R0 V0 hmk
    obtain ⟨bs, ch, rfl, hR, hV⟩ := hrel
    cases ch with
    | false =>
      have EF : Hid (fin = bs) := by have h := hV.out.2; rw [if_neg (by decide)] at h; exact h
      have c1 := hR.out.tab.at_ (a := 0) (i := 0) (k := word.length) (by omega) (by omega) (by omega)
      rw [show 0 * 81 + 0 * 9 + word.length = word.length by omega] at c1
      have ER : Hid (hasB g word = tabAt bs 0 0 word.length) := by show _ = _; rw [HB.out, HFIN.out, EF.out]
      have B := hid hR.out.bel
      generalize tabAt bs 0 0 word.length = res at c1 ER
      have i5 : (word.length : Int) < 9 := by omega
      have i6 : (0 : Int) < (g.length : Int) := by omega
      clear hR hV EF
      go_wp2_with fail
      go_ret2
      exact ⟨by rw [ER.out, E0.out]; rfl, B.out⟩
    | true =>
      obtain ⟨hS1, hS2⟩ := hasInv_step OK.out hw8 hV.out
      have S1 := hid hS1
      have S2 := hid hS2
      have M0 : Hid (openAt w.heap.size wr = bs.count false) := openAt_eq hR.out.tab
      have R1 := hid (hR.out.ch false)
      clear hS1 hS2 hR hV
      obtain ⟨st0, hst0⟩ : ∃ st0 : St, st0 = (bs, false) := ⟨_, rfl⟩
      have HST := hid hst0
      rw [← hst0] at S1 S2
      go_wp2_with fail
      go_loopw [8, 31] (fun cv ai wr => ∃ a : Nat, a ≤ g.length ∧ ai = .int .i64 a ∧ cv = .bool (gL g word st0 a).2 ∧ Hid (HasR w g (gL g word st0 a) wr)) (fun _ ai _ => g.length - (intOf ai).toNat)
      case atStart => exact ⟨0, Nat.zero_le _, rfl, by rw [HST.out]; rfl, by rw [HST.out]; exact R1⟩
      case round =>
        clear R1
        obtain ⟨a, ha, rfl, rfl, hR⟩ := hrel
        by_cases hat : a < g.length
        · obtain ⟨b, o, rfl, hb, hc⟩ := H3.out (by omega)
          obtain ⟨r, c1, hr⟩ := hc a hat
          have c1 := (hR.out.bel.cell (p := ⟨b, o + a, none⟩) (HF.out b hb)).trans c1
          have L6 := OK.out.rules a hat
          have L4 := hid (OK.out.len a hat)
          have LS := hid (OK.out.sym a hat)
          obtain ⟨l, hl⟩ : ∃ l, l = gAt g a := ⟨_, rfl⟩
          rw [← hl] at hr L6 L4 LS
          have HL := hid hl
          obtain ⟨A2, cp2, rfl, l1, hr3⟩ := hr
          have R3 := hid hr3
          unfold maxLen at l1
          have i1 : (a : Int) < (g.length : Int) := by omega
          obtain ⟨st1, hst1⟩ : ∃ st1, st1 = gL g word st0 a := ⟨_, rfl⟩
          rw [← hst1] at hR
          have HS1 := hid hst1
          rw [← hst1]
          have R1 := hid hR.out
          clear hc hl hr3 hst1 hb hR
          go_wp2_with fail
          go_loopw [8, 38] (fun cv ki wr => ∃ k : Nat, k ≤ l.length ∧ ki = .int .i64 k ∧ cv = .bool (rL word l a st1 k).2 ∧ Hid (HasR w g (rL word l a st1 k) wr)) (fun _ ki _ => l.length - (intOf ki).toNat)
          case atStart => exact ⟨0, Nat.zero_le _, rfl, rfl, R1⟩
          case round =>
            clear R1 c1
            obtain ⟨k, hk, rfl, rfl, hR⟩ := hrel
            by_cases hkt : k < l.length
            · obtain ⟨b2, o2, rfl, hb2, hc2⟩ := R3.out (by omega)
              obtain ⟨r2, c2, hr2⟩ := hc2 k hkt
              have c2 := (hR.out.bel.cell (p := ⟨b2, o2 + k, none⟩) (HF.out b2 hb2)).trans c2
              have s4 := L4.out k hkt
              have SS := hid (LS.out k hkt)
              obtain ⟨s, hs⟩ : ∃ s, s = rowAt l k := ⟨_, rfl⟩
              rw [← hs] at hr2 s4 SS
              have HS := hid hs
              have RI := hid hr2
              obtain ⟨A4, cp4, rfl, s1, _, _⟩ := hr2
              unfold maxLen at s1
              have i2 : (k : Int) < (l.length : Int) := by omega
              obtain ⟨st2, hst2⟩ : ∃ st2, st2 = rL word l a st1 k := ⟨_, rfl⟩
              rw [← hst2] at hR
              have HS2 := hid hst2
              rw [← hst2]
              have R1 := hid hR.out
              clear hc2 hs hst2 hb2 hR
              go_wp2_with fail
              go_loopw [8, 45] (fun cv fi wr => ∃ f : Nat, f ≤ word.length + 1 ∧ fi = .int .i64 f ∧ cv = .bool (fL word s a st2 f).2 ∧ Hid (HasR w g (fL word s a st2 f) wr)) (fun _ fi _ => word.length + 1 - (intOf fi).toNat)
              case atStart => exact ⟨0, Nat.zero_le _, rfl, rfl, R1⟩
              case round =>
                clear R1 c2
                obtain ⟨f, hf, rfl, rfl, hR⟩ := hrel
                by_cases hft : f < word.length + 1
                · have i3 : (f : Int) < (word.length : Int) + 1 := by omega
                  obtain ⟨st3, hst3⟩ : ∃ st3, st3 = fL word s a st2 f := ⟨_, rfl⟩
                  rw [← hst3] at hR
                  have HS3 := hid hst3
                  rw [← hst3]
                  have R1 := hid hR.out
                  have sz := hR.out.bel.size
                  have EA := hid (ends_any st3.1 g.length w.heap.size word s f (fun b => b < w.heap.size) _ _ _ wr (fun b h => by omega) hR.out.tab ((HU.out.keep (Same.of_below hR.out.bel HF.out)).more HF.out) ((RI.out.keep (Same.of_below hR.out.bel HF.out)).more HF.out) g5 hw8 s4 (fun x hx => (SS.out x hx).1) (by omega))
                  have EF := ends_facts (bs := st3.1) hw8 s4 (show f ≤ word.length by omega)
                  obtain ⟨tos, htos⟩ : ∃ tos, tos = endsF st3.1 word s f := ⟨_, rfl⟩
                  rw [← htos] at EA EF
                  have HT := hid htos
                  obtain ⟨t6, EF2⟩ := EF
                  have EF3 := hid EF2
                  obtain ⟨w3, hw3⟩ : ∃ w3, w3 = wr := ⟨_, rfl⟩
                  subst hw3
                  have lt3 := hR.out.lt
                  clear hst3 hR htos EF2
                  go_wp2_with fail
                  refine EA.out.mono ?_
                  rintro e w4 ⟨rv, rfl, hI, hb4⟩
                  have R2 := hid (R1.out.below hb4)
                  have I2 := hid hI
                  obtain ⟨At, ct, rfl, ht1, _, ht3⟩ := hI
                  have T3 := hid ht3
                  unfold maxLen at ht1
                  clear hb4 ht3 EA R1
                  go_wp2_with fail
                  go_loopw [8, 54] (fun cv ti wr => ∃ t : Nat, t ≤ tos.length ∧ ti = .int .i64 t ∧ cv = .bool (tL a f tos st3 t).2 ∧ Hid (HasR w g (tL a f tos st3 t) wr) ∧ Hid (∀ b, w.heap.size < b → wr.heap[b]? = w4.heap[b]?)) (fun _ ti _ => tos.length - (intOf ti).toNat)
                  case atStart => exact ⟨0, Nat.zero_le _, rfl, rfl, R2, fun b _ => rfl⟩
                  case round =>
                    clear R2
                    obtain ⟨t, ht, rfl, rfl, hR, hSm⟩ := hrel
                    by_cases htt : t < tos.length
                    · obtain ⟨b5, o5, rfl, hb5, hc5⟩ := T3.out (by omega)
                      have c5 : wr.cell? ⟨b5, o5 + t, none⟩ = some (.int .i64 (tos.getD t 0)) := (World.cell?_of_block (w := w4) (hSm.out b5 (by omega))).trans (hc5 t htt)
                      have EX : tos.getD t 0 = at0 tos t := rfl
                      rw [EX] at c5
                      have MZ := EF3.out _ (mem_at htt)
                      obtain ⟨z, hz⟩ : ∃ z : Nat, at0 tos t = (z : Int) := ⟨(at0 tos t).toNat, by omega⟩
                      have HZ : Hid ((at0 tos t).toNat = z) := by show _ = _; rw [hz]; simp
                      rw [hz] at c5 MZ
                      have i4 : (t : Int) < (tos.length : Int) := by omega
                      obtain ⟨st4, hst4⟩ : ∃ st4, st4 = tL a f tos st3 t := ⟨_, rfl⟩
                      have NX : Hid (tL a f tos st3 (t + 1) = mark1 st4 a f z) := by show _ = _; rw [tL, HZ.out, ← hst4]
                      rw [← hst4] at hR
                      rw [← hst4]
                      have c6 := hR.out.tab.at_ (a := a) (i := f) (k := z) hat (by omega) (by omega)
                      have f6 := Has.froz hR.out.tab.2.2 (a * 81 + f * 9 + z)
                      have R2 := hid (hR.out.set (a * 81 + f * 9 + z) (st4.2 || !tabAt st4.1 a f z))
                      have SM2 : Hid (∀ b, w.heap.size < b → (wr.setCell ⟨w.heap.size, a * 81 + f * 9 + z, none⟩ (.bool true)).heap[b]? = w4.heap[b]?) := fun b hb => (Below.heap_setCell _ _ _ _ (by simp; omega)).trans (hSm.out b hb)
                      have i7 : (f : Int) < 9 := by omega
                      have i8 : (z : Int) < 9 := by omega
                      have R3 : Hid (HasR w g (tL a f tos st3 (t + 1)) (wr.setCell ⟨w.heap.size, a * 81 + f * 9 + z, none⟩ (.bool true))) := by show HasR _ _ _ _; rw [NX.out]; exact R2.out
                      have CE : Hid ((tL a f tos st3 (t + 1)).2 = (st4.2 || !tabAt st4.1 a f z)) := by show _ = _; rw [NX.out]; rfl
                      obtain ⟨q4, p4⟩ := st4
                      obtain ⟨tb, htb⟩ : ∃ tb, tb = tabAt q4 a f z := ⟨_, rfl⟩
                      simp only at c6 CE
                      rw [← htb] at c6 CE
                      clear hc5 EX hz MZ hst4 hR R2 NX hb5 hSm htb
                      have DN : Hid ((tL a f tos st3 (t + 1)).2 = true → p4 = true ∨ tb = false) := fun h => by
                        rw [CE.out] at h
                        cases p4 <;> cases tb <;> simp at h ⊢
                      cases p4 with
                      | true =>
                        have CE2 : Hid ((tL a f tos st3 (t + 1)).2 = true) := by show _ = _; rw [CE.out]; rfl
                        clear CE DN
                        go_wp2_with fail
                        go_roundw
                        case rel => exact ⟨t + 1, by omega, by go_num, by rw [CE2.out], R3, SM2⟩
                        case measure => simp [intOf]; omega
                      | false =>
                        have CE2 : Hid ((tL a f tos st3 (t + 1)).2 = !tb) := by show _ = _; rw [CE.out]; rfl
                        clear CE DN
                        go_wp2_with fail
                        go_roundw
                        case rel => exact ⟨t + 1, by omega, by go_num, by rw [CE2.out], R3, SM2⟩
                        case measure => simp [intOf]; omega
                    · obtain rfl : t = tos.length := by omega
                      have EQ : tL a f tos st3 tos.length = fL word s a st2 (f + 1) := by rw [fL, ← HS3.out, ← HT.out]
                      rw [EQ] at hR ⊢
                      have R2 := hid hR.out
                      clear hR hSm EQ
                      go_wp2_with fail
                      go_roundw
                      case rel => exact ⟨f + 1, by omega, by go_num, rfl, R2⟩
                      case measure => simp [intOf]; omega
                · obtain rfl : f = word.length + 1 := by omega
                  have i3 : ¬ (((word.length + 1 : Nat) : Int) < (word.length : Int) + 1) := by omega
                  have EQ : fL word s a st2 (word.length + 1) = rL word l a st1 (k + 1) := by rw [rL, ← HS2.out, ← HS.out]
                  rw [EQ] at hR ⊢
                  have R2 := hid hR.out
                  clear hR EQ
                  go_wp2_with fail
                  go_roundw
                  case rel => exact ⟨k + 1, by omega, by go_num, rfl, R2⟩
                  case measure => simp [intOf]; omega
            · obtain rfl : k = l.length := by omega
              have EQ : rL word l a st1 l.length = gL g word st0 (a + 1) := by rw [gL, ← HS1.out, ← HL.out]
              rw [EQ] at hR ⊢
              have R2 := hid hR.out
              clear hR EQ
              go_wp2_with fail
              go_roundw
              case rel => exact ⟨a + 1, by omega, by go_num, rfl, R2⟩
              case measure => simp [intOf]; omega
        · obtain rfl : a = g.length := by omega
          have R2 := hid hR.out
          have M1 : Hid (openAt w.heap.size wr = (gL g word st0 g.length).1.count false) := openAt_eq hR.out.tab
          obtain ⟨st9, hst9⟩ : ∃ st9, st9 = gL g word st0 g.length := ⟨_, rfl⟩
          rw [← hst9] at R2 S1 S2 M1
          rw [← hst9]
          obtain ⟨b9, p9⟩ := st9
          clear hR hst9
          go_wp2_with fail
          go_roundw
          case rel => exact ⟨b9, p9, rfl, R2, S1⟩
          case measure =>
            have m0 := M0.out
            have m1 := M1.out
            have s2 := S2.out
            simp only at m1 s2
            cases p9 with
            | true => have := s2 rfl; simp only [liveM]; omega
            | false => simp only [liveM]; omega
end Go.Proofs.YtbnannlpebggjaaDoor
