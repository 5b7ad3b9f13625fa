/- What path.checked and path.Count return. No conditions. -/
import Derived.Test.YtkiljnggphlomaaDoorPtd
import Derived.Test.YtkiljnggphlomaaDoorEct
namespace Go.Proofs.YtkiljnggphlomaaDoor
open Go.RowKit Go.Deep
def dupE (l : EdgeL) : Prop := ∃ i, i < l.length ∧ eAt l i ∈ l.take i
open Classical in
noncomputable def pathC (n : Int) (l : EdgeL) : Int := if flowC n l ≠ 0 then flowC n l else if dupE l then 3 else if madeF n.toNat l = none then 3 else 0
theorem pathC_flow {n : Int} {l : EdgeL} (h : flowC n l ≠ 0) : pathC n l = flowC n l := by unfold pathC; rw [if_pos h]
theorem pathC_dup {n : Int} {l : EdgeL} (h : flowC n l = 0) (hd : dupE l) : pathC n l = 3 := by
  unfold pathC; rw [if_neg (fun e => e h), if_pos hd]
theorem pathC_none {n : Int} {l : EdgeL} (h : flowC n l = 0) (hm : madeF n.toNat l = none) : pathC n l = 3 := by
  unfold pathC; rw [if_neg (fun e => e h), if_pos hm]
  split <;> rfl
theorem pathC_ok {n : Int} {l : EdgeL} {s : PSt} (h : flowC n l = 0) (hd : ¬ dupE l) (hm : madeF n.toNat l = some s) : pathC n l = 0 := by
  unfold pathC; rw [if_neg (fun e => e h), if_neg hd, if_neg (by rw [hm]; simp)]
theorem EdgesIn.take {F : Nat → Prop} {w : World} {A : Option Addr} {c i : Nat} {l : EdgeL} (h : EdgesIn F w (.slice A l.length c) l) (hi : i ≤ l.length) : EdgesIn F w (.slice A i c) (l.take i) := by
  obtain ⟨A', c', e, h1, h2, h3⟩ := h
  injection e with e1 _ e2
  subst e1 e2
  have hl : (l.take i).length = i := by rw [List.length_take]; omega
  refine ⟨A, c, by rw [hl], by rw [hl]; omega, fun e he => h2 e (List.mem_of_mem_take he), fun hn => ?_⟩
  rw [hl] at hn
  obtain ⟨b, off, rfl, hF, hc⟩ := h3 (by omega)
  refine ⟨b, off, rfl, hF, fun k hk => ?_⟩
  rw [hl] at hk
  have e : eAt (l.take i) k = eAt l k := by unfold eAt; exact getD_take hk
  rw [e]
  exact hc k (by omega)
theorem GrMem.lo {B B' n gb P G : Nat} {us : List Value} {s : PSt} {w : World} (h : GrMem B n gb P G us s w) (hb : B' ≤ B) : GrMem B' n gb P G us s w :=
  ⟨h.hgb, h.hp, ⟨h.fam.row, h.fam.len, fun i u x hu hx => own_lo (h.fam.own i u x hu hx) hb, h.fam.ne, h.fam.ap⟩, h.lr, h.lp⟩
def ChkPost (W : World) (n : Int) (l : EdgeL) (e : Ending) (w' : World) : Prop :=
  Below W.heap.size W w' ∧ ((pathC n l ≠ 0 ∧ e = .returned (.tuple #[.pointer none, errV (pathC n l)])) ∨ (pathC n l = 0 ∧ PFlow n.toNat l ∧ (n.toNat : Int) = n ∧ ∃ s gb P G us, madeF n.toNat l = some s ∧ e = .returned (.tuple #[.pointer (some ⟨gb, 0, none⟩), .nilIface]) ∧ GrMem W.heap.size n.toNat gb P G us s w'))
set_option maxRecDepth 100000 in
set_option maxHeartbeats 4000000 in
theorem pchecked_any (n : Int) (l : EdgeL) (F : Nat → Prop) (v : Value) (w : World) (hF : ∀ b, F b → b < w.heap.size) (hv : EdgesIn F w v l) :
    Calls Tryd.prog 63 #[.int .i64 n, v] w (ChkPost w n l) := by
  have HF := hid hF
  have HV := hid hv
  obtain ⟨A, c, rfl, hl, _, h3⟩ := hv
  have H3 := hid h3
  clear hF h3
  by_cases hc : flowC n l = 0
  · obtain ⟨N, hN, pf⟩ := pflow_ok hc
    subst hN
    have PF := hid pf
    have HC := hid hc
    have le30 := pf.le
    have c1 : l.length ≤ c := hl.1
    have c2 := hl.2
    unfold maxLen at c2
    clear hc pf hl
    go_enter Tryd.func63, Tryd.ntmps63
    go_wp2_with fail
    refine (fcheck_any (N : Int) l F _ w HF.out HV.out).mono ?_
    rintro e w1 ⟨rfl, hb⟩
    rw [HC.out, errV_0]
    have B1 := hid hb
    clear hb
    go_wp2_with fail
    go_loopw [18] (fun ji wr => ∃ j : Nat, j ≤ l.length ∧ ji = .int .i64 j ∧ Hid (∀ k, k < j → ¬ eAt l k ∈ l.take k) ∧ Hid (Below w.heap.size w wr)) (fun ji _ => l.length - (intOf ji).toNat)
    case atStart => exact ⟨0, Nat.zero_le _, rfl, fun k hk => by omega, B1⟩
    case round =>
      clear B1
      obtain ⟨j, hj, rfl, hO, hB⟩ := hrel
      have sB := hB.out.size
      by_cases hlt : j < l.length
      · obtain ⟨b, o, rfl, lb, hcc⟩ := H3.out (by omega)
        have lb := HF.out b lb
        have k1 := (hB.out.cell (p := ⟨b, o + j * 2, none⟩) lb).trans (hcc j hlt).1
        have k2 := (hB.out.cell (p := ⟨b, o + j * 2 + 1, none⟩) lb).trans (hcc j hlt).2
        have i1 : (j : Int) < (l.length : Int) := by omega
        have i2 : (j : Int) ≤ (l.length : Int) := by omega
        have i3 : (j : Int) ≤ (c : Int) := by omega
        clear hcc
        obtain ⟨ee, hx⟩ : ∃ ee, ee = eAt l j := ⟨_, rfl⟩
        rw [← hx] at k1 k2
        have HX := hid hx
        obtain ⟨x, y⟩ := ee
        simp only [] at k1 k2
        clear hx
        obtain ⟨wo, hwo⟩ : ∃ wo, wo = wr := ⟨_, rfl⟩
        subst hwo
        obtain ⟨wa, hwa⟩ : ∃ wa, wa = wo.alloc (.cells #[.int .i64 x, .int .i64 y] 32) := ⟨_, rfl⟩
        have BA : Hid (Below w.heap.size w wa) := by show Below _ _ _; rw [hwa]; exact hB.out.alloc sB _
        have E := Has.new wo (.cells #[.int .i64 x, .int .i64 y] 32)
        rw [← hwa] at E
        have e0 := (Has.cell E 0).trans rfl
        have e1 := (Has.cell E 1).trans rfl
        have EE := hid E
        have sA := BA.out.size
        have ET : Hid (EdgesIn F wa (.slice (some ⟨b, o, none⟩) j c) (l.take j)) := (HV.out.take hj).keep (Same.of_below BA.out HF.out)
        go_upto_region 7 with fail
        rw [← hwa]
        clear hwa
        go_region_held3 (fun w' => w'.cell? ⟨wo.heap.size, 0, none⟩ = some (.int .i64 x) ∧ w'.cell? ⟨wo.heap.size, 1, none⟩ = some (.int .i64 y)) (first | exact ⟨e0, e1⟩ | exact S2.out) (first
          | (go_simp; go_at_call 38; refine (econt_any (x, y) (l.take j) F _ _ (fun b hb => by have := HF.out b hb; show b < wa.heap.size; omega) (by exact ET.out.keep (fun _ _ => rfl))).mono ?_; rintro e w2 ⟨rfl, hb2⟩; have B2 : Hid (Below w.heap.size w w2) := hid (BA.out.drew.trans (hb2.mono (by show w.heap.size ≤ wa.heap.size; omega))); have S2 : Hid (w2.cell? ⟨wo.heap.size, 0, none⟩ = some (.int .i64 x) ∧ w2.cell? ⟨wo.heap.size, 1, none⟩ = some (.int .i64 y)) := (by show _ ∧ _; have l9 := Has.lt EE.out; exact ⟨(hb2.cell (p := ⟨wo.heap.size, 0, none⟩) l9).trans e0, (hb2.cell (p := ⟨wo.heap.size, 1, none⟩) l9).trans e1⟩); clear hb2))
        obtain ⟨tb, htb⟩ : ∃ tb, tb = decide ((x, y) ∈ l.take j) := ⟨_, rfl⟩
        rw [← htb]
        have TB := hid htb
        clear htb S2 e0 e1
        cases tb with
        | true =>
          have PC := hid (pathC_dup (n := (N : Int)) HC.out ⟨j, hlt, by rw [← HX.out]; exact of_decide_eq_true TB.out.symm⟩)
          go_wp2_with fail
          go_ret2
          exact ⟨B2.out, .inl ⟨by rw [PC.out]; decide, by rw [PC.out, errV_no (by decide)]; rfl⟩⟩
        | false =>
          have O2 : Hid (∀ k, k < j + 1 → ¬ eAt l k ∈ l.take k) := fun k hk => by
            by_cases e : k = j
            · subst e; rw [← HX.out]; exact of_decide_eq_false TB.out.symm
            · exact hO.out k (by omega)
          go_wp2_with fail
          go_roundw
          case rel => exact ⟨j + 1, by omega, by go_num, O2, B2⟩
          case measure => simp [intOf]; omega
      · obtain rfl : j = l.length := by omega
        have ND : Hid (¬ dupE l) := fun ⟨i, hi, h⟩ => hO.out i hi h
        have EV := hid (HV.out.keep (Same.of_below hB.out HF.out))
        obtain ⟨wo, hwo⟩ : ∃ wo, wo = wr := ⟨_, rfl⟩
        subst hwo
        clear hO
        go_wp2_with fail
        refine (pmade_any N l F _ wo (fun b hb => by have := HF.out b hb; omega) EV.out PF.out).mono ?_
        rintro e w3 ⟨hb, ⟨hm, rfl⟩ | ⟨s, gb, P, G, us, hm, rfl, hg⟩⟩
        · have B3 := hid (hB.out.trans (hb.mono sB))
          have PC := hid (pathC_none (n := (N : Int)) HC.out (by rw [Int.toNat_natCast]; exact hm))
          clear hb hm
          go_wp2_with fail
          go_ret2
          exact ⟨B3.out, .inl ⟨by rw [PC.out]; decide, by rw [PC.out, errV_no (by decide)]; rfl⟩⟩
        · have B3 := hid (hB.out.trans (hb.mono sB))
          have PC := hid (pathC_ok (n := (N : Int)) HC.out ND.out (by rw [Int.toNat_natCast]; exact hm))
          have GM := hid hg
          have MD := hid hm
          clear hb hm hg
          go_wp2_with fail
          go_ret2
          exact ⟨B3.out, .inr ⟨PC.out, by rw [Int.toNat_natCast]; exact PF.out, by rw [Int.toNat_natCast], s, gb, P, G, us, by rw [Int.toNat_natCast]; exact MD.out, rfl, by rw [Int.toNat_natCast]; exact GM.out.lo sB⟩⟩
  · have HC := hid hc
    have PC := hid (pathC_flow hc)
    go_enter Tryd.func63, Tryd.ntmps63
    go_wp2_with fail
    refine (fcheck_any n l F _ w HF.out HV.out).mono ?_
    rintro e w1 ⟨rfl, hb⟩
    have B1 := hid hb
    rw [errV_no hc]
    clear hb hc
    go_wp2_with fail
    go_ret2
    exact ⟨B1.out, .inl ⟨by rw [PC.out]; exact HC.out, by rw [PC.out, errV_no HC.out]; rfl⟩⟩
def CountPost (W : World) (n : Int) (l : EdgeL) (e : Ending) (w' : World) : Prop :=
  Below W.heap.size W w' ∧ ((pathC n l ≠ 0 ∧ e = .returned (.tuple #[.int .i64 0, errV (pathC n l)])) ∨ (pathC n l = 0 ∧ ∃ s, madeF n.toNat l = some s ∧ e = .returned (.tuple #[.int .i64 (at0 s.pth 0), .nilIface])))
set_option maxRecDepth 100000 in
set_option maxHeartbeats 4000000 in
theorem pcount_any (n : Int) (l : EdgeL) (F : Nat → Prop) (v : Value) (w : World) (hF : ∀ b, F b → b < w.heap.size) (hv : EdgesIn F w v l) :
    Calls Tryd.prog 33 #[.int .i64 n, v] w (CountPost w n l) := by
  have HF := hid hF
  have HV := hid hv
  obtain ⟨A, c, rfl, hl, _, h3⟩ := hv
  clear hF h3
  go_enter Tryd.func33, Tryd.ntmps33
  go_wp2_with fail
  refine (pchecked_any n l F _ w HF.out HV.out).mono ?_
  rintro e w1 ⟨hb, ⟨hc, rfl⟩ | ⟨hc, pf, hN, s, gb, P, G, us, hm, rfl, hg⟩⟩
  · have B1 := hid hb
    have HC := hid hc
    rw [errV_no hc]
    clear hb hc
    go_wp2_with fail
    go_ret2
    exact ⟨B1.out, .inl ⟨HC.out, by rw [errV_no HC.out]; rfl⟩⟩
  · have B1 := hid hb
    have HC := hid hc
    have HM := hid hm
    have n1 := pf.lo
    have c0 := (Has.cell hg.hgb 1).trans rfl
    have c1 := row_int hg.hp (i := 0) (by rw [hg.lp]; omega)
    have i1 : (0 : Int) < ((n.toNat : Nat) : Int) := by omega
    obtain ⟨N, hN2⟩ : ∃ N, N = n.toNat := ⟨_, rfl⟩
    rw [← hN2] at c0 i1 n1 HM
    have HN2 := hid hN2
    obtain ⟨a, ha⟩ : ∃ a, a = at0 s.pth 0 := ⟨_, rfl⟩
    rw [← ha] at c1
    have HA := hid ha
    clear hb hc hm hg pf hN hN2 ha
    go_wp2_with fail
    go_ret2
    exact ⟨B1.out, .inr ⟨HC.out, s, by rw [← HN2.out]; exact HM.out, by rw [← HA.out]; rfl⟩⟩
end Go.Proofs.YtkiljnggphlomaaDoor
