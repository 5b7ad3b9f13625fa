/- What cond.covers and Covers return. Conditions: of covers, what Check lets pass and tests within the decision. -/
import Derived.Test.YtmhledlcfbjfkaaDoorCdg
namespace Go.Proofs.YtmhledlcfbjfkaaDoor
open Go.RowKit Go.Deep
theorem ent1 : ∀ (args : Array Value) (w : World), Sem.run Tryd.prog (callFunc 22 args) w = .ok (.enter 22 args) w := fun _ _ => by kernel_rfl
theorem ent2 : ∀ (args : Array Value) (w : World), Sem.run Tryd.prog (callFunc 25 args) w = .ok (.enter 25 args) w := fun _ _ => by kernel_rfl
theorem covI_succ (n : Nat) (f : List Bool) (T : List Int) (i : Nat) : (List.range (i + 1)).all (fun i => !mat f i || hasP f T i) = ((List.range i).all (fun i => !mat f i || hasP f T i) && (!mat f i || hasP f T i)) := by
  rw [List.range_succ, List.all_append]; simp
theorem cov_false {n : Nat} {f : List Bool} {T : List Int} {i : Nat} (hi : i < n) (h1 : mat f i = true) (h2 : hasP f T i = false) : cov n f T = false := by
  unfold cov
  rw [Bool.and_eq_false_iff]
  refine .inl ?_
  rw [List.all_eq_false]
  exact ⟨i, List.mem_range.2 hi, by simp [h1, h2]⟩
theorem cov_want {n : Nat} {f : List Bool} {T : List Int} (b : Bool) (h : wantT f T b = true) : cov n f T = false := by
  unfold cov
  cases b <;> simp [h]
def CovPost (n : Nat) (f : List Bool) (T : List Int) (w : World) (e : Ending) (w' : World) : Prop := e = .returned (.bool (cov n f T)) ∧ Below w.heap.size w w'
set_option maxRecDepth 100000 in
set_option maxHeartbeats 4000000 in
theorem covers_ok (N : Nat) (f : List Bool) (T : List Int) (F : Nat → Prop) (fv tv : Value) (w : World) (hF : ∀ b, F b → b < w.heap.size) (hf : BoolsIn F w fv f) (ht : IntsIn .i64 F w tv T) (h1N : 1 ≤ N) (hN : N ≤ 6) (hl : f.length = 2 ^ N) (hr : InR N T) :
    Calls Tryd.prog 15 #[.int .i64 N, fv, tv] w (CovPost N f T w) := by
  have HF := hid hF
  have FV := hid hf
  have TV := hid ht
  have HL := hid hl
  have HR := hid hr
  have HT : Hid (∀ t ∈ T, 0 ≤ t ∧ t.toNat < f.length) := fun t h => by have := hr t h; omega
  obtain ⟨Af, cf, rfl, _, _, _⟩ := hf
  obtain ⟨At, ct, rfl, _, _, _⟩ := ht
  obtain ⟨W, hW⟩ : ∃ W, W = (w.alloc (.cells #[.slice Af f.length cf] 22)).alloc (.cells #[.slice At T.length ct] 23) := ⟨_, rfl⟩
  have SW : W.heap.size = w.heap.size + 2 := by rw [hW]; simp
  have BW : Hid (Below w.heap.size w W) := by show Below _ _ _; rw [hW]; exact ((Below.refl _ _).alloc (Nat.le_refl _) _).alloc (by simp) _
  have C1 : Hid (W.cell? ⟨w.heap.size, 0, none⟩ = some (.slice Af f.length cf)) := by
    have X := Has.alloc (Has.new w (.cells #[.slice Af f.length cf] 22)) (.cells #[.slice At T.length ct] 23)
    rw [← hW] at X; exact (Has.cell X 0).trans rfl
  have C2 : Hid (W.cell? ⟨w.heap.size + 1, 0, none⟩ = some (.slice At T.length ct)) := by
    have X := Has.newAt (g := w.heap.size + 1) (w.alloc (.cells #[.slice Af f.length cf] 22)) (.cells #[.slice At T.length ct] 23) (by simp)
    rw [← hW] at X; exact (Has.cell X 0).trans rfl
  have HW := hid hW
  have FW := hid (FV.out.keep (Same.of_below BW.out HF.out))
  have TW := hid (TV.out.keep (Same.of_below BW.out HF.out))
  have HF2 : Hid (∀ b, F b → b < W.heap.size) := fun b hb => by have := HF.out b hb; omega
  clear hF hl hr hW
  go_enter Tryd.func15, Tryd.ntmps15
  go_wp2_with fail
  rw [← HW.out]
  go_loopw [14] (fun iv wr => ∃ i : Nat, i ≤ N ∧ iv = .int .i64 i ∧ Hid ((List.range i).all (fun i => !mat f i || hasP f T i) = true) ∧ Hid (Below W.heap.size W wr)) (fun iv _ => N - (intOf iv).toNat)
  case atStart => exact ⟨0, Nat.zero_le _, rfl, rfl, Below.refl _ _⟩
  case round =>
    obtain ⟨i, hi, rfl, hA, hB⟩ := hrel
    obtain ⟨wo, rfl⟩ : ∃ wo : World, wo = wr := ⟨_, rfl⟩
    have lB := hB.out.size
    have c1 := (hB.out.cell (p := ⟨w.heap.size, 0, none⟩) (by show w.heap.size < _; omega)).trans C1.out
    have c2 := (hB.out.cell (p := ⟨w.heap.size + 1, 0, none⟩) (by show w.heap.size + 1 < _; omega)).trans C2.out
    by_cases hlt : i < N
    · have i1 : (i : Int) < (N : Int) := by omega
      have SH := shl_two (i := i) (by omega)
      have lt1 : w.heap.size < wo.heap.size := by omega
      have lt2 : w.heap.size + 1 < wo.heap.size := by omega
      obtain ⟨p, hp⟩ : ∃ p : Nat, p = 2 ^ i := ⟨_, rfl⟩
      rw [← hp] at SH
      have HPp := hid hp
      have HI := hid hlt
      have AS := hid (covI_succ N f T i)
      clear hp
      have B2 := hid (hB.out.alloc lB (.cells #[.int .i64 (p : Int)] 3))
      have X2 := hid (Has.new wo (.cells #[.int .i64 (p : Int)] 3))
      obtain ⟨w1, hw1⟩ : ∃ w1, w1 = wo.alloc (.cells #[.int .i64 (p : Int)] 3) := ⟨_, rfl⟩
      have HW1 := hid hw1
      rw [← hw1] at B2 X2
      have s1 : w1.heap.size = wo.heap.size + 1 := by rw [hw1]; simp
      clear hw1
      go_wp2_with fail
      rw [← HW1.out]
      refine (matters_ok N i f F _ w1 (fun b hb => by have := HF2.out b hb; omega) (FW.out.keep (fun b hb => B2.out.block b (HF2.out b hb))) h1N hN HL.out HI.out).mono ?_
      rintro e w2 ⟨rfl, hb2⟩
      have B3 := hid (B2.out.trans (hb2.mono (by omega)))
      have s2 := hb2.size
      have c3 := (B3.out.cell (p := ⟨w.heap.size, 0, none⟩) (by show w.heap.size < _; omega)).trans C1.out
      have c4 := (B3.out.cell (p := ⟨w.heap.size + 1, 0, none⟩) (by show w.heap.size + 1 < _; omega)).trans C2.out
      have c5 := (hb2.cell (p := ⟨wo.heap.size, 0, none⟩) (by show wo.heap.size < _; omega)).trans ((Has.cell X2.out 0).trans rfl)
      have C3 := hid c3
      have C4 := hid c4
      have C5 := hid c5
      clear hb2 c1 c2
      cases hm : mat f i with
      | false =>
        have NA : Hid ((List.range (i + 1)).all (fun i => !mat f i || hasP f T i) = true) := by show _ = _; rw [AS.out, hA.out, hm]; rfl
        clear hm c3 c4 c5
        go_wp2_with fail
        go_roundw
        case rel => exact ⟨i + 1, by omega, by go_num, NA, B3⟩
        case measure => simp [intOf]; omega
      | true =>
        have HM := hid hm
        have AZ : Hid (AskZ 22 #[.pointer (some ⟨w.heap.size, 0, none⟩), .pointer (some ⟨wo.heap.size, 0, none⟩), .pointer (some ⟨w.heap.size + 1, 0, none⟩)] (hasPt f T i) T w2.heap.size w2) := fun wc z hz hbc => by
          have hz2 := HR.out z hz
          refine has_ok f T N i z F _ _ _ _ _ wc hN HI.out HL.out hz2 (FW.out.keep fun b hb => (hbc.block b (by have := HF2.out b hb; omega)).trans (B3.out.block b (HF2.out b hb))) (TW.out.keep fun b hb => (hbc.block b (by have := HF2.out b hb; omega)).trans (B3.out.block b (HF2.out b hb))) ((hbc.cell (cell_lt C3.out)).trans C3.out) ?_ ((hbc.cell (cell_lt C4.out)).trans C4.out)
          rw [← HPp.out]
          exact (hbc.cell (cell_lt C5.out)).trans C5.out
        clear hm c3 c5
        go_wp2_with fail
        refine (zcf_any (hasPt f T i) _ _ T F _ w2 (fun b hb => by have := HF2.out b hb; omega) (TW.out.keep fun b hb => B3.out.block b (HF2.out b hb)) (Nat.le_refl _) AZ.out ent1).mono ?_
        rintro e w3 ⟨rfl, hb3⟩
        have B4 := hid (B3.out.trans (hb3.mono (by omega)))
        clear hb3 c4
        have EH : Hid (T.any (hasPt f T i) = hasP f T i) := rfl
        rw [EH.out]
        cases hh : hasP f T i with
        | true =>
          have NA : Hid ((List.range (i + 1)).all (fun i => !mat f i || hasP f T i) = true) := by show _ = _; rw [AS.out, hA.out, hh]; simp
          clear hh
          go_wp2_with fail
          go_roundw
          case rel => exact ⟨i + 1, by omega, by go_num, NA, B4⟩
          case measure => simp [intOf]; omega
        | false =>
          have CF := hid (cov_false HI.out HM.out hh)
          have BF := hid (BW.out.trans (B4.out.mono (by omega)))
          clear hh
          go_wp2_with fail
          go_ret
          exact ⟨by rw [CF.out]; rfl, BF.out⟩
    · obtain rfl : i = N := by omega
      obtain ⟨wl, hwl⟩ : ∃ wl, wl = wo.alloc (.cells #[.bool false, .bool true] 4) := ⟨_, rfl⟩
      have HWL := hid hwl
      have BL : Hid (Below W.heap.size W wl) := by show Below _ _ _; rw [hwl]; exact hB.out.alloc lB _
      have sl : wl.heap.size = wo.heap.size + 1 := by rw [hwl]; simp
      have XL : Hid (∀ j : Nat, j < 2 → wl.cell? ⟨wo.heap.size, j, none⟩ = some (.bool (decide (j = 1)))) := fun j hj => by
        have X := Has.new wo (.cells #[.bool false, .bool true] 4)
        rw [← hwl] at X
        match j, hj with
        | 0, _ => exact (Has.cell X 0).trans rfl
        | 1, _ => exact (Has.cell X 1).trans rfl
      clear hwl c1 c2
      go_wp2_with fail
      rw [← HWL.out]
      go_loopw [35] (fun iv wr => ∃ j : Nat, j ≤ 2 ∧ iv = .int .i64 j ∧ Hid (∀ k, k < j → wantT f T (decide (k = 1)) = false) ∧ Hid (Below wl.heap.size wl wr)) (fun iv _ => 2 - (intOf iv).toNat)
      case atStart => exact ⟨0, Nat.zero_le _, rfl, fun k hk => by omega, Below.refl _ _⟩
      case round =>
        obtain ⟨j, hj, rfl, hQ, hB2⟩ := hrel
        obtain ⟨wi, rfl⟩ : ∃ wi : World, wi = wr := ⟨_, rfl⟩
        have si := hB2.out.size
        by_cases hjl : j < 2
        · have BB := hid (BL.out.trans (hB2.out.mono (by omega)))
          have lt1 : w.heap.size < wi.heap.size := by omega
          have lt2 : w.heap.size + 1 < wi.heap.size := by omega
          have k0 := (hB2.out.cell (p := ⟨wo.heap.size, j, none⟩) (by show wo.heap.size < _; omega)).trans (XL.out j hjl)
          have j1 : (j : Int) < 2 := by omega
          have NQ : Hid (wantT f T (decide (j = 1)) = false → ∀ k, k < j + 1 → wantT f T (decide (k = 1)) = false) := fun h k hk => by
            by_cases e : k = j
            · rw [e]; exact h
            · exact hQ.out k (by omega)
          obtain ⟨b, hb⟩ : ∃ b, b = decide (j = 1) := ⟨_, rfl⟩
          rw [← hb] at k0 NQ
          have WD : Hid (wantT f T b = (decide (b ∈ f) && decide ((!b) ∈ f) && !(T.any fun t => bat f t.toNat == b))) := rfl
          have CW := hid (cov_want (n := i) (f := f) (T := T) b)
          obtain ⟨w1, hw1⟩ : ∃ w1, w1 = wi.alloc (.cells #[.bool b] 4) := ⟨_, rfl⟩
          have HW1 := hid hw1
          have s1 : w1.heap.size = wi.heap.size + 1 := by rw [hw1]; simp
          have B1 : Hid (Below W.heap.size W w1) := by show Below _ _ _; rw [hw1]; exact BB.out.alloc (by omega) _
          have BQ : Hid (Below wl.heap.size wl w1) := by show Below _ _ _; rw [hw1]; exact hB2.out.alloc si _
          have x0 : w1.cell? ⟨wi.heap.size, 0, none⟩ = some (.bool b) := by
            have X := Has.new wi (.cells #[.bool b] 4)
            rw [← hw1] at X; exact (Has.cell X 0).trans rfl
          have c1 := (B1.out.cell (p := ⟨w.heap.size, 0, none⟩) (by show w.heap.size < _; omega)).trans C1.out
          have c2 := (B1.out.cell (p := ⟨w.heap.size + 1, 0, none⟩) (by show w.heap.size + 1 < _; omega)).trans C2.out
          have FW1 := hid (FW.out.keep (w' := w1) (fun q hq => B1.out.block q (HF2.out q hq)))
          have D1 := hid c1
          have D2 := hid c2
          have D3 := hid x0
          clear hb hw1 c1 c2 x0
          have c1 := (BB.out.cell (p := ⟨w.heap.size, 0, none⟩) (by show w.heap.size < _; omega)).trans C1.out
          have c2 := (BB.out.cell (p := ⟨w.heap.size + 1, 0, none⟩) (by show w.heap.size + 1 < _; omega)).trans C2.out
          go_wp2_with fail
          rw [← HW1.out]
          refine (bcontains_any f b F _ w1 FW1.out).mono ?_
          rintro e w2 ⟨rfl, rfl⟩
          clear c1 c2
          have c1 := D1.out
          have c2 := D2.out
          have x0 := D3.out
          cases e1 : decide (b ∈ f) with
          | false =>
            have NW := hid (NQ.out (by rw [WD.out, e1]; rfl))
            clear e1
            go_wp2_with fail
            go_roundw
            case rel => exact ⟨j + 1, by omega, by go_num, NW, BQ⟩
            case measure => simp [intOf]; omega
          | true =>
            have E1 := hid e1
            clear e1
            go_wp2_with fail
            refine (bcontains_any f (!b) F _ w1 FW1.out).mono ?_
            rintro e w2 ⟨rfl, rfl⟩
            cases e2 : decide ((!b) ∈ f) with
            | false =>
              have NW := hid (NQ.out (by rw [WD.out, E1.out, e2]; rfl))
              clear e2
              go_wp2_with fail
              go_roundw
              case rel => exact ⟨j + 1, by omega, by go_num, NW, BQ⟩
              case measure => simp [intOf]; omega
            | true =>
              have E2 := hid e2
              have AZ : Hid (AskZ 25 #[.pointer (some ⟨w.heap.size, 0, none⟩), .pointer (some ⟨wi.heap.size, 0, none⟩)] (fun t => bat f t.toNat == b) T w1.heap.size w1) := fun wc z hz hbc =>
                want_ok f b z F _ _ _ wc (HT.out z hz) (FW1.out.keep fun q hq => hbc.block q (by have := HF2.out q hq; omega)) ((hbc.cell (cell_lt D1.out)).trans D1.out) ((hbc.cell (cell_lt D3.out)).trans D3.out)
              clear e2
              go_wp2_with fail
              refine (zcf_any (fun t => bat f t.toNat == b) _ _ T F _ w1 (fun q hq => by have := HF2.out q hq; omega) (TW.out.keep fun q hq => B1.out.block q (HF2.out q hq)) (Nat.le_refl _) AZ.out ent2).mono ?_
              rintro e w3 ⟨rfl, hb3⟩
              have B3 := hid (B1.out.trans (hb3.mono B1.out.size))
              have BQ3 := hid (BQ.out.trans (hb3.mono BQ.out.size))
              clear hb3
              cases e3 : (T.any fun t => bat f t.toNat == b) with
              | true =>
                have NW := hid (NQ.out (by rw [WD.out, E1.out, E2.out, e3]; rfl))
                clear e3
                go_wp2_with fail
                go_roundw
                case rel => exact ⟨j + 1, by omega, by go_num, NW, BQ3⟩
                case measure => simp [intOf]; omega
              | false =>
                have CF := hid (CW.out (by rw [WD.out, E1.out, E2.out, e3]; rfl))
                have BF := hid (BW.out.trans (B3.out.mono (by omega)))
                clear e3
                go_wp2_with fail
                go_ret
                exact ⟨by rw [CF.out]; rfl, BF.out⟩
        · obtain rfl : j = 2 := by omega
          have CT : Hid (cov i f T = true) := by
            show _ = _
            unfold cov
            rw [hA.out, show wantT f T false = false from hQ.out 0 (by omega), show wantT f T true = false from hQ.out 1 (by omega)]; rfl
          have BF := hid (BW.out.trans ((BL.out.trans (hB2.out.mono (by omega))).mono (by omega)))
          go_wp2_with fail
          go_ret
          exact ⟨by rw [CT.out]; rfl, BF.out⟩
end Go.Proofs.YtmhledlcfbjfkaaDoor
