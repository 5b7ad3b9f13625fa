/- table.Clash of right rules of which none clash. Conditions: rules of bits; two with unlike deeds fit no test both. -/
import Derived.Test.YtkiljnggphlomaaDoorTck
import Derived.Deep.RegionHeld3
namespace Go.Proofs.YtkiljnggphlomaaDoor
open Go.RowKit Go.Deep
def noClash (n : Nat) (l : RuleL) : Prop := ∀ i k, i < l.length → k < l.length → (ruAt l i).2 ≠ (ruAt l k).2 → fitB n (ruAt l i).1 (ruAt l k).1 = false
set_option maxRecDepth 100000 in
set_option maxHeartbeats 2000000 in
theorem clash_any (n : Nat) (l : RuleL) (F : Nat → Prop) (v : Value) (w : World) (hF : ∀ b, F b → b < w.heap.size) (hv : RulesIn n F w v l) (h1n : 1 ≤ n) (hn : n ≤ 6) (hl : l.length ≤ 12) (hc : noClash n l) :
    Calls Tryd.prog 26 #[.int .i64 n, v] w fun e w' => e = .returned (.tuple #[.int .i64 0, .int .i64 0, errV 2]) ∧ Below w.heap.size w w' := by
  have HF := hid hF
  have HV := hid hv
  have HC := hid hc
  obtain ⟨A, c, rfl, h1, h3⟩ := hv
  have H3 := hid h3
  unfold maxLen at h1
  clear hF hc h3
  go_enter Tryd.func26, Tryd.ntmps26
  go_wp2_with fail
  refine (tcheck_any n l F _ _ HF.out HV.out h1n hn hl).mono ?_
  rintro e w2 ⟨rfl, hb⟩
  have B2 := hid hb
  clear hb
  go_wp2_with fail
  go_loopw [8, 9, 18] (fun _ _ iv wr => ∃ (i : Nat), i ≤ l.length ∧ iv = .int .i64 i ∧ Hid (Below w.heap.size w wr)) (fun _ _ iv _ => l.length - (intOf iv).toNat)
  case atStart => exact ⟨0, Nat.zero_le _, rfl, B2⟩
  case round =>
    obtain ⟨i, hi, rfl, hB⟩ := hrel
    by_cases hlt : i < l.length
    · have i1 : (i : Int) < (l.length : Int) := by omega
      go_wp2_with fail
      go_loopw [9] (fun kv wr => ∃ (k : Nat), k ≤ l.length ∧ kv = .int .i64 k ∧ Hid (Below w.heap.size w wr)) (fun kv _ => l.length - (intOf kv).toNat)
      case atStart => exact ⟨i + 1, by omega, by go_num, hB⟩
      case round =>
        obtain ⟨k, hk, rfl, hB'⟩ := hrel
        have sB := hB'.out.size
        by_cases hkt : k < l.length
        · obtain ⟨b, o, rfl, hb, hcc⟩ := H3.out (by omega)
          obtain ⟨u1, q1, iu1, q2⟩ := hcc i hlt
          obtain ⟨u2, q3, iu2, q4⟩ := hcc k hkt
          have lb := HF.out b hb
          have c1 := (hB'.out.cell (p := ⟨b, o + i * 2, none⟩) lb).trans q1
          have c2 := (hB'.out.cell (p := ⟨b, o + i * 2 + 1, none⟩) lb).trans q2
          have c3 := (hB'.out.cell (p := ⟨b, o + k * 2, none⟩) lb).trans q3
          have c4 := (hB'.out.cell (p := ⟨b, o + k * 2 + 1, none⟩) lb).trans q4
          have k1 : (k : Int) < (l.length : Int) := by omega
          have lbo : b < wr.heap.size := by omega
          obtain ⟨wo, hwo⟩ : ∃ wo, wo = wr := ⟨_, rfl⟩
          subst hwo
          have I1 := hid (iu1.keep (Same.of_below (hB'.out.trans ((Below.refl wo.heap.size wo).drew.mono sB)) HF.out))
          have I2 := hid (iu2.keep (Same.of_below (hB'.out.trans ((Below.refl wo.heap.size wo).drew.mono sB)) HF.out))
          have NC := hid (HC.out i k hlt hkt)
          generalize (ruAt l i).2 = d1 at c2 NC
          generalize (ruAt l k).2 = d2 at c4 NC
          generalize (ruAt l i).1 = x at I1 NC
          generalize (ruAt l k).1 = y at I2 NC
          obtain ⟨A1, p1, rfl, _, _⟩ := iu1
          obtain ⟨A2, p2, rfl, _, _⟩ := iu2
          rw [bitsR_len] at c1 c3 I1 I2
          clear q1 q2 q3 q4 hcc
          go_upto_region 10 with fail
          go_cut [50] (fun cv wx => cv = .bool false ∧ Hid (Below wo.heap.size wo wx))
          case first => as_aux_lemma =>
            by_cases hd : d1 = d2
            · subst hd
              have z1 : (d1 != d1) = false := by simp
              go_quiet (fail)
              have B5 : Hid (Below wo.heap.size wo (wo.drewN nq)) := below_drewN (Below.refl _ wo) nq
              go_wp2_with fail
              go_meet
              exact ⟨rfl, B5⟩
            · have z1 : (d1 != d2) = true := by rw [bne_iff_ne]; exact hd
              have NC' := hid (NC.out hd)
              go_region_held3 (fun w' => w'.cell? ⟨b, o + i * 2, none⟩ = some (.slice A1 n p1) ∧ w'.cell? ⟨b, o + i * 2 + 1, none⟩ = some (.int .i64 d1) ∧ w'.cell? ⟨b, o + k * 2, none⟩ = some (.slice A2 n p2) ∧ w'.cell? ⟨b, o + k * 2 + 1, none⟩ = some (.int .i64 d2))
                (first | exact ⟨c1, c2, c3, c4⟩ | exact KS.out)
                (first | (go_at_call 58; refine (meet_any n x y d1 d2 F _ _ wo.drew (fun g hg => by have := HF.out g hg; simp; omega) I1.out I2.out hn).mono ?_; rintro e w5 ⟨rfl, hb5⟩; have B5 : Hid (Below wo.heap.size wo w5) := (Below.refl _ wo).drew.trans hb5; have KS : Hid (w5.cell? ⟨b, o + i * 2, none⟩ = some (.slice A1 n p1) ∧ w5.cell? ⟨b, o + i * 2 + 1, none⟩ = some (.int .i64 d1) ∧ w5.cell? ⟨b, o + k * 2, none⟩ = some (.slice A2 n p2) ∧ w5.cell? ⟨b, o + k * 2 + 1, none⟩ = some (.int .i64 d2)) := ⟨(B5.out.cell (p := ⟨b, o + i * 2, none⟩) (by omega)).trans c1, (B5.out.cell (p := ⟨b, o + i * 2 + 1, none⟩) (by omega)).trans c2, (B5.out.cell (p := ⟨b, o + k * 2, none⟩) (by omega)).trans c3, (B5.out.cell (p := ⟨b, o + k * 2 + 1, none⟩) (by omega)).trans c4⟩; rw [NC'.out]))
              all_goals
                go_wp2_with fail
                go_meet
                exact ⟨rfl, B5⟩
          case rest =>
          obtain ⟨rfl, B5⟩ := hcut
          obtain ⟨w5, rfl⟩ : ∃ w5 : World, w5 = wc := ⟨_, rfl⟩
          have B6 := hid (hB'.out.trans (B5.out.mono sB))
          clear c1 c2 c3 c4 B5
          go_wp2_with fail
          go_roundw
          case rel => exact ⟨k + 1, by omega, by go_num, B6⟩
          case measure => simp [intOf]; omega
        · have k1 : ¬ (k : Int) < (l.length : Int) := by omega
          go_wp2_with fail
          go_roundw
          case rel => exact ⟨i + 1, by omega, by go_num, hB'⟩
          case measure => simp [intOf]; omega
    · have i1 : ¬ (i : Int) < (l.length : Int) := by omega
      go_wp2_with fail
      go_ret3
      exact ⟨by rw [errV_no (by decide)]; rfl, hB.out⟩
end Go.Proofs.YtkiljnggphlomaaDoor
