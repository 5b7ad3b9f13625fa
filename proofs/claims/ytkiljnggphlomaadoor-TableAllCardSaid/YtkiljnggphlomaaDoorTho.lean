/- table.Holes of right rules: the tests that none fits. Conditions: rules of bits. -/
import Derived.Test.YtkiljnggphlomaaDoorTck
namespace Go.Proofs.YtkiljnggphlomaaDoor
open Go.RowKit Go.Deep
def noneFits (n : Nat) (l : RuleL) (t : Nat) : Bool := !(l.any fun r => fitB n r.1 t)
def holesL (n : Nat) (l : RuleL) : List Int := filtI (noneFits n l) (2 ^ n)
set_option maxRecDepth 100000 in
set_option maxHeartbeats 1000000 in
theorem holes_any (n : Nat) (l : RuleL) (F : Nat → Prop) (v : Value) (w : World) (hF : ∀ b, F b → b < w.heap.size) (hv : RulesIn n F w v l) (h1n : 1 ≤ n) (hn : n ≤ 6) (hl : l.length ≤ 12) :
    Calls Tryd.prog 25 #[.int .i64 n, v] w fun e w' => ∃ r, e = .returned (.tuple #[r, .nilIface]) ∧ Below w.heap.size w w' ∧ w'.ownsRow w.heap.size 3 1 r (holesL n l).length ((holesL n l).map (Value.int .i64)) := by
  have HF := hid hF
  have HV := hid hv
  obtain ⟨i0, hi, hz0, hz1, hz2⟩ := info_parts infoInt
  obtain ⟨A, c, rfl, _, _⟩ := hv
  obtain ⟨N, hN, N1, N64⟩ := pow_fact hn
  have eN : (2 : Int) ^ n = (N : Int) := by rw [hN]; simp
  have eW : IntKind.i64.wrap (N : Int) = (N : Int) := by rw [IntKind.wrap_i64]; omega
  have HL : Hid (holesL n l = filtI (noneFits n l) N) := by show _ = _; unfold holesL; rw [hN]
  clear hF hN
  go_enter Tryd.func25, Tryd.ntmps25
  go_wp2_with fail
  refine (tcheck_any n l F _ _ HF.out HV.out h1n hn hl).mono ?_
  rintro e w2 ⟨rfl, hb⟩
  have B2 := hid hb
  have V2 := hid (HV.out.keep (Same.of_below hb HF.out))
  have F2 : Hid (∀ b, F b → b < w2.heap.size) := fun b h => Nat.lt_of_lt_of_le (HF.out b h) hb.size
  clear hb
  go_wp2_with fail
  go_loopw [7, 8, 17] (fun ov _ iv wr => ∃ (j : Nat), j ≤ N ∧ iv = .int .i64 j ∧ Hid (wr.ownsRow w2.heap.size 3 1 ov (filtI (noneFits n l) j).length ((filtI (noneFits n l) j).map (Value.int .i64))) ∧ Hid (Below w2.heap.size w2 wr)) (fun _ _ iv _ => N - (intOf iv).toNat)
  case atStart => exact ⟨0, Nat.zero_le _, rfl, World.ownsRow_nil _ _ _ _, Below.refl _ _⟩
  case round =>
    obtain ⟨j, hj, rfl, hO, hB⟩ := hrel
    have sB := hB.out.size
    by_cases hlt : j < N
    · have i1 : (j : Int) < (N : Int) := by omega
      have FL := filtI_len (noneFits n l) j
      obtain ⟨A7, c7, rfl, _, _⟩ := own_sl hO.out
      have BX := hid (hB.out.alloc sB (.cells #[.int .i64 (j : Int)] 3))
      have X := Has.new wr (.cells #[.int .i64 (j : Int)] 3)
      have X0 := hid ((Has.cell X 0).trans rfl)
      have OX := hid (hO.out.alloc (.cells #[.int .i64 (j : Int)] 3))
      have VX := hid (V2.out.keep (Same.of_below BX.out F2.out))
      clear X
      go_wp2_with fail
      have AF := hid (holes1_ask n j wr.heap.size (wr.alloc (.cells #[.int .i64 (j : Int)] 3)) hn (by omega) X0.out)
      refine (rucont_any n j 57 #[.pointer (some ⟨wr.heap.size, 0, none⟩)] l F _ _ (fun b h => by have := F2.out b h; simp; omega) VX.out (Nat.le_refl _) AF.out enter_holes1).mono ?_
      rintro e w3 ⟨rfl, hb⟩
      have s3 := hb.size
      simp only [World.size_alloc] at s3
      have B3 := hid (BX.out.trans (hb.mono (by simp; omega)))
      have c3 : w3.cell? ⟨wr.heap.size, 0, none⟩ = some (.int .i64 j) := (hb.cell (p := ⟨wr.heap.size, 0, none⟩) (by simp)).trans X0.out
      have O3 := hid (own_keep OX.out fun k hk => hb.block k (own_lt OX.out k hk))
      clear hb AF
      cases hx : (l.any fun r => fitB n r.1 j) with
      | false =>
        have E := hid (filtI_yes (p := noneFits n l) (j := j) (by unfold noneFits; rw [hx]; rfl))
        clear hx
        go_wp2_with (at_builtin; refine wpList_app _ rfl _ _ 23 rfl w2.heap.size 3 i0 (.int .i64 0) 1 8 Tryd.underlying23 hi hz0 hz1 hz2 rfl (by decide) _ _ _ rfl (O3.out.alloc _) _ _ 1 [.int .i64 j] rfl (cells_1 _ _ _ (by simp)) (by intro u hu; simp at hu; subst hu; rfl) (by unfold maxLen; omega) (by omega) (by simp; omega) ?_; intro v5 w5 hown5 hgrow5 _; have O5 := hid hown5; have B5 : Hid (Below w2.heap.size w2 w5) := (B3.out.alloc (by omega) _).grown hgrow5 (by simp; omega) (fun k hk => own_ge O3.out k hk); clear hown5 hgrow5)
        go_roundw
        case rel => exact ⟨j + 1, by omega, by go_num, by show World.ownsRow _ _ _ _ _ _ _; rw [E.out]; simpa using O5.out, B5⟩
        case measure => simp [intOf]; omega
      | true =>
        have E := hid (filtI_no (p := noneFits n l) (j := j) (by unfold noneFits; rw [hx]; rfl))
        clear hx
        go_wp2_with fail
        go_roundw
        case rel => exact ⟨j + 1, by omega, by go_num, by show World.ownsRow _ _ _ _ _ _ _; rw [E.out]; exact O3.out, B3⟩
        case measure => simp [intOf]; omega
    · obtain rfl : j = N := by omega
      go_wp2_with fail
      go_ret2
      exact ⟨_, rfl, B2.out.trans (hB.out.mono B2.out.size), by rw [HL.out]; exact own_lo hO.out B2.out.size⟩
end Go.Proofs.YtkiljnggphlomaaDoor
