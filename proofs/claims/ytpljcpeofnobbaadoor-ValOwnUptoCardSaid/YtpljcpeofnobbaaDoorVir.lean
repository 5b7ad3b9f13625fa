/- IndexRune(" )", r) of a rune beyond ASCII: -1. No conditions. -/
import Derived.Test.YtpljcpeofnobbaaDoorVix
import Derived.Laws.RangeAny
import Derived.Laws.Runes
import Derived.WalkMore
import Derived.Lib.Small
import Derived.Laws.Strings3
namespace Go.Proofs.YtpljcpeofnobbaaDoor
open Go.RowKit Go.Deep
set_option maxHeartbeats 1000000 in
theorem valid_any (r : Int) (w : World) : Calls Tryd.prog 42 #[.int .i32 r] w fun e w' => e = .returned (.bool (Lib.validRune r)) ∧ w' = w := by
  go_enter Tryd.func42, Tryd.ntmps42
  go_wp2
  all_goals (go_ret; refine ⟨?_, rfl⟩; unfold Lib.validRune; first | (show Ending.returned (.bool true) = _; rw [decide_eq_true (by omega)]) | (show Ending.returned (.bool false) = _; rw [decide_eq_false (by omega)]))
theorem ib_empty (c : Int) (w : World) : Calls Tryd.prog 41 #[.string ByteArray.empty, .int .u8 c] w fun e w' => e = .returned (.int .i64 (-1)) ∧ ∃ q, w' = w.drewN q :=
  (Any.strings_IndexByte { Tryd.lays152 with } ByteArray.empty c w).mono fun _ _ h => ⟨h.1, 0, h.2⟩
set_option maxRecDepth 100000 in
set_option maxHeartbeats 4000000 in
theorem rune_none (r : Int) (w : World) (h0 : 128 ≤ r) (h1 : r ≤ 2147483647) (hv : Lib.validRune r = true) :
    Calls Tryd.prog 27 #[.string ⟨#[32, 41]⟩, .int .i32 r] w fun e w' => e = .returned (.int .i64 (-1)) ∧ Below w.heap.size w w' := by
  have p1 : ¬ r < 128 := by omega
  have p2 : decide (r < 128) = false := decide_eq_false p1
  have p3 : 0 ≤ r := by omega
  have p4 : decide (0 ≤ r) = true := decide_eq_true p3
  by_cases he : r = 65533
  · subst he
    go_enter Tryd.func27, Tryd.ntmps27
    go_wp2_with fail
    clear p1 p2 p3 p4 h0 h1
    go_loopg [5, 6] 2 (fun g _ _ wx => ∃ i : Nat, i + g = 2 ∧ wx = w.iter ⟨#[32, 41]⟩ i)
    case atStart => exact ⟨0, rfl, rfl⟩
    case round =>
      obtain ⟨i, hig, rfl⟩ := hrel
      cases gk with
      | zero =>
        obtain rfl : i = 2 := by omega
        have hnx := run_next_end (P := Tryd.prog) w ⟨#[32, 41]⟩ 2
        go_wp2
        go_ret
        exact ⟨rfl, (Below.refl _ _).alloc (Nat.le_refl _) _⟩
      | succ g =>
        have hi : i = 0 ∨ i = 1 := by omega
        rcases hi with rfl | rfl
        · have hnx := fun ty => run_next_ascii (P := Tryd.prog) w ⟨#[32, 41]⟩ 0 ty (by decide) (by decide)
          go_wp2_with fail
          go_roundg g
          case measure => omega
          case rel => exact ⟨1, by omega, rfl⟩
        · have hnx := fun ty => run_next_ascii (P := Tryd.prog) w ⟨#[32, 41]⟩ 1 ty (by decide) (by decide)
          go_wp2_with fail
          go_roundg g
          case measure => omega
          case rel => exact ⟨2, by omega, rfl⟩
  · have e1 : (r == 65533) = false := by simpa using he
    go_enter Tryd.func27, Tryd.ntmps27
    go_wp2_with fail
    refine (valid_any r _).mono ?_
    rintro e w' ⟨rfl, rfl⟩
    rw [hv]
    have cv := fun w0 : World => run_convert_int_string (P := Tryd.prog) w0 21 9 .i32 r (by kernel_rfl) (by kernel_rfl)
    have uv : Utf8.valid r = true := by simp [Lib.validRune] at hv; simp [Utf8.valid]; omega
    obtain ⟨E, hE⟩ : ∃ E, E = Utf8.encode r := ⟨_, rfl⟩
    have EN := encode_facts r uv h0
    rw [← hE] at cv EN
    obtain ⟨s2, s4, sl⟩ := EN
    have SL := hid sl
    clear sl hE uv hv p1 p2 p3 p4 h0 h1 e1 he
    have hz : E.size = 2 ∨ E.size = 3 ∨ E.size = 4 := by omega
    clear s2 s4
    rcases hz with hz | hz | hz
    · go_wp2_with fail
      go_step3
      go_wp2_with fail
      go_loopw [9, 10] (fun iv _ wr => iv = .int .i64 1 ∧ wr = w') (fun _ _ _ => 0)
      case atStart => exact ⟨rfl, rfl⟩
      case round =>
        obtain ⟨rfl, rfl⟩ := hrel
        have i2 : 1 < E.size := by omega
        have z8 : 128 ≤ (E[1]'i2).toNat := by have := SL.out (by omega); simp only [hz] at this; exact this
        have t1 : ((((⟨#[32, 41]⟩ : ByteArray)[1]'(by decide)).toNat : Int) != ((E[1]'i2).toNat : Int)) = true := by
          rw [show ((⟨#[32, 41]⟩ : ByteArray)[1]'(by decide)).toNat = 41 from rfl]
          simp only [bne_iff_ne, ne_eq]
          omega
        have IB := ib_empty
        clear z8
        go_wp2_with fail
        go_step3
        go_wp2_with fail
        go_quiet (fail)
        go_wp2_with fail
        have W2 : IntKind.i64.wrap 2 = 2 := by decide
        have W3 : (2 : Int).toNat = 2 := rfl
        have Z2 : (⟨#[32, 41]⟩ : ByteArray).size = 2 := rfl
        have Z3 : (⟨#[32, 41]⟩ : ByteArray).extract 2 2 = ⟨#[]⟩ := rfl
        have BD : Hid (Below wr.heap.size wr (wr.drewN nq)) := below_drewN (Below.refl _ _) _
        generalize wr.drewN nq = wz at *
        go_quiet ((go_at_call 41; exact Calls.quiet_of (ib_empty _ _)))
        go_wp2_with fail
        rw [Exit.noGoto_ret]
        simp only [Exit.inBlock]
        go_wp2_with fail
        rw [Exit.noGoto_ret]
        simp only [Exit.inBlock]
        go_ret
        exact ⟨rfl, below_drewN BD.out _⟩
    · go_wp2_with fail
      go_step3
      go_wp2_with fail
      go_loopw [9, 10] (fun iv _ wr => iv = .int .i64 2 ∧ wr = w') (fun _ _ _ => 0)
      case atStart => exact ⟨rfl, rfl⟩
      case round =>
        obtain ⟨rfl, rfl⟩ := hrel
        go_wp2_with fail
        rw [Exit.noGoto_ret]
        go_ret
        exact ⟨rfl, Below.refl _ _⟩
    · go_wp2_with fail
      go_step3
      go_wp2_with fail
      go_loopw [9, 10] (fun iv _ wr => iv = .int .i64 3 ∧ wr = w') (fun _ _ _ => 0)
      case atStart => exact ⟨rfl, rfl⟩
      case round =>
        obtain ⟨rfl, rfl⟩ := hrel
        go_wp2_with fail
        rw [Exit.noGoto_ret]
        go_ret
        exact ⟨rfl, Below.refl _ _⟩
end Go.Proofs.YtpljcpeofnobbaaDoor
