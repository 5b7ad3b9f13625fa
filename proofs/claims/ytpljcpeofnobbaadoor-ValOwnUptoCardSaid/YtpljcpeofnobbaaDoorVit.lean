/- strings.IndexAny(s, " )") of texts of at most 8 bytes, whatever the bytes: so of every text of at most 1048576 bytes. No conditions. -/
import Derived.Test.YtpljcpeofnobbaaDoorVir
import Derived.Test.YtpljcpeofnobbaaDoorVis
import Derived.Deep.LoopGhost
namespace Go.Proofs.YtpljcpeofnobbaaDoor
open Go.RowKit Go.Deep
def putIt (w : World) (b : Nat) (s : ByteArray) (p : Nat) : World := { w with heap := w.heap.setIfInBounds b (.stringIter s p) }
theorem putIt_size (w : World) (b : Nat) (s : ByteArray) (p : Nat) : (putIt w b s p).heap.size = w.heap.size := by simp [putIt]
theorem putIt_at {w : World} {b : Nat} {s : ByteArray} {p : Nat} (h : b < w.heap.size) : (putIt w b s p).heap[b]? = some (.stringIter s p) := by
  simp [putIt, h]
theorem putIt_below {W w : World} {s : ByteArray} {p : Nat} (h : Below W.heap.size W w) : Below W.heap.size W (putIt w W.heap.size s p) :=
  ⟨h.os, h.tape, h.output, by rw [putIt_size]; exact h.size, fun k hk => by
    rw [← h.block k hk]
    simp only [putIt]
    rw [Array.getElem?_setIfInBounds_ne (by omega)]⟩
theorem next_at (w : World) (b : Nat) (s : ByteArray) (pos : Nat) (ty : TypeId) (hb : w.heap[b]? = some (.stringIter s pos)) (h : pos < s.size) :
    (Instr.next (.pointer (some ⟨b, 0, none⟩)) true ty).run Tryd.prog w = .ok (.tuple #[.bool true, .int .i64 pos, .int .i32 (Utf8.decode s pos).1]) (putIt w b s (pos + (Utf8.decode s pos).2)) := by
  simp only [Instr.next, getObj, setObj, Sem.run_bind, Sem.run, Result.andThen, h, hb, if_true]
  simp [goInt, putIt]
theorem next_out (w : World) (b : Nat) (s : ByteArray) (pos : Nat) (ty : TypeId) (hb : w.heap[b]? = some (.stringIter s pos)) (h : ¬ pos < s.size) :
    (Instr.next (.pointer (some ⟨b, 0, none⟩)) true ty).run Tryd.prog w = .ok (.tuple #[.bool false]) w := by
  simp only [Instr.next, getObj, setObj, Sem.run_bind, Sem.run, Result.andThen, h, hb, if_false]
  simp
theorem ascii_set (n : Int) (w : World) : Calls Tryd.prog 28 #[.int .i64 n] w fun e w' => e = .returned (.bool (decide (8 < n))) ∧ w' = w := by
  go_enter Tryd.func28, Tryd.ntmps28
  go_wp2
  go_ret
  exact ⟨rfl, rfl⟩
theorem dec_ascii (s : ByteArray) (i : Nat) (hi : i < s.size) (h : (s[i]'hi).toNat < 128) : Utf8.decode s i = ((s[i]'hi).toNat, 1) := by
  have g0 : s.get! i = s[i]'hi := get_at s i hi
  rw [Lib.decode_at, g0, Lib.decodeN, if_pos h]
set_option maxRecDepth 1000000 in
set_option maxHeartbeats 4000000 in
theorem ix_short8 (s : ByteArray) (w : World) (h8 : s.size ≤ 8) :
    Calls Tryd.prog 18 #[.string s, .string ⟨#[32, 41]⟩] w fun e w' => e = .returned (.int .i64 (Lib.indexAny s.data.toList [32, 41])) ∧ Below w.heap.size w w' := by
  have h8z : decide ((8 : Int) < (s.size : Int)) = false := decide_eq_false (by omega)
  go_enter Tryd.func18, Tryd.ntmps18
  go_wp2_with fail
  refine (ascii_set _ _).mono ?_
  rintro e w' ⟨rfl, rfl⟩
  rw [h8z]
  go_wp2_with fail
  go_loopg [9, 10] s.size (fun g _ _ wr => ∃ i : Nat, i + g = s.size ∧ Hid (wr.heap[w'.heap.size]? = some (.stringIter s i)) ∧ Hid (Below w'.heap.size w' wr) ∧ Hid (Lib.NoAny s.data.toList [32, 41] i))
  case atStart => exact ⟨0, by omega, World.iter_heap _ _ _, (Below.refl _ _).alloc (Nat.le_refl _) _, Lib.NoAny.zero _ _⟩
  case round =>
    obtain ⟨i, hig, hI, hB, hN⟩ := hrel
    obtain ⟨wo, hwo⟩ : ∃ wo, wo = wr := ⟨_, rfl⟩
    subst hwo
    by_cases hi : i < s.size
    · have hnx0 := fun ty => next_at wo w'.heap.size s i ty hI.out hi
      have hlt : w'.heap.size < wo.heap.size := by have := hI.out; rcases Nat.lt_or_ge w'.heap.size wo.heap.size with h | h; exact h; rw [Array.getElem?_eq_none h] at this; cases this
      by_cases ha : (s[i]'hi).toNat < 128
      · obtain ⟨x, hx⟩ : ∃ x : UInt8, s[i]'hi = x := ⟨_, rfl⟩
        have hxl : Hid (s.data.toList[i]? = some x) := by show _ = _; rw [← hx]; exact Lib.data_getElem? s i hi
        rw [dec_ascii s i hi ha, hx] at hnx0
        rw [hx] at ha
        obtain ⟨w2, hw2⟩ : ∃ w2, w2 = putIt wo w'.heap.size s (i + 1) := ⟨_, rfl⟩
        have I2 : Hid (w2.heap[w'.heap.size]? = some (.stringIter s (i + 1))) := by show _ = _; rw [hw2]; exact putIt_at hlt
        have B2 : Hid (Below w'.heap.size w' w2) := by show Below _ _ _; rw [hw2]; exact putIt_below hB.out
        have hnx : ∀ ty, (Instr.next (.pointer (some ⟨w'.heap.size, 0, none⟩)) true ty).run Tryd.prog wo = .ok (.tuple #[.bool true, .int .i64 i, .int .i32 (x.toNat : Int)]) w2 := by rw [hw2]; exact hnx0
        clear hnx0 hw2 hx hlt
        have hcon := Lib.contains_iff_indexByte [32, 41] x
        have hback : ((x.toNat : Int)).toNat.toUInt8 = x := by simp
        cases hin : ([32, 41] : List UInt8).contains x
        · rw [hin] at hcon
          have HL : Hid (¬ ((0 : Int) ≤ Lib.indexByte [32, 41] x)) := of_decide_eq_false hcon.symm
          have HIN := hid hin
          clear hcon hin
          go_wp2_with fail
          refine (Tryd.strings_IndexRune_ascii ⟨#[32, 41]⟩ (x.toNat : Int) w2 (by omega) (by omega)).mono ?_
          rintro e w3 ⟨rfl, rfl⟩
          rw [hback]
          have hlt2 := HL.out
          generalize Lib.indexByte (⟨#[32, 41]⟩ : ByteArray).data.toList x = d at hlt2 ⊢
          go_wp2_with fail
          go_roundg (gk - 1)
          case measure => omega
          case rel => exact ⟨i + 1, by omega, I2.out, B2.out, hN.out.succ hxl.out HIN.out⟩
        · rw [hin] at hcon
          have HL := hid (show (0 : Int) ≤ Lib.indexByte [32, 41] x from of_decide_eq_true hcon.symm)
          have HIN := hid hin
          clear hcon hin
          go_wp2_with fail
          refine (Tryd.strings_IndexRune_ascii ⟨#[32, 41]⟩ (x.toNat : Int) w2 (by omega) (by omega)).mono ?_
          rintro e w3 ⟨rfl, rfl⟩
          rw [hback]
          have hge := HL.out
          generalize Lib.indexByte (⟨#[32, 41]⟩ : ByteArray).data.toList x = d at hge ⊢
          go_wp2_with fail
          go_ret
          exact ⟨by rw [Lib.indexAny_hit hN.out hxl.out HIN.out]; rfl, B2.out⟩
      · have ST := step_high s i hi (by omega)
        have NS := hid (noany_step hN.out hi (by omega))
        have RV := hid (rune_valid_at s i)
        have RL := decode_le s i
        obtain ⟨⟨r, wd⟩, hd⟩ : ∃ d, d = Utf8.decode s i := ⟨_, rfl⟩
        rw [← hd] at hnx0 ST NS RV RL
        obtain ⟨t1, t2, t3, _⟩ := ST
        simp only at hnx0 t1 t2 t3 RL
        obtain ⟨w2, hw2⟩ : ∃ w2, w2 = putIt wo w'.heap.size s (i + wd) := ⟨_, rfl⟩
        have I2 : Hid (w2.heap[w'.heap.size]? = some (.stringIter s (i + wd))) := by show _ = _; rw [hw2]; exact putIt_at hlt
        have B2 : Hid (Below w'.heap.size w' w2) := by show Below _ _ _; rw [hw2]; exact putIt_below hB.out
        have L2 : Hid (w'.heap.size < w2.heap.size) := by show _ < _; rw [hw2, putIt_size]; exact hlt
        have hnx : ∀ ty, (Instr.next (.pointer (some ⟨w'.heap.size, 0, none⟩)) true ty).run Tryd.prog wo = .ok (.tuple #[.bool true, .int .i64 i, .int .i32 (r : Int)]) w2 := by rw [hw2]; exact hnx0
        have RN := hid (rune_none (r : Int) w2 (by omega) (by omega) RV.out)
        clear hnx0 hw2 hd hlt ha RV
        go_wp2_with fail
        refine RN.out.mono ?_
        rintro e w3 ⟨rfl, hb⟩
        have I3 := hid ((hb.block _ L2.out).trans I2.out)
        have B3 := hid (B2.out.trans (hb.mono B2.out.size))
        clear hb
        go_wp2_with fail
        go_roundg (gk - wd)
        case measure => omega
        case rel => exact ⟨i + wd, by omega, I3.out, B3.out, NS.out⟩
    · have hnx := fun ty => next_out wo w'.heap.size s i ty hI.out hi
      have hs : i = s.size := by omega
      have E := hid (Lib.indexAny_none (s := s.data.toList) (chars := [32, 41]) (by rw [← Lib.size_eq, ← hs]; exact hN.out))
      go_wp2_with fail
      go_ret
      exact ⟨by rw [E.out]; rfl, hB.out⟩
theorem ix_short : IxShort := fun t w h8 _ => (ix_short8 (strB t) w h8).mono fun _ _ h => by rw [strB_data] at h; exact h
theorem ix_all : IxOk SmallS := ix_small ix_short
end Go.Proofs.YtpljcpeofnobbaaDoor
