/- What the reference's ClassesOf returns of a right machine: its classes. No conditions beyond that. -/
import Derived.Test.YtfalbffpdgfepaaDoorRcm
import Derived.Test.YtfalbffpdgfepaaDoorDif
namespace Go.Proofs.YtfalbffpdgfepaaDoor
open Go.RowKit Go.Deep
def RclPost (m : MachD) (w : World) (e : Ending) (w' : World) : Prop := ∃ r c, e = .returned r ∧ ClassOf m c ∧ IntsIn .i64 (Fresh w w') w' r c ∧ Below w.heap.size w w'
set_option maxRecDepth 100000 in
set_option maxHeartbeats 4000000 in
theorem rclasses_ok (m : MachD) (F : Nat → Prop) (u : Value) (w : World) (hF : ∀ b, F b → b < w.heap.size) (hu : MachIn F w u m) (g : Good m) :
    Calls Tryd.prog 26 #[u] w (RclPost m w) := by
  have HF := hid hF
  have HA := hid hu
  have G := hid g
  obtain ⟨ao, an, rfl, ⟨A1, c1, rfl, la, _⟩, ⟨A2, c2, rfl, _, _⟩⟩ := hu
  have g1 := g.pos
  have g2 := g.le
  obtain ⟨i0, hi0, hz0, hz1, hz2⟩ := info_parts infoInt
  unfold maxLen at la
  clear hF g
  go_enter Tryd.func26, Tryd.ntmps26
  go_wp2_with fail
  refine (differ_ok m m 8 F _ _ _ (fun b hb => by have := HF.out b hb; simp; omega) (HA.out.keep (fun b hb => Below.heap_alloc _ _ _ (HF.out b hb))) (HA.out.keep (fun b hb => Below.heap_alloc _ _ _ (HF.out b hb))) G.out G.out rfl (by omega)).mono ?_
  rintro e w3 ⟨r3, rfl, M3, hb3⟩
  have s3 := hb3.size
  simp only [World.size_alloc] at s3
  have B3 : Hid (Below w.heap.size w w3) := ((Below.refl _ _).alloc (Nat.le_refl _) _).trans (hb3.mono (by simp))
  have X3 : Hid (w3.heap[w.heap.size]? = some (.cells #[.slice A1 m.out.length c1, .slice A2 m.next.length c2] 24 (0, 0))) := Has.below (Has.new w _) hb3 (by simp)
  have MM := hid M3
  clear hb3 M3
  go_wp2_with fail
  go_loopw [4, 5] (fun lv iv wr => ∃ (i : Nat) (c : List Int), i ≤ m.out.length ∧ iv = .int .i64 i ∧ Hid (ClsTo m c i) ∧ Hid (wr.ownsRow w3.heap.size 3 1 lv i (c.map (Value.int .i64))) ∧ Hid (Below w3.heap.size w3 wr)) (fun _ iv _ => m.out.length - (intOf iv).toNat)
  case atStart => exact ⟨0, [], Nat.zero_le _, rfl, clsTo_zero, World.ownsRow_nil _ _ _ _, Below.refl _ _⟩
  case round =>
    obtain ⟨i, c, hi, rfl, hC, hO, hB⟩ := hrel
    obtain ⟨wi, rfl⟩ : ∃ wi : World, wi = wr := ⟨_, rfl⟩
    have sB := hB.out.size
    have X4 := Has.below X3.out hB.out (by omega)
    have x0 := Has.cell X4 0
    simp at x0
    clear X4
    by_cases hlt : i < m.out.length
    · go_wp2_with fail
      clear x0
      go_loop [6] (fun kv => ∃ k : Nat, k ≤ i ∧ kv = .int .i64 k ∧ Hid (∀ j, j < k → df m m 8 j i = true)) (fun kv => i - (intOf kv).toNat)
      case atStart => exact ⟨0, Nat.zero_le _, rfl, fun j hj => by omega⟩
      case round =>
        obtain ⟨k, hk, rfl, hold⟩ := hrel
        have ME := (MM.out.keep (w' := wi) fun b hb => hB.out.block b hb.2).entry (i := k) (k := i) (by omega) hlt
        obtain ⟨b5, o5, c5, b6, o6, c6, rfl, f5, q5, f6, q6⟩ := ME
        obtain ⟨dd, hdd⟩ : ∃ dd, dd = df m m 8 k i := ⟨_, rfl⟩
        rw [← hdd] at q6
        have DE := hid hdd
        clear hdd f5 f6
        cases dd with
        | true =>
          have kn : k < i := by
            by_cases he : k = i
            · subst he
              have := DE.out
              rw [df_self] at this
              cases this
            · omega
          have NX : Hid (∀ j, j < k + 1 → df m m 8 j i = true) := fun j hj => by
            by_cases hjk : j = k
            · subst hjk; exact DE.out.symm
            · exact hold.out j (by omega)
          go_wp2_with fail
          go_round
          case rel => exact ⟨k + 1, by omega, by go_num, NX⟩
          case measure => simp [intOf]; omega
        | false =>
          have CA : Hid (ClsAt m i k) := ⟨hk, DE.out.symm, hold.out⟩
          go_wp2_with (at_builtin; refine wpList_append_own _ rfl _ _ 25 rfl w3.heap.size 3 i0 (.int .i64 0) 1 8 Tryd.underlying25 hi0 hz0 hz1 hz2 rfl (by decide) _ _ _ rfl (hO.out.alloc _) ⟨wi.heap.size, 0, none⟩ 1 1 [.int .i64 (k : Nat)] rfl rfl (one_at _ _ _) (one_int _ _) (by unfold maxLen; omega) (by omega) (by simp; omega) ?_; intro v6 w6 hown6 hgrow6 _; have B6 := hid (((Below.refl w3.heap.size wi).alloc (by omega) _).grown hgrow6 (by simp; omega) (own_ge hO.out)); have O6 := hid hown6; clear hown6 hgrow6 q5 q6)
          go_roundw
          case rel => exact ⟨i + 1, c ++ [(k : Int)], by omega, by go_num, clsTo_snoc hC.out CA.out, by show World.ownsRow _ _ _ _ _ _ _; rw [List.map_append]; exact O6.out, hB.out.trans B6.out⟩
          case measure => simp [intOf]; omega
    · obtain rfl : i = m.out.length := by omega
      have R := hid (ints_of_own hO.out (clsTo_wf hC.out g2))
      go_wp2_with fail
      go_ret
      exact ⟨_, c, rfl, clsTo_all G.out hC.out, R.out.more fun b hb => ⟨by have := hb.1; omega, hb.2⟩, B3.out.trans (hB.out.mono (by omega))⟩
end Go.Proofs.YtfalbffpdgfepaaDoor
