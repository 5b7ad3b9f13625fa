/- What slices.Repeat returns of one number. Condition: at most a thousand times, once at least. -/
import Derived.Test.YtkiljnggphlomaaOwh
import Derived.Laws.CopyOwn
import Derived.Deep.OwnRows
import Derived.Deep.RegionLaw
import Derived.Shelf.Bits.Mul64
namespace Go.Proofs.Ytkiljnggphlomaa
open Go.RowKit Go.Deep Go.Shelf
def layMul_ren : Go.Shelf.Ren := ⟨fun | 212 => 45 | 263 => 48 | 264 => 49 | n => n, fun | 46 => 45 | 51 => 87 | 53 => 90 | 146 => 88 | 148 => 91 | n => n, fun | n => n⟩
theorem layMul : Go.Proofs.Lays.n212 Try.prog layMul_ren := {
  mixed := by kernel_rfl
  f212 := Try.func45.trans (congrArg some (by kernel_rfl))
  f263 := Try.func48.trans (congrArg some (by kernel_rfl))
  f264 := Try.func49.trans (congrArg some (by kernel_rfl))
  t46 := Try.underlying45
  a46 := Try.isAgg45
  z46 := Try.sizeOf45
  v46 := Try.zeroValue45
  t51 := Try.underlying87
  a51 := Try.isAgg87
  z51 := Try.sizeOf87
  v51 := Try.zeroValue87
  t53 := Try.underlying90
  a53 := Try.isAgg90
  z53 := Try.sizeOf90
  v53 := Try.zeroValue90
  t146 := Try.underlying88
  a146 := Try.isAgg88
  z146 := Try.sizeOf88
  v146 := Try.zeroValue88
  t148 := Try.underlying91
  a148 := Try.isAgg91
  z148 := Try.sizeOf91
  v148 := Try.zeroValue91 }
theorem mul_any (x y : Nat) (hx : x < 18446744073709551616) (hy : y < 18446744073709551616) (w : World) :
    Calls Try.prog 45 #[.int .u64 x, .int .u64 y] w fun e w' => e = .returned (.tuple #[.int .u64 ((x * y / 18446744073709551616 : Nat) : Int), .int .u64 ((x * y % 18446744073709551616 : Nat) : Int)]) ∧ w' = w := Any.bits_Mul layMul x y hx hy w
theorem mul_one_ (n : Nat) (hn : n ≤ 1000) (w : World) :
    Calls Try.prog 45 #[.int .u64 1, .int .u64 n] w fun e w' => e = .returned (.tuple #[.int .u64 0, .int .u64 n]) ∧ w' = w := by
  have h := mul_any 1 n (by omega) (by omega) w
  rw [show 1 * n / 18446744073709551616 = 0 by omega, show 1 * n % 18446744073709551616 = n by omega] at h
  exact h
/-- a row of n of which the first m are x -/
def repC (n m : Nat) (x : Int) : List Value := List.replicate m (Value.int .i64 x) ++ List.replicate (n - m) (Value.int .i64 0)
theorem repC_len {n m : Nat} (h : m ≤ n) (x : Int) : (repC n m x).length = n := by unfold repC; simp; omega
theorem repC_all (n : Nat) (x : Int) : repC n n x = (List.replicate n x).map (Value.int .i64) := by unfold repC; simp
theorem repC_at {n m : Nat} {x : Int} {j : Nat} (h : j < m) : (repC n m x)[j]? = some (.int .i64 x) := by
  unfold repC; rw [List.getElem?_append_left (by simpa using h)]; simp [h]
theorem repC_splice {n m k : Nat} {x : Int} (h : m + k ≤ n) : splice (repC n m x) m (List.replicate k (Value.int .i64 x)) = repC n (m + k) x := by
  unfold splice repC
  rw [List.take_append_of_le_length (by simp), List.take_of_length_le (by simp), List.drop_append]
  simp only [List.length_replicate, List.drop_replicate, ← List.append_assoc]
  rw [show m - (m + k) = 0 by omega, show m + k - m = k by omega, show n - m - k = n - (m + k) by omega]
  simp
theorem made_list (z : Value) (n : Nat) : madeCells #[z] n = (List.replicate n z).toArray := by
  apply Array.ext
  · simp [madeCells]
  · intro i h1 h2; simp [madeCells, Nat.mod_one]
def zrow (n : Nat) : Array Value := (List.replicate n (Value.int .i64 0)).toArray
theorem isz : (Try.prog.info? 3).map (·.size) = some 1 := by kernel_rfl
set_option maxRecDepth 100000 in
set_option maxHeartbeats 1000000 in
theorem repeat_any (x : Int) (n : Nat) (h1 : 1 ≤ n) (hn : n ≤ 1000) (g c : Nat) (w : World) (hc : w.cell? ⟨g, 0, none⟩ = some (.int .i64 x)) :
    Calls Try.prog 40 #[.slice (some ⟨g, 0, none⟩) 1 c, .int .i64 n] w fun e w' => e = .returned (.slice (some ⟨w.heap.size, 0, none⟩) n n) ∧ w'.heap[w.heap.size]? = some (.cells ((List.replicate n x).map (Value.int .i64)).toArray 3 (0, 0)) ∧ Below w.heap.size w w' := by
  have lg := cell_lt hc
  have hmk := run_make_row' (P := Try.prog) 22 3 (.int .i64 0) 8 Try.underlying22 infoInt rfl .i64 .i64 n (by omega) (by omega)
  have MO := hid (mul_one_ n hn)
  have e1 : (0 : Int) ≤ (n : Int) := by omega
  have e2 : IntKind.u64.wrap (n : Int) = (n : Int) := by rw [IntKind.wrap_u64]; omega
  have e3 : IntKind.i64.wrap (n : Int) = (n : Int) := by rw [IntKind.wrap_i64]; omega
  have e4 : decide ((9223372036854775807 : Int) < (n : Int)) = false := by simp; omega
  have e5 : IntKind.u64.wrap 1 = 1 := by decide
  go_enter Try.func40, Try.ntmps40
  simp only [made_list] at hmk
  have Z0 : Hid ((w.alloc (.cells (zrow n) 3)).heap[w.heap.size]? = some (.cells (List.replicate n (Value.int .i64 0)).toArray 3 (0, 0))) := Has.new w (.cells (zrow n) 3)
  have B0 := hid ((Below.refl w.heap.size w).alloc (Nat.le_refl _) (.cells (zrow n) 3))
  replace hmk : ∀ w : World, Sem.run Try.prog (Instr.makeSlice 22 (.int .i64 n) (.int .i64 n)) w = .ok (.slice (some ⟨w.heap.size, 0, none⟩) n n) (w.alloc (.cells (zrow n) 3)) := hmk
  have c0 := (B0.out.cell (p := ⟨g, 0, none⟩) lg).trans hc
  have RS := hid (repC_splice (n := n) (m := 0) (k := 1) (x := x) (by omega))
  rw [show repC n 0 x = List.replicate n (Value.int .i64 0) by simp [repC]] at RS
  go_wp2_with (first
    | (go_at_call 45; refine (MO.out _).mono ?_; rintro e w' ⟨rfl, hw⟩; rw [hw])
    | (refine wpList_copy_splice rfl (.tmp 31) (.tmp 32) 22 22 rfl 3 Try.underlying22 isz (some ⟨w.heap.size, 0, none⟩) (some ⟨g, 0, none⟩) n n 1 c rfl rfl w.heap.size 0 (List.replicate n (Value.int .i64 0)) 3 Z0.out (List.replicate 1 (Value.int .i64 x)) (by rw [List.length_replicate]; exact (Nat.min_eq_left h1).symm) (fun _ => ⟨rfl, _, rfl, fun j v hj => by
        match j, hj with
        | 0, hj => simp at hj; subst hj; simpa [Addr.add] using c0⟩) (by simp; omega) (by intro v hv; simp at hv; subst hv; rfl) w.heap.size w B0.out (Nat.le_refl _) ?_; intro w1 HG1 hB1; have HB1 := hid hB1; clear hB1))
  rw [RS.out] at HG1
  clear RS c0 Z0 B0
  go_loopw [8] (fun mv wr => ∃ m : Nat, 1 ≤ m ∧ m ≤ n ∧ mv = .int .i64 m ∧ Hid (wr.heap[w.heap.size]? = some (.cells (repC n m x).toArray 3 (0, 0))) ∧ Hid (Below w.heap.size w wr)) (fun mv _ => n - (intOf mv).toNat)
  case atStart => exact ⟨1, by omega, h1, rfl, HG1, HB1⟩
  case round =>
    obtain ⟨m, hm1, hmn, rfl, hG, hB⟩ := hrel
    by_cases hlt : m < n
    · have i1 : (m : Int) < (n : Int) := by omega
      have u1 : ¬ n = m := by omega
      have u2 : (m : Int) ≤ (n : Int) := by omega
      have L := hid (repC_len hmn x)
      obtain ⟨k, hk⟩ : ∃ k, k = min m (n - m) := ⟨_, rfl⟩
      have k1 : 1 ≤ k ∧ m + k ≤ n := by omega
      have KM : k ≤ m := by omega
      have HK := hid hk
      have RS := hid (repC_splice (n := n) (m := m) (k := k) (x := x) k1.2)
      have e9 : IntKind.i64.wrap ((m : Int) + (k : Int)) = (m : Int) + (k : Int) := by rw [IntKind.wrap_i64]; omega
      clear hk
      go_upto_region 9 with fail
      go_region_law (first
        | (refine step_copy_splice rfl (.tmp 41) (.tmp 44) 22 22 rfl 3 Try.underlying22 isz (some ⟨w.heap.size, m, none⟩) (some ⟨w.heap.size, 0, none⟩) (n - m) (n - m) m n (by simp [Act.eval, Act.put]) (by simp [Act.eval, Act.put]) w.heap.size m (repC n m x) 3 hG.out (List.replicate k (Value.int .i64 x)) (by rw [List.length_replicate]; exact HK.out) (fun _ => ⟨rfl, _, rfl, fun j v hj => by
            have hjk : j < k := by
              rcases Nat.lt_or_ge j k with h | h
              · exact h
              · rw [List.getElem?_eq_none (by simpa using h)] at hj; cases hj
            rw [List.getElem?_replicate, if_pos hjk] at hj
            injection hj with hj
            subst hj
            rw [show (({ block := w.heap.size, off := 0, spot := none } : Addr).add j) = ⟨w.heap.size, j, none⟩ by unfold Addr.add; split <;> simp_all]
            show wr.cell? _ = _
            rw [Has.cell hG.out j]
            simpa using repC_at (n := n) (x := x) (by omega : j < m)⟩) (by rw [L.out, List.length_replicate]; omega) (by intro v hv; rw [List.eq_of_mem_replicate hv]; rfl) w.heap.size w hB.out.drew (Nat.le_refl _) ?_; intro w2 HG2 hB2; have HB2 := hid hB2; clear hB2; rw [List.length_replicate]))
      all_goals
        have HG3 : Hid (w2.heap[w.heap.size]? = some (.cells (repC n (m + k) x).toArray 3 (0, 0))) := by
          have := HG2.out; rw [RS.out] at this; exact this
        go_wp2_with fail
        go_roundw
        case rel => (repeat apply Exists.intro); exact ⟨⟨m + k, by omega, k1.2, by go_num, HG3, HB2⟩, rfl⟩
        case measure => simp [intOf, Act.put]; omega
    · obtain rfl : m = n := by omega
      go_wp2_with fail
      go_ret
      exact ⟨rfl, by have := hG.out; rw [repC_all] at this; exact this, hB.out⟩
end Go.Proofs.Ytkiljnggphlomaa
