/- math/bits.OnesCount32: so many bits, 0 for 0 alone. No conditions. -/
import Derived.Test.YtfkklhmamhcbhaaDoorGen
import Derived.Shelf.Small.Bits
import Derived.Laws.BitsAll
namespace Go.Proofs.YtfkklhmamhcbhaaDoor
open Go.RowKit
set_option maxRecDepth 100000 in
theorem pop_fold : (⟨((([0, 1, 1, 2, 1, 2, 2, 3, 1, 2, 2, 3, 2, 3, 3, 4, 1, 2, 2, 3, 2, 3, 3, 4, 2, 3, 3, 4, 3, 4, 4, 5, 1, 2, 2, 3, 2, 3, 3, 4, 2, 3, 3, 4, 3, 4, 4, 5, 2, 3, 3, 4, 3, 4, 4, 5, 3, 4, 4, 5, 4, 5, 5, 6].append [1, 2, 2, 3, 2, 3, 3, 4, 2, 3, 3, 4, 3, 4, 4, 5, 2, 3, 3, 4, 3, 4, 4, 5, 3, 4, 4, 5, 4, 5, 5, 6, 2, 3, 3, 4, 3, 4, 4, 5, 3, 4, 4, 5, 4, 5, 5, 6, 3, 4, 4, 5, 4, 5, 5, 6, 4, 5, 5, 6, 5, 6, 6, 7]).append ([1, 2, 2, 3, 2, 3, 3, 4, 2, 3, 3, 4, 3, 4, 4, 5, 2, 3, 3, 4, 3, 4, 4, 5, 3, 4, 4, 5, 4, 5, 5, 6, 2, 3, 3, 4, 3, 4, 4, 5, 3, 4, 4, 5, 4, 5, 5, 6, 3, 4, 4, 5, 4, 5, 5, 6, 4, 5, 5, 6, 5, 6, 6, 7].append [2, 3, 3, 4, 3, 4, 4, 5, 3, 4, 4, 5, 4, 5, 5, 6, 3, 4, 4, 5, 4, 5, 5, 6, 4, 5, 5, 6, 5, 6, 6, 7, 3, 4, 4, 5, 4, 5, 5, 6, 4, 5, 5, 6, 5, 6, 6, 7, 4, 5, 5, 6, 5, 6, 6, 7, 5, 6, 6, 7, 6, 7, 7, 8])) : List UInt8).toArray⟩ : ByteArray) = Lib.pop8tab := by decide +kernel
theorem ones_zero : ∀ n : Fin 256, Lib.onesCount n.val = 0 ↔ n.val = 0 := by decide +kernel
def ones (x : Nat) : Nat := Lib.onesCount (x / 16777216) + Lib.onesCount (x / 65536 % 256) + Lib.onesCount (x / 256 % 256) + Lib.onesCount (x % 256)
theorem ones_pos {x : Nat} (hx : x < 4294967296) : ones x = 0 ↔ x = 0 := by
  have h1 := ones_zero ⟨x / 16777216, by omega⟩
  have h2 := ones_zero ⟨x / 65536 % 256, by omega⟩
  have h3 := ones_zero ⟨x / 256 % 256, by omega⟩
  have h4 := ones_zero ⟨x % 256, by omega⟩
  simp only [] at h1 h2 h3 h4
  unfold ones
  omega
theorem pop_at {n : Nat} (h : n < 256) : Lib.pop8 (n : Int) = ((Lib.onesCount n : Nat) : Int) ∧ Lib.onesCount n ≤ 8 := ⟨Lib.pop8_eq ⟨n, h⟩, Lib.onesCount_le8 ⟨n, h⟩⟩
theorem and255 {n : Nat} (h : n < 4294967296) : bits .and .u32 (n : Int) 255 = ((n % 256 : Nat) : Int) := by
  have := u32_and_nat n 255 h (by omega)
  rw [show ((255 : Nat) : Int) = 255 from rfl] at this
  rw [this, show 255 = 2 ^ 8 - 1 from rfl, Nat.and_two_pow_sub_one_eq_mod]
set_option maxRecDepth 100000 in
set_option maxHeartbeats 1000000 in
theorem ones_any (x : Nat) (hx : x < 4294967296) (w : World) : Calls Tryd.prog 18 #[.int .u32 (x : Int)] w fun e w' => e = .returned (.int .i64 (ones x : Nat)) ∧ ∃ q, w' = w.drewN q := by
  have E : Hid (ones x = Lib.onesCount (x / 16777216) + Lib.onesCount (x / 65536 % 256) + Lib.onesCount (x / 256 % 256) + Lib.onesCount (x % 256)) := rfl
  have sa : (x : Int) / 16777216 = ((x / 16777216 : Nat) : Int) := by omega
  have sb : (x : Int) / 65536 = ((x / 65536 : Nat) : Int) := by omega
  have sc : (x : Int) / 256 = ((x / 256 : Nat) : Int) := by omega
  have mb := and255 (n := x / 65536) (by omega)
  have mc := and255 (n := x / 256) (by omega)
  have md := and255 (n := x) hx
  obtain ⟨pa, la⟩ := pop_at (n := x / 16777216) (by omega)
  obtain ⟨pb, lb⟩ := pop_at (n := x / 65536 % 256) (by omega)
  obtain ⟨pc, lc⟩ := pop_at (n := x / 256 % 256) (by omega)
  obtain ⟨pd, ld⟩ := pop_at (n := x % 256) (by omega)
  have ba : x / 16777216 < 256 := by omega
  have bb : x / 65536 % 256 < 256 := by omega
  have bc : x / 256 % 256 < 256 := by omega
  have bd : x % 256 < 256 := by omega
  generalize x / 65536 % 256 = b at *
  generalize x / 256 % 256 = c at *
  generalize x % 256 = d at *
  generalize x / 16777216 = a at *
  generalize x / 65536 = b2 at *
  generalize x / 256 = c2 at *
  generalize Lib.onesCount a = na at *
  generalize Lib.onesCount b = nb at *
  generalize Lib.onesCount c = nc at *
  generalize Lib.onesCount d = nd at *
  have ia : (a : Int) ≤ 255 := by omega
  have ib : (b : Int) ≤ 255 := by omega
  have ic : (c : Int) ≤ 255 := by omega
  have id' : (d : Int) ≤ 255 := by omega
  go_enter Tryd.func18, Tryd.ntmps18
  rw [pop_fold]
  go_wp2_with fail
  go_quiet (fail)
  go_wp2_with fail
  go_ret
  exact ⟨by rw [E.out]; push_cast; rfl, _, rfl⟩
end Go.Proofs.YtfkklhmamhcbhaaDoor
