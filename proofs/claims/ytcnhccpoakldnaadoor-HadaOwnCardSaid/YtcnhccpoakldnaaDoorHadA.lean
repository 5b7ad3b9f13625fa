/- What hada.Effects returns: the butterflies of the list, of a list of the right length; no list else. No conditions beyond the range of an int. -/
import Derived.Test.YtcnhccpoakldnaaDoorRows
import Derived.Test.YtcnhccpoakldnaaDoorLib
import Derived.WalkLawsBesides
import Derived.BigRegion
import Derived.Deep.QuietTactic
import Derived.BigQuiet
import Derived.Deep.CutRange
import Derived.StillTailTactics
namespace Go.Proofs.YtcnhccpoakldnaaDoor
open Go.RowKit
def z (i s : Nat) : Bool := bits BinOp.and .i64 (i : Int) (s : Int) == 0
def bfl (s : Nat) (x : Nat → Int) (i : Nat) : Nat → Int := fun j => if j = i + s then wrap64 (x i - x (i + s)) else if j = i then wrap64 (x i + x (i + s)) else x j
def inner (s : Nat) (x : Nat → Int) : Nat → Nat → Int
  | 0 => x
  | m + 1 => if z m s then bfl s (inner s x m) m else inner s x m
def stages (n : Nat) (x : Nat → Int) : Nat → Nat → Int
  | 0 => x
  | t + 1 => inner (2 ^ t) (stages n x t) n
def row (n : Nat) (x : Nat → Int) : List Value := (List.range n).map fun j => .int .i64 (x j)
theorem z_lt : ∀ K ≤ 6, ∀ t < K, ∀ i < 2 ^ K, z i (2 ^ t) = true → i + 2 ^ t < 2 ^ K := by decide +kernel
theorem row_get (n : Nat) (x : Nat → Int) (j : Nat) (h : j < n) : (row n x)[j]? = some (.int .i64 (x j)) := by simp [row, h]
theorem row_len (n : Nat) (x : Nat → Int) : (row n x).length = n := by simp [row]
theorem row_set (n : Nat) (x : Nat → Int) (i : Nat) (u : Int) : (row n x).set i (.int .i64 u) = row n (fun j => if j = i then u else x j) := by
  apply List.ext_getElem?
  intro j
  simp only [row, List.getElem?_set, List.getElem?_map, List.length_map, List.length_range]
  by_cases hj : j < n
  · by_cases hij : i = j
    · subst hij; simp [hj]
    · simp [hj, hij, Ne.symm hij]
  · by_cases hij : i = j
    · subst hij; simp [hj]
    · simp [hj, hij]
theorem info3 : (Tryd.prog.info? 3).map (fun i => (i.zero, i.size, i.bytes)) = some (some (.int .i64 0), 1, 8) := by kernel_rfl
theorem row_news {w : World} {b off n : Nat} {x : Nat → Int} (hc : ∀ i, i < n → w.cell? ⟨b, off + i, none⟩ = some (.int .i64 (x i))) : ∀ j u, (row n x)[j]? = some u → w.cell? ⟨b, off + j, none⟩ = some u := by
  intro j u hj
  by_cases hjn : j < n
  · rw [row_get n x j hjn] at hj
    rw [← hj]; exact hc j hjn
  · rw [List.getElem?_eq_none (by rw [row_len]; omega)] at hj; cases hj
theorem row_one (n : Nat) (x : Nat → Int) : ∀ u ∈ row n x, u.oneCell' = true := by
  intro u hu; simp [row] at hu; obtain ⟨j, _, rfl⟩ := hu; rfl
theorem bfl_own {w : World} {base : Nat} {e : TypeId} {g cap n m s : Nat} {y : Nat → Int} (h : w.ownsRow base e 1 (.slice (some ⟨g, 0, none⟩) n cap) n (row n y)) (a b : Int) (hms : m + s < n) (hs : 1 ≤ s) :
    Hid (((w.setCell ⟨g, m, none⟩ (.int .i64 (wrap64 a))).setCell ⟨g, m + s, none⟩ (.int .i64 (wrap64 b))).ownsRow base e 1 (.slice (some ⟨g, 0, none⟩) n cap) n (row n fun j => if j = m + s then wrap64 b else if j = m then wrap64 a else y j)) := by
  have h1 := ((h.stored m (.int .i64 (wrap64 a))).1.stored (m + s) (.int .i64 (wrap64 b))).1
  rw [row_set, row_set] at h1
  exact h1
set_option maxRecDepth 100000 in
set_option maxHeartbeats 400000 in
theorem effects_ok (K : Nat) (zs : List Int) (v : Value) (F : Nat → Prop) (w : World) (hK : K ≤ 6) (hF : ∀ b, F b → b < w.heap.size) (h : IntsIn .i64 F w v zs) (hl : zs.length = 2 ^ K) :
    Calls Tryd.prog 5 #[.int .i64 K, v] w fun e w' => ∃ g cap, e = .returned (.tuple #[.slice (some ⟨g, 0, none⟩) (2 ^ K) cap, .nilIface]) ∧ w.heap.size ≤ g ∧ w'.ownsRow w.heap.size 3 1 (.slice (some ⟨g, 0, none⟩) (2 ^ K) cap) (2 ^ K) (row (2 ^ K) (stages (2 ^ K) (fun j => zs.getD j 0) K)) ∧ Below w.heap.size w w' := by
  obtain ⟨A, c, rfl, hm, hwf, hA⟩ := h
  obtain ⟨b, off, rfl, hb, hc⟩ := hA (by rw [hl]; exact Nat.two_pow_pos K)
  obtain ⟨i0, hi, hz0, hz1, hz2⟩ := info_parts info3
  have hbl := hF b hb
  have hn : 1 ≤ 2 ^ K ∧ 2 ^ K ≤ 64 := ⟨Nat.two_pow_pos K, Nat.le_trans (Nat.pow_le_pow_right (by omega) hK) (by decide)⟩
  obtain ⟨n, hnK⟩ : ∃ n, n = 2 ^ K := ⟨_, rfl⟩
  rw [← hnK] at hl hn ⊢
  have hp : (2 : Int) ^ K = n := by subst hnK; rfl
  have HK := hid hnK
  have X := hid (row_news hc)
  rw [hl] at *
  clear hF hwf hnK hc hm hl
  generalize hx : (fun j => zs.getD j 0) = x at X ⊢
  clear hx
  have e1 : ((n : Int) != n) = false := by simp
  obtain ⟨n1, n2⟩ := hn
  have n3 : (n : Int) ≤ 64 := by omega
  have d1 : decide ((K : Int) < 0) = false := by simp
  have d2 : decide (6 < (K : Int)) = false := by simp; omega
  go_enter Tryd.func5, Tryd.ntmps5
  have own0 := hid (World.ownsRow_lit (e := 3) (size := 1) (base := w.heap.size) w #[] 0 (Nat.le_refl _) (by unfold maxLen; omega) rfl)
  go_wp2_with (at_builtin; go_loud (refine wpList_append_own _ rfl _ _ 22 rfl w.heap.size 3 i0 (.int .i64 0) 1 8 Tryd.underlying22 hi hz0 hz1 hz2 rfl (by decide) _ 0 [] rfl own0.out ⟨b, off, none⟩ n c (row n x) rfl ?c0 ?c1 (row_one _ _) ?c3 ?c4 ?c5 ?_))
  case c0 => simp [row_len]
  case c1 => exact fun j u hj => X.out j u hj
  case c3 => unfold maxLen; omega
  case c4 => omega
  intro v' w1 hown hgrow _
  try simp only [Nat.zero_add, List.nil_append] at hown
  have hb1 : Below w.heap.size w w1 := ((Below.refl _ _).alloc (Nat.le_refl _) _).grown hgrow (by simp) (by intro k hk; simp [Value.ownBlock] at hk; omega)
  obtain ⟨g, cap, rfl, hg1, hg2, hg3, hg4, _⟩ := own_open hown (by omega)
  clear own0 hgrow hg2
  have HO := hid hown
  clear hown
  go_wp2_with fail
  go_loopw [7] (fun st wr => ∃ t, t ≤ K ∧ st = .int .i64 ((2 ^ t : Nat) : Int) ∧ Hid (wr.ownsRow w.heap.size 3 1 (.slice (some ⟨g, 0, none⟩) n cap) n (row n (stages n x t))) ∧ Below w.heap.size w wr) (fun st _ => n - (intOf st).toNat)
  case atStart => exact ⟨0, Nat.zero_le _, rfl, HO, hb1⟩
  case round =>
    obtain ⟨t, ht, rfl, hO, hB⟩ := hrel
    clear HO hb1
    obtain ⟨s, hs⟩ : ∃ s, s = 2 ^ t := ⟨_, rfl⟩
    rw [← hs]
    by_cases hlt : t < K
    · have hsn : s < n := by rw [hs, HK.out]; exact Nat.pow_lt_pow_right (by omega) hlt
      have hs1 : 1 ≤ s := by rw [hs]; exact Nat.two_pow_pos t
      have HS := hid hs
      clear hs
      go_wp2_with fail
      go_loopw [33] (fun i wi => ∃ m, m ≤ n ∧ i = .int .i64 (m : Nat) ∧ Hid (wi.ownsRow w.heap.size 3 1 (.slice (some ⟨g, 0, none⟩) n cap) n (row n (inner s (stages n x t) m))) ∧ Below w.heap.size w wi) (fun i _ => n - (intOf i).toNat)
      case atStart => exact ⟨0, Nat.zero_le _, rfl, hO, hB⟩
      case round =>
        obtain ⟨m, hm, rfl, hOi, hBi⟩ := hrel
        clear hO hB
        by_cases hmn : m < n
        · cases hz : z m s with
          | false =>
            have z1 : (bits BinOp.and .i64 (m : Int) (s : Int) == 0) = false := hz
            have Z := hid hz
            clear hz
            go_wp2_with fail
            go_roundw
            case rel => exact ⟨m + 1, by omega, by go_num, by simpa [inner, Z.out] using hOi, hBi⟩
            case measure => simp [intOf]; omega
          | true =>
            have z1 : (bits BinOp.and .i64 (m : Int) (s : Int) == 0) = true := hz
            have hms : m + s < n := by rw [HK.out]; rw [HS.out] at hz ⊢; exact z_lt K hK t hlt m (by rw [← HK.out]; exact hmn) hz
            have Z := hid hz
            clear hz
            have c1 := (hOi.out.cellAt m (by omega)).trans (row_get n _ m hmn)
            have c2 := (hOi.out.cellAt (m + s) (by omega)).trans (row_get n _ (m + s) hms)
            have f1 := hOi.out.frozenAt m
            have f2 := hOi.out.frozenAt (m + s)
            have i1 : (m : Int) < (n : Int) := by omega
            have i2 : (m : Int) + (s : Int) < (n : Int) := by omega
            have i3 : IntKind.i64.wrap ((m : Int) + (s : Int)) = ((m + s : Nat) : Int) := by rw [IntWalk.i64_in _ (by omega)]; omega
            have i4 : 0 ≤ (m : Int) + (s : Int) := by omega
            have i5 : ((m + s : Nat) : Int) < (n : Int) := by omega
            generalize hy : inner s (stages n x t) m = y at *
            have Y := hid hy
            clear hy
            go_upto_region 13 with fail
            have i6 : ((m : Int) + (s : Int)).toNat = m + s := by omega
            go_region
            have R := bfl_own hOi.out (y m + y (m + s)) (y m - y (m + s)) hms hs1
            go_wp2_with fail
            go_roundw
            case rel => exact ⟨m + 1, by omega, by go_num, by simp only [inner, if_pos Z.out, Y.out, bfl]; exact R, (((hBi.setCell (by simpa using hg1) _).setCell (by simpa using hg1) _).drew)⟩
            case measure => simp [intOf]; omega
        · obtain rfl : m = n := by omega
          go_wp2_with fail
          go_roundw
          case rel => exact ⟨t + 1, by omega, by rw [HS.out, Nat.pow_succ]; go_num, by rw [HS.out] at hOi; exact hOi, hBi⟩
          case measure => simp [intOf]; omega
    · obtain rfl : t = K := by omega
      rw [← HK.out] at hs
      subst hs
      go_wp2_with fail
      go_ret2
      exact ⟨g, cap, rfl, hg1, hO, hB⟩
set_option maxHeartbeats 400000 in
theorem effects_bad (k : Int) (zs : List Int) (v : Value) (F : Nat → Prop) (w : World) (h : IntsIn .i64 F w v zs) (hk : k < 0 ∨ 6 < k) :
    Calls Tryd.prog 5 #[.int .i64 k, v] w fun e w' => e = .returned (.tuple #[.slice none 0 0, .iface 35 (.int .i64 1)]) ∧ w = w' := by
  obtain ⟨A, c, rfl, hm, hwf, hA⟩ := h
  clear hA hwf
  by_cases h0 : k < 0
  · go_enter Tryd.func5, Tryd.ntmps5
    go_wp2
    go_ret2
    exact ⟨rfl, rfl⟩
  · have h6 : 6 < k := by omega
    go_enter Tryd.func5, Tryd.ntmps5
    go_wp2
    go_ret2
    exact ⟨rfl, rfl⟩
set_option maxHeartbeats 400000 in
theorem effects_len (K : Nat) (zs : List Int) (v : Value) (F : Nat → Prop) (w : World) (h : IntsIn .i64 F w v zs) (hk : K ≤ 6) (hl : zs.length ≠ 2 ^ K) :
    Calls Tryd.prog 5 #[.int .i64 K, v] w fun e w' => e = .returned (.tuple #[.slice none 0 0, .iface 35 (.int .i64 3)]) ∧ w = w' := by
  obtain ⟨A, c, rfl, hm, hwf, hA⟩ := h
  clear hA hwf
  have hn : 1 ≤ 2 ^ K ∧ 2 ^ K ≤ 64 := ⟨Nat.two_pow_pos K, Nat.le_trans (Nat.pow_le_pow_right (by omega) hk) (by decide)⟩
  obtain ⟨n, hnK⟩ : ∃ n, n = 2 ^ K := ⟨_, rfl⟩
  rw [← hnK] at hl hn
  have hp : (2 : Int) ^ K = n := by subst hnK; rfl
  have e1 : ((zs.length : Int) != n) = true := by simp; omega
  obtain ⟨n1, n2⟩ := hn
  have n3 : (n : Int) ≤ 64 := by omega
  clear hnK hl
  go_enter Tryd.func5, Tryd.ntmps5
  go_wp2
  go_ret2
  exact ⟨rfl, rfl⟩
end Go.Proofs.YtcnhccpoakldnaaDoor
