/- What wset.with returns: the words, and one that is not yet among them behind. Condition: the words' header takes at most 2^47 bytes. -/
import Derived.Test.YtkcggmhllijgcaaDoorEql
import Derived.Test.YtkcggmhllijgcaaDoorLsi
namespace Go.Proofs.YtkcggmhllijgcaaDoor
open Go.RowKit
def setAdd (ll : List (List Int)) (r : List Int) : List (List Int) := if r ∈ ll then ll else ll ++ [r]
theorem row_in {ll : List (List Int)} {b : List Int} {j : Nat} (hj : j < ll.length) (h : rowAt ll j = b) : b ∈ ll := by
  rw [← h]; unfold rowAt; rw [List.getD_eq_getElem?_getD, List.getElem?_eq_getElem hj]; exact List.getElem_mem _
theorem row_out {ll : List (List Int)} {b : List Int} (h : ∀ k, k < ll.length → rowAt ll k ≠ b) : b ∉ ll := by
  intro hb
  obtain ⟨i, hi, rfl⟩ := List.getElem_of_mem hb
  apply h i hi
  unfold rowAt; rw [List.getD_eq_getElem?_getD, List.getElem?_eq_getElem hi]; rfl
set_option maxHeartbeats 400000 in
theorem with1_any (a b : List Int) (F : Nat → Prop) (x y : Value) (g : Nat) (w : World) (hx : IntsIn .i64 F w x a) (hy : IntsIn .i64 F w y b) (hg : w.cell? ⟨g, 0, none⟩ = some y) :
    Calls Tryd.prog 51 #[x, .pointer (some ⟨g, 0, none⟩)] w (Quiet w (.bool (decide (a = b)))) := by
  have HX := hid hx
  have HY := hid hy
  obtain ⟨A, c, rfl, _, _, _⟩ := hx
  obtain ⟨B, d, rfl, _, _, _⟩ := hy
  go_enter Tryd.func51, Tryd.ntmps51
  go_wp2_with fail
  refine (equal_any a b F _ _ _ HX.out HY.out).mono ?_
  rintro e w1 ⟨rfl, q, rfl⟩
  go_wp2_with fail
  go_ret
  exact ⟨rfl, q, rfl⟩
def IdxPost (ll : List (List Int)) (b : List Int) (w : World) (e : Ending) (w' : World) : Prop := ∃ n : Int, e = .returned (.int .i64 n) ∧ (0 ≤ n ↔ b ∈ ll) ∧ ∃ q, w' = w.drewN q
set_option maxHeartbeats 400000 in
theorem indexF_any (ll : List (List Int)) (b : List Int) (F : Nat → Prop) (v y : Value) (g : Nat) (w : World) (hv : RowsIn F w v ll) (hy : IntsIn .i64 F w y b) (hg : w.cell? ⟨g, 0, none⟩ = some y) :
    Calls Tryd.prog 46 #[v, .func (Fn.func 51) #[] #[.pointer (some ⟨g, 0, none⟩)]] w (IdxPost ll b w) := by
  obtain ⟨A, c, rfl, h1, h3⟩ := hv
  have H := hid h3
  have HY := hid hy
  have HG := hid hg
  unfold maxLen at h1
  clear h3 hg
  go_enter Tryd.func46, Tryd.ntmps46
  go_wp2_with fail
  go_loopw [8] (fun i wr => ∃ j q : Nat, j ≤ ll.length ∧ i = .int .i64 j ∧ wr = w.drewN q ∧ Hid (∀ k, k < j → rowAt ll k ≠ b)) (fun i _ => ll.length - (intOf i).toNat)
  case atStart => exact ⟨0, 0, Nat.zero_le _, rfl, rfl, fun k hk => by omega⟩
  case round =>
    obtain ⟨j, q, hj, rfl, rfl, hold⟩ := hrel
    by_cases hlt : j < ll.length
    · obtain ⟨b1, o1, rfl, _, hc⟩ := H.out (by omega)
      obtain ⟨r, hr, ir⟩ := hc j hlt
      have hr' : w.cell? ⟨b1, o1 + j, none⟩ = some r := hr
      have IR := hid ir
      have i1 : (j : Int) < (ll.length : Int) := by omega
      clear hc hr ir
      go_wp2_with fail
      refine (with1_any (rowAt ll j) b F _ y g _ (by exact IR.out.keep fun _ _ => rfl) (by exact HY.out.keep fun _ _ => rfl) (by exact HG.out)).mono ?_
      rintro e w1 ⟨rfl, q2, rfl⟩
      by_cases hxy : rowAt ll j = b
      · have D := hid (row_in hlt hxy)
        rw [decide_eq_true hxy]
        clear hxy
        go_wp2_with fail
        go_ret
        exact ⟨j, rfl, ⟨fun _ => D.out, fun _ => by omega⟩, _, rfl⟩
      · have N : Hid (∀ k, k < j + 1 → rowAt ll k ≠ b) := fun k hk => by
          by_cases hkj : k = j
          · subst hkj; exact hxy
          · exact hold.out k (by omega)
        rw [decide_eq_false hxy]
        clear hxy
        go_wp2_with fail
        go_roundw
        case rel => exact ⟨j + 1, q + q2, by omega, by go_num, rfl, N⟩
        case measure => simp [intOf]; omega
    · have D := hid (row_out (ll := ll) (b := b) fun k hk => hold.out k (by omega))
      go_wp2_with fail
      go_ret
      exact ⟨-1, rfl, ⟨fun h => absurd h (by decide), fun h => absurd h D.out⟩, q, rfl⟩
set_option maxHeartbeats 400000 in
theorem containsF_any (ll : List (List Int)) (b : List Int) (F : Nat → Prop) (v y : Value) (g : Nat) (w : World) (hv : RowsIn F w v ll) (hy : IntsIn .i64 F w y b) (hg : w.cell? ⟨g, 0, none⟩ = some y) :
    Calls Tryd.prog 30 #[v, .func (Fn.func 51) #[] #[.pointer (some ⟨g, 0, none⟩)]] w (Quiet w (.bool (decide (b ∈ ll)))) := by
  have HV := hid hv
  have HY := hid hy
  have HG := hid hg
  obtain ⟨A, c, rfl, h1, h3⟩ := hv
  clear h3 hg
  go_enter Tryd.func30, Tryd.ntmps30
  go_wp2_with fail
  refine (indexF_any ll b F _ y g _ HV.out HY.out HG.out).mono ?_
  rintro e w1 ⟨n, rfl, hn, q, rfl⟩
  have D : Hid (decide (0 ≤ n) = decide (b ∈ ll)) := by show _ = _; rw [decide_eq_decide]; exact hn
  clear hn
  go_wp2_with fail
  go_ret
  exact ⟨by rw [← D.out]; rfl, q, rfl⟩
/-- what wset.with makes of a row of the call's own -/
def WithPost (base : Nat) (F : Nat → Prop) (lv : Value) (ll : List (List Int)) (w : World) (e : Ending) (w' : World) : Prop :=
  ∃ v' cs', e = .returned v' ∧ w'.ownsRow base 29 1 v' ll.length cs' ∧ RowCells F w' cs' ll ∧ w.grownBy w' lv.ownBlock ∧ (v'.ownBlock = lv.ownBlock ∨ ∃ g, v'.ownBlock = some g ∧ w.heap.size ≤ g) ∧ RowOwn F w' cs' ll
set_option maxHeartbeats 1000000 in
theorem with_any (base : Nat) (ll : List (List Int)) (r : List Int) (F : Nat → Prop) (lv wv : Value) (cs : List Value) (w : World) (hb : base ≤ w.heap.size) (hF : ∀ b, F b → b < w.heap.size ∧ lv.ownBlock ≠ some b)
    (hown : w.ownsRow base 29 1 lv ll.length cs) (hcs : RowCells F w cs ll) (hr : IntsIn .i64 F w wv r) (hcs2 : RowOwn F w cs ll) (hr2 : OwnIn F w wv r) (hl : ll.length ≤ 1000) :
    Calls Tryd.prog 43 #[lv, wv] w (WithPost base F lv (setAdd ll r) w) := by
  have HF := hid hF
  have HO := hid hown
  have HC := hid hcs
  have HR := hid hr
  have HC2 := hid hcs2
  have HR2 := hid hr2
  clear hcs2 hr2
  obtain ⟨B, d, rfl, _, _, _⟩ := hr
  have RI : Hid (RowsIn (fun b => b < w.heap.size) w lv ll) := rows_of_own hown rfl (hcs.more fun b h => (hF b h).1) fun b _ h => h
  obtain ⟨A, c, rfl, lc, _⟩ := RI.out
  obtain ⟨i1, hi1, hy0, hy1, hy2⟩ := info_parts infoRowL
  unfold maxLen at lc
  clear hF hown hcs
  go_enter Tryd.func43, Tryd.ntmps43
  go_wp2_with fail
  refine (containsF_any ll r (fun b => b < w.heap.size) _ (.slice B r.length d) w.heap.size _ (RI.out.keep fun b h => Below.heap_alloc _ _ _ h) ((HR.out.more fun b h => (HF.out b h).1).keep fun b h => Below.heap_alloc _ _ _ h) (by simp)).mono ?_
  rintro e w1 ⟨rfl, q, rfl⟩
  have GB : Hid (w.grownBy ((w.alloc (.cells #[.slice B r.length d] 29)).drewN q) (Value.slice A ll.length c).ownBlock) := ⟨rfl, rfl, rfl, by simp, fun k hk _ => Below.heap_alloc _ _ _ hk⟩
  by_cases hin : r ∈ ll
  · have SA : Hid (setAdd ll r = ll) := by show _ = _; unfold setAdd; rw [if_pos hin]
    rw [decide_eq_true hin]
    clear hin
    go_wp2_with fail
    go_ret
    refine ⟨_, cs, rfl, ?_, ?_, GB.out, .inl rfl, ?_⟩
    · rw [SA.out]; exact own_keep HO.out fun k hk => Below.heap_alloc _ _ _ (own_lt HO.out k hk)
    · rw [SA.out]; exact HC.out.keep fun b h => Below.heap_alloc _ _ _ (HF.out b h).1
    · rw [SA.out]; exact HC2.out.keep fun b h => Below.heap_alloc _ _ _ (HF.out b h).1
  · have SA : Hid (setAdd ll r = ll ++ [r]) := by show _ = _; unfold setAdd; rw [if_neg hin]
    rw [decide_eq_false hin]
    have O1 : Hid (((w.alloc (.cells #[.slice B r.length d] 29)).drewN q).ownsRow base 29 1 (.slice A ll.length c) ll.length cs) := own_keep HO.out fun k hk => Below.heap_alloc _ _ _ (own_lt HO.out k hk)
    clear hin
    go_wp2_with (at_builtin; refine wpList_app _ rfl _ _ 22 rfl base 29 i1 (.slice none 0 0) 1 24 Tryd.underlying22 hi1 hy0 hy1 hy2 rfl (by decide) _ ll.length cs rfl (O1.out.alloc _) _ _ 1 [.slice B r.length d] rfl (cells_oneAt _ _ _ (by simp)) (by intro u hu; simp at hu; subst hu; rfl) (by unfold maxLen; omega) (by omega) (by simp; omega) ?_; intro v5 w5 hown5 hgrow5 hat5)
    go_ret
    have s5 := hgrow5.size
    simp at s5
    have SMF : Same F w w5 := fun b h => (hgrow5.block b (by have := (HF.out b h).1; simp; omega) (fun e => (HF.out b h).2 e.symm)).trans ((Below.heap_alloc _ _ _ (by have := (HF.out b h).1; simp; omega)).trans (Below.heap_alloc _ _ _ (HF.out b h).1))
    refine ⟨v5, _, rfl, by rw [SA.out, List.length_append]; exact hown5, ?_, ⟨hgrow5.os, hgrow5.tape, hgrow5.output, by omega, fun k hk hne => ?_⟩, ?_, by rw [SA.out]; exact (HC2.out.keep SMF).snoc (by have := HO.out.1; simpa using this) (HR2.out.keep SMF)⟩
    · rw [SA.out]
      exact (HC.out.keep SMF).snoc (by have := HO.out.1; simpa using this) (HR.out.keep SMF)
    · exact (hgrow5.block k (by simp; omega) hne).trans ((Below.heap_alloc _ _ _ (by simp; omega)).trans (Below.heap_alloc _ _ _ hk))
    · rcases hat5 with h | h
      · exact .inl h
      · exact .inr ⟨_, h, by simp; omega⟩
end Go.Proofs.YtkcggmhllijgcaaDoor
