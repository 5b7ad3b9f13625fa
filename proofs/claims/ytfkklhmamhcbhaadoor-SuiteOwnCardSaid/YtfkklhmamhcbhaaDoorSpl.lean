/- The statements' own spoil (every number another one), at a list of the call's own. No conditions. -/
import Derived.Test.YtfkklhmamhcbhaaDoorGen
import Derived.Lib.AppendZeros
namespace Go.Proofs.YtfkklhmamhcbhaaDoor
open Go.RowKit
theorem own_slice1 {w : World} {base : Nat} {e : TypeId} {size n : Nat} {v : Value} {xs : List Value} (h : w.ownsRow base e size v n xs) : ∃ A c, v = .slice A n c ∧ n ≤ c ∧ c ≤ maxLen := by
  rcases h.2 with ⟨rfl, rfl⟩ | ⟨g, cap, cur, rfl, hb, hh, hc1, hc2, _⟩
  · exact ⟨none, 0, rfl, Nat.le_refl _, by unfold maxLen; omega⟩
  · exact ⟨_, cap, rfl, hc1, hc2⟩
theorem own_base1 {w : World} {base base' : Nat} {e : TypeId} {size n : Nat} {v : Value} {xs : List Value} (h : w.ownsRow base e size v n xs) (hb : base' ≤ base) : w.ownsRow base' e size v n xs := by
  refine ⟨h.1, ?_⟩
  rcases h.2 with h | ⟨g, cap, cur, rfl, h1, h2⟩
  · exact .inl h
  · exact .inr ⟨g, cap, cur, rfl, by omega, h2⟩
theorem cells_one (w : World) (x : Value) (t : TypeId) : CellsIn (fun b => b = w.heap.size) (w.alloc (.cells #[x] t)) 1 (.slice (some ⟨w.heap.size, 0, none⟩) 1 1) 1 [x] :=
  ⟨_, 1, rfl, rfl, fun _ => ⟨w.heap.size, 0, rfl, rfl, fun j u hj => by
    match j, hj with
    | 0, hj => simp at hj; subst hj; simp⟩⟩
theorem cells_oneAt (w : World) (x : Value) (t : TypeId) {g : Nat} (hg : g = w.heap.size) : CellsIn (fun b => b = g) (w.alloc (.cells #[x] t)) 1 (.slice (some ⟨g, 0, none⟩) 1 1) 1 [x] := by
  subst hg; exact cells_one w x t
theorem own_apart {w1 w2 : World} {B B' s s' n n' : Nat} {e e' : TypeId} {v v' : Value} {xs xs' : List Value} (h : w1.ownsRow B e s v n xs) (h' : w2.ownsRow B' e' s' v' n' xs') (hB : w1.heap.size ≤ B') : v.ownBlock = none ∨ v.ownBlock ≠ v'.ownBlock := by
  cases hv : v.ownBlock with
  | none => exact .inl rfl
  | some g =>
    refine .inr fun e => ?_
    have h1 := own_lt h g hv
    have h2 := own_ge h' g e.symm
    omega
theorem own_apart' {w1 w2 : World} {B B' s s' n n' : Nat} {e e' : TypeId} {v v' : Value} {xs xs' : List Value} (h : w1.ownsRow B e s v n xs) (h' : w2.ownsRow B' e' s' v' n' xs') (hB : w1.heap.size ≤ B') : v'.ownBlock = none ∨ v'.ownBlock ≠ v.ownBlock := by
  cases hv : v'.ownBlock with
  | none => exact .inl rfl
  | some g =>
    refine .inr fun e => ?_
    have h1 := own_lt h g e.symm
    have h2 := own_ge h' g hv
    omega
theorem IntsIn.grown {F : Nat → Prop} {w w' : World} {row : Option Nat} {v : Value} {zs : List Int} (h : IntsIn .i64 F w v zs) (hg : w.grownBy w' row) (hF : ∀ b, F b → b < w.heap.size ∧ some b ≠ row) : IntsIn .i64 F w' v zs :=
  h.keep fun b hb => hg.block b (hF b hb).1 (hF b hb).2
def spoilt (x : Int) (zs : List Int) (j : Nat) : List Int := List.replicate j x ++ zs.drop j
theorem spoilt_zero (x : Int) (zs : List Int) : spoilt x zs 0 = zs := by simp [spoilt]
theorem spoilt_set {x : Int} {zs : List Int} {j : Nat} (h : j < zs.length) : ((spoilt x zs j).map (Value.int .i64)).set j (.int .i64 x) = (spoilt x zs (j + 1)).map (Value.int .i64) := by
  rw [← List.map_set]
  congr 1
  unfold spoilt
  rw [List.set_append_right _ _ (by simp), List.length_replicate, Nat.sub_self, List.drop_eq_getElem_cons h, List.set_cons_zero, List.replicate_succ']
  simp
theorem spoilt_len {x : Int} {zs : List Int} {j : Nat} (h : j ≤ zs.length) : (spoilt x zs j).length = zs.length := by
  unfold spoilt; simp; omega
theorem spoilt_all (x : Int) (zs : List Int) : spoilt x zs zs.length = List.replicate zs.length x := by unfold spoilt; simp
set_option maxRecDepth 100000 in
set_option maxHeartbeats 400000 in
theorem spoil_any (x : Int) (zs : List Int) (B : Nat) (v : Value) (w : World) (hv : w.ownsRow B 3 1 v zs.length (zs.map (Value.int .i64))) (hz : zs.length ≤ 9223372036854775807) :
    Calls Tryd.prog 9 #[v, .int .i64 x] w fun e w' => e = .returned (.tuple #[]) ∧ w'.ownsRow B 3 1 v zs.length ((List.replicate zs.length x).map (Value.int .i64)) ∧ w.grownBy w' v.ownBlock := by
  have H := hid hv
  obtain ⟨A, c, rfl, _, _⟩ := own_slice1 hv
  clear hv
  go_enter Tryd.func9, Tryd.ntmps9
  go_wp2_with fail
  go_loopw [4] (fun iv wr => ∃ j : Nat, j ≤ zs.length ∧ iv = .int .i64 j ∧ Hid (wr.ownsRow B 3 1 (.slice A zs.length c) zs.length ((spoilt x zs j).map (Value.int .i64))) ∧ Hid (w.grownBy wr (Value.slice A zs.length c).ownBlock)) (fun iv _ => zs.length - (intOf iv).toNat)
  case atStart => exact ⟨0, Nat.zero_le _, rfl, by rw [spoilt_zero]; exact H, World.grownBy.refl w _⟩
  case round =>
    obtain ⟨j, hj, rfl, hO, hG⟩ := hrel
    obtain ⟨wo, rfl⟩ : ∃ wo : World, wo = wr := ⟨_, rfl⟩
    by_cases hlt : j < zs.length
    · obtain ⟨g, cap, e, _, hg, _, _, hc⟩ := own_open hO.out (by omega)
      injection e with e1 _ e3
      subst e1 e3
      have c1 := (hO.out.cellAt j (by omega))
      rw [List.getElem?_map, List.getElem?_eq_getElem (by rw [spoilt_len hj]; exact hlt)] at c1
      simp only [Option.map_some] at c1
      have f1 := hO.out.frozenAt j
      have i1 : (j : Int) < (zs.length : Int) := by omega
      have SS := hid (spoilt_set (x := x) hlt)
      clear hc
      go_wp2_with fail
      go_roundw
      case rel =>
        refine ⟨j + 1, by omega, by go_num, ?_, ?_⟩
        · have := (hO.out.stored j (.int .i64 x)).1
          rw [SS.out] at this; exact this
        · have h2 := (hO.out.stored j (.int .i64 x)).2
          have h1 := hG.out
          exact ⟨h2.os.trans h1.os, h2.tape.trans h1.tape, h2.output.trans h1.output, Nat.le_trans h1.size h2.size, fun k hk hne => (h2.block k (by have := h1.size; omega) hne).trans (h1.block k hk hne)⟩
      case measure => simp [intOf]; omega
    · obtain rfl : j = zs.length := by omega
      go_wp2_with fail
      go_end0
      exact ⟨rfl, by rw [← spoilt_all]; exact hO.out, hG.out⟩
theorem spoil_at (x : Int) (zs : List Int) (n B : Nat) (v : Value) (w : World) (hn : zs.length = n) (hv : w.ownsRow B 3 1 v n (zs.map (Value.int .i64))) (hz : n ≤ 9223372036854775807) :
    Calls Tryd.prog 9 #[v, .int .i64 x] w fun e w' => e = .returned (.tuple #[]) ∧ w'.ownsRow B 3 1 v n ((List.replicate n x).map (Value.int .i64)) ∧ w.grownBy w' v.ownBlock := by
  subst hn; exact spoil_any x zs B v w hv hz
end Go.Proofs.YtfkklhmamhcbhaaDoor
