/- The calls under RngSteps: what rng.New, rng.Next and the law itself return, whatever the seed. No conditions. -/
import Derived.Test.YtcnhccpoakldnaaRows
import Derived.WalkKit
import Derived.WalkSpells
import Derived.WalkLawsBesides
import Derived.Below
import Derived.Deep.RegionWith
import Derived.Deep.CutRange
namespace Go.Proofs.Ytcnhccpoakldnaa
open Go.RowKit
theorem hid {p : Prop} (h : p) : Hid p := h
def mix1 (z c : Int) (d : Int) : Int := IntKind.u64.wrap (bits BinOp.xor IntKind.u64 z (z / c) * d)
def mixF (z : Int) : Int := 
  bits BinOp.xor IntKind.u64 (mix1 (mix1 z 1073741824 13787848793156543929) 134217728 10723151780598845931) ((mix1 (mix1 z 1073741824 13787848793156543929) 134217728 10723151780598845931) / 2147483648)
set_option maxHeartbeats 400000 in
theorem mix_any (z : Int) (w : World) :
    Calls Try.prog 10 #[.int .u64 z] w fun e w' => e = .returned (.int .u64 (mixF z)) ∧ w = w' := by
  go_enter Try.func10, Try.ntmps10
  go_wp2
  go_ret
  exact ⟨rfl, rfl⟩

theorem bcell {W w1 : World} (hb : Below W.heap.size W w1) : (∀ b o, b < W.heap.size → w1.cell? ⟨b, o, none⟩ = W.cell? ⟨b, o, none⟩) ∧ (∀ b o, b < W.heap.size → w1.frozen? ⟨b, o, none⟩ = W.frozen? ⟨b, o, none⟩) :=
  ⟨fun b o h => hb.cell (p := ⟨b, o, none⟩) h, fun b o h => hb.frozen (p := ⟨b, o, none⟩) h⟩

set_option maxHeartbeats 400000 in
theorem next_any (a b c : Int) (hc : IntKind.u64.wrap (a+b) = c) (w : World) :
    Calls Try.prog 6 #[.agg #[.int .u64 a, .int .u64 b]] w fun e w' => e = .returned (.tuple #[.int .u64 (mixF c), .agg #[.int .u64 c, .int .u64 b]]) ∧ Below w.heap.size w w' := by
  go_enter Try.func6, Try.ntmps6
  go_wp2
  clear hc
  go_cut [2] from 10 to 13 (fun x w' => x = .int .u64 (mixF c) ∧ w' = ((w.alloc (Obj.cells #[Value.int IntKind.u64 c, Value.int IntKind.u64 b] 24)).alloc
      (Obj.cells #[Value.int IntKind.u64 c, Value.int IntKind.u64 b] 24)).drew)
  case first =>
    go_region_with (go_at_call 10; refine (mix_any _ _).mono ?_; rintro e w' ⟨rfl, rfl⟩)
    all_goals (go_wp2_with fail; go_meet; exact ⟨rfl, rfl⟩)
  case rest =>
    obtain ⟨rfl, rfl⟩ := hcut
    go_wp2
    refine bodyPost_ret (v := .tuple #[.int .u64 (mixF c), .agg #[.int .u64 c, .int .u64 b]]) (by simp [results, Try.results6, go_sem]) rfl ⟨rfl, ?_⟩
    exact (((Below.refl _ _).alloc (Nat.le_refl _) _).alloc (by simp) _).drew

set_option maxHeartbeats 400000 in
theorem new_any (a : Int) (w : World) :
    Calls Try.prog 7 #[.int .i64 a] w fun e w' => e = .returned (.agg #[.int .u64 (IntKind.u64.wrap a), .int .u64 11400714819323198485]) ∧ Below w.heap.size w w' := by
  go_enter Try.func7, Try.ntmps7
  go_wp2
  refine bodyPost_ret (v := .agg #[.int .u64 (IntKind.u64.wrap a), .int .u64 11400714819323198485]) (by simp [results, Try.results7, go_sem]) rfl ⟨rfl, ?_⟩
  exact ((Below.refl _ _).alloc (Nat.le_refl _) _)

def stF (a b : Int) : Nat → Int
  | 0 => a
  | k + 1 => IntKind.u64.wrap (stF a b k + b)
theorem next_gam (w : World) : Calls Try.prog 6 #[.agg #[.int .u64 0, .int .u64 11400714819323198485]] w fun e w' => e = .returned (.tuple #[.int .u64 (mixF 11400714819323198485), .agg #[.int .u64 11400714819323198485, .int .u64 11400714819323198485]]) ∧ Below w.heap.size w w' := next_any _ _ _ (by decide) _
theorem new_zero (w : World) : Calls Try.prog 7 #[.int .i64 0] w fun e w' => e = .returned (.agg #[.int .u64 0, .int .u64 11400714819323198485]) ∧ Below w.heap.size w w' := new_any _ _
def capK (n : Int) : Nat := (max 0 (min n 30)).toNat
theorem capK_le (n : Int) : capK n ≤ 30 := by unfold capK; omega
theorem stF_wrap (a b : Int) (h : IntKind.u64.wrap a = a) : ∀ k, IntKind.u64.wrap (stF a b k) = stF a b k
  | 0 => h
  | k + 1 => by simp only [stF, IntKind.wrap_u64]; omega
theorem stF_eq (a b : Int) (h : IntKind.u64.wrap a = a) : ∀ k : Nat, stF a b k = IntKind.u64.wrap (a + IntKind.u64.wrap (k * b))
  | 0 => by simp only [stF, IntKind.wrap_u64] at *; simp; omega
  | k + 1 => by
    have ih := stF_eq a b h k
    simp only [stF, ih, IntKind.wrap_u64]
    have e : (((k + 1 : Nat) : Int) * b) = (k : Int) * b + b := by rw [Int.natCast_add, Int.add_mul]; simp
    rw [e]
    omega
theorem next_st (a b : Int) (k : Nat) (w : World) : Calls Try.prog 6 #[.agg #[.int .u64 (stF a b k), .int .u64 b]] w fun e w' => e = .returned (.tuple #[.int .u64 (mixF (stF a b (k+1))), .agg #[.int .u64 (stF a b (k+1)), .int .u64 b]]) ∧ Below w.heap.size w w' := next_any _ _ _ rfl _
theorem Has.cell {w : World} {g : Nat} {t : TypeId} {cs : Array Value} (h : w.heap[g]? = some (.cells cs t (0, 0))) (i : Nat) : w.cell? ⟨g, i, none⟩ = cs[i]? := cell_of_row w g i cs t (0, 0) h
theorem Has.froz {w : World} {g : Nat} {t : TypeId} {cs : Array Value} (h : w.heap[g]? = some (.cells cs t (0, 0))) (i : Nat) : w.frozen? ⟨g, i, none⟩ = false := by
  simp [World.frozen?, h]
theorem Has.lt {w : World} {g : Nat} {o : Obj} (h : w.heap[g]? = some o) : g < w.heap.size := by
  rcases Nat.lt_or_ge g w.heap.size with hlt | hge
  · exact hlt
  · rw [Array.getElem?_eq_none hge] at h; cases h
theorem Has.new (w : World) (o : Obj) : (w.alloc o).heap[w.heap.size]? = some o := heap_alloc_new w _
theorem Has.newAt {g : Nat} (w : World) (o : Obj) (h : g = w.heap.size) : (w.alloc o).heap[g]? = some o := by subst h; exact heap_alloc_new w _
theorem Has.alloc {w : World} {g : Nat} {o : Obj} (h : w.heap[g]? = some o) (o' : Obj) : (w.alloc o').heap[g]? = some o := (Below.heap_alloc w o' g (Has.lt h)).trans h
theorem Has.set {w : World} {g : Nat} {t : TypeId} {cs : Array Value} (h : w.heap[g]? = some (.cells cs t (0, 0))) (i : Nat) (u : Value) : (w.setCell ⟨g, i, none⟩ u).heap[g]? = some (.cells (cs.setIfInBounds i u) t (0, 0)) := by
  simp [World.setCell, Array.getElem?_modify, h]
theorem Has.far {w : World} {g : Nat} {o : Obj} (h : w.heap[g]? = some o) {p : Addr} (hp : g ≠ p.block) (u : Value) : (w.setCell p u).heap[g]? = some o := (Below.heap_setCell w p u g hp).trans h
theorem Has.below {w w' : World} {B g : Nat} {o : Obj} (h : w.heap[g]? = some o) (hb : Below B w w') (hg : g < B) : w'.heap[g]? = some o := (hb.block g hg).trans h
set_option maxHeartbeats 400000 in
theorem law_any (a b n : Int) (ha : IntKind.u64.wrap a = a) (w : World) :
    Calls Try.prog 3 #[.agg #[.int .u64 a, .int .u64 b], .int .i64 n] w fun e w' => e = .returned (.bool true) ∧ Below w.heap.size w w' := by
  have HA := hid ha; clear ha
  go_enter Try.func3, Try.ntmps3
  go_wp2_with (fail)
  refine (new_zero _).mono ?_
  rintro e w1 ⟨rfl, hb1⟩
  obtain ⟨hc1, hf1⟩ := bcell hb1
  have hs1 : w.heap.size < w1.heap.size := by have := hb1.size; simp at this; omega
  go_wp2_with (fail)
  refine (next_gam _).mono ?_
  rintro e w2 ⟨rfl, hb2⟩
  obtain ⟨hc2, hf2⟩ := bcell hb2
  have hs2 : w.heap.size < w2.heap.size := by have := hb2.size; omega
  have hB2 : Below w.heap.size w w2 := ((((Below.refl _ _).alloc (Nat.le_refl _) _).trans (hb1.mono (by simp))).trans (hb2.mono (by omega)))
  go_upto_region 3 with fail
  go_cut [8] from 22 to 24 (fun x w' => x = .int .i64 (capK n : Nat) ∧ Below w.heap.size w w' ∧ w'.heap[w.heap.size]? = some (.cells #[.int .u64 a, .int .u64 b] 24 (0,0)) ∧ w'.heap[w2.heap.size + 1]? = some (.cells #[.int .u64 a, .int .u64 b] 24 (0,0)))
  case first =>
    go_wp2_with fail
    all_goals (go_meet; exact ⟨by unfold capK; congr 1; omega, (hB2.alloc (by omega) _).alloc (by simp; omega) _, Has.alloc (Has.alloc (Has.below (Has.below (Has.new _ _) hb1 (by simp)) hb2 (by omega)) _) _, Has.newAt _ _ (by simp)⟩)
  case rest =>
    obtain ⟨rfl, hBc, hbs, hbt⟩ := hcut
    have hK := capK_le n
    go_wp2_with fail
    go_loopw [9, 10, 11] (fun i x u wr => ∃ j : Nat, j ≤ capK n ∧ i = .int .i64 j ∧ Below w.heap.size w wr ∧ wr.heap[w.heap.size]? = some (.cells #[.int .u64 a, .int .u64 b] 24 (0,0)) ∧ wr.heap[w2.heap.size + 1]? = some (.cells #[.int .u64 (stF a b j), .int .u64 b] 24 (0,0))) (fun i _ _ _ => capK n - (intOf i).toNat)
    case atStart => exact ⟨0, Nat.zero_le _, rfl, hBc, hbs, hbt⟩
    case round =>
      obtain ⟨j, hj, rfl, hBr, hrs, hrt⟩ := hrel
      clear hbs hbt hBc hc1 hf1 hc2 hf2 hb1 hb2
      have hltT := Has.lt hrt
      have hltS := Has.lt hrs
      have k1 := Has.cell hrs
      have k2 := Has.cell hrt
      have k3 := Has.froz hrs
      have k4 := Has.froz hrt
      have k10 := k1 0
      have k11 := k1 1
      have k20 := k2 0
      have k21 := k2 1
      clear k1 k2
      simp at k10 k11 k20 k21
      by_cases hlt : j < capK n
      · go_wp2_with fail
        refine (next_st _ _ _ _).mono ?_
        rintro e w3 ⟨rfl, hb3⟩
        obtain ⟨hc3, hf3⟩ := bcell hb3
        have hz : w.heap.size < wr.heap.size ∧ w2.heap.size + 1 < wr.heap.size := ⟨by have := hBr.size; omega, hltT⟩
        obtain ⟨hz1, hz2⟩ := hz
        have hz3 : wr.heap.size ≤ w3.heap.size := hb3.size
        have hz4 : w.heap.size < w3.heap.size := by omega
        have hz5 : w2.heap.size + 1 < w3.heap.size := by omega
        go_wp2_with fail
        have q1 := Has.below hrs hb3 hz1
        have q2 := Has.below hrt hb3 hz2
        refine ⟨⟨j + 1, by omega, by go_num, ?_, Has.alloc (Has.far (Has.far q1 (by simp; omega) _) (by simp; omega) _) _, ?_⟩, by simp [intOf]; omega⟩
        · exact (((hBr.trans (hb3.mono (by omega))).setCell (by simp; omega) _).setCell (by simp; omega) _).alloc (by simp; omega) _
        · exact Has.alloc (Has.set (Has.set q2 _ _) _ _) _
      · obtain rfl : j = capK n := by omega
        go_wp2_with fail
        refine (next_st _ _ _ _).mono ?_
        rintro e w3 ⟨rfl, hb3⟩
        have q1 := Has.below hrs hb3 hltS
        have q2 := Has.below hrt hb3 hltT
        have hs3 := hb3.size
        have hB3 : Below w.heap.size w w3 := hBr.trans (hb3.mono (by omega))
        have j10 := Has.cell q1 0
        have j11 := Has.cell q1 1
        have j20 := Has.cell q2 0
        have j21 := Has.cell q2 1
        clear k10 k11 k20 k21 hrs hrt
        simp at j10 j11 j20 j21
        have p1 := Has.lt q1
        have p2 := Has.lt q2
        go_wp2_with fail
        have E := stF_eq a b HA.out (capK n)
        have E2 : IntKind.u64.wrap (IntKind.u64.wrap (a + IntKind.u64.wrap ((capK n : Nat) * b)) + b) = stF a b (capK n + 1) := by rw [← E]; rfl
        refine (next_any _ _ _ E2 _).mono ?_
        clear E2
        have HE := hid E
        clear E
        rintro e w4 ⟨rfl, hb4⟩
        have hs4 := hb4.size
        simp only [World.size_alloc] at hs4
        have r1 := Has.below (Has.alloc q1 _) hb4 (by simp; omega)
        have r2 := Has.below (Has.alloc q2 _) hb4 (by simp; omega)
        have hB4 : Below w.heap.size w w4 := (hB3.alloc (by omega) _).trans (hb4.mono (by simp; omega))
        clear j10 j11 j20 j21 q1 q2
        have j10 := Has.cell r1 0
        have j11 := Has.cell r1 1
        have j20 := Has.cell r2 0
        have j21 := Has.cell r2 1
        simp at j10 j11 j20 j21
        have p3 := Has.lt r1
        have p4 := Has.lt r2
        have T1 : (mixF 11400714819323198485 != 0) = true := by decide +kernel
        have T2 : (stF a b (capK n) == IntKind.u64.wrap (a + IntKind.u64.wrap (↑(capK n) * b))) = true := by rw [HE.out]; simp
        have T3 : (mixF (stF a b (capK n + 1)) == mixF (stF a b (capK n + 1))) = true := by simp
        have T4 : (b == b) = true := by simp
        go_wp2_with fail
        go_ret
        exact ⟨rfl, hB4.alloc (by omega) _⟩
end Go.Proofs.Ytcnhccpoakldnaa
