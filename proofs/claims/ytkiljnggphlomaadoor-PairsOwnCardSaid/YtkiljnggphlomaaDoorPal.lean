/- What pairs.all returns: all pairs of levels, in a row of its own. Condition: levels that Check lets pass. -/
import Derived.Test.YtkiljnggphlomaaDoorQud
import Derived.Test.YtkiljnggphlomaaDoorPck
namespace Go.Proofs.YtkiljnggphlomaaDoor
open Go.RowKit Go.Deep
def P1 (l : List Int) (a : Nat) : List Four := (List.range a).flatMap fun a => allA l a
def P2 (l : List Int) (a x : Nat) : List Four := P1 l a ++ (List.range x).flatMap fun x => allX l a x
def P3 (l : List Int) (a x k : Nat) : List Four := P2 l a x ++ (List.range k).flatMap fun k => allB l a x (a + 1 + k)
def P4 (l : List Int) (a x k y : Nat) : List Four := P3 l a x k ++ (List.range y).map fun (y : Nat) => ((a : Int), (x : Int), ((a + 1 + k : Nat) : Int), (y : Int))
theorem P2_zero (l : List Int) (a : Nat) : P2 l a 0 = P1 l a := by simp [P2]
theorem P3_zero (l : List Int) (a x : Nat) : P3 l a x 0 = P2 l a x := by simp [P3]
theorem P4_zero (l : List Int) (a x k : Nat) : P4 l a x k 0 = P3 l a x k := by simp [P4]
theorem P2_all (l : List Int) (a : Nat) : P2 l a (lvl l a) = P1 l (a + 1) := by
  unfold P2 P1; rw [List.range_succ, List.flatMap_append]; simp [allA]
theorem P3_all (l : List Int) (a x : Nat) : P3 l a x (l.length - (a + 1)) = P2 l a (x + 1) := by
  unfold P3 P2; rw [List.range_succ, List.flatMap_append]; simp [allX]
theorem P4_all (l : List Int) (a x k : Nat) : P4 l a x k (lvl l (a + 1 + k)) = P3 l a x (k + 1) := by
  unfold P4 P3; rw [List.range_succ, List.flatMap_append]; simp [allB]
theorem P4_succ (l : List Int) (a x k y : Nat) : P4 l a x k (y + 1) = P4 l a x k y ++ [((a : Int), (x : Int), ((a + 1 + k : Nat) : Int), (y : Int))] := by
  unfold P4; rw [List.range_succ, List.map_append, List.append_assoc]; rfl
theorem P1_all (l : List Int) : P1 l l.length = allP l := rfl
theorem allX_le {l : List Int} (h : LevOk l) (a x : Nat) : (allX l a x).length ≤ 60 := by
  have := flatMap_le (fun k => allB l a x (a + 1 + k)) 5 (List.range (l.length - (a + 1))) (fun k _ => by simp [allB]; exact lvl_le h _)
  unfold allX
  rw [List.length_range] at this
  have h3 : (l.length - (a + 1)) * 5 ≤ 12 * 5 := Nat.mul_le_mul_right 5 (by have := h.len; omega)
  omega
theorem allA_le {l : List Int} (h : LevOk l) (a : Nat) : (allA l a).length ≤ 300 := by
  have := flatMap_le (fun x => allX l a x) 60 (List.range (lvl l a)) (fun k _ => allX_le h _ _)
  unfold allA
  rw [List.length_range] at this
  have h4 : lvl l a * 60 ≤ 5 * 60 := Nat.mul_le_mul_right 60 (lvl_le h a)
  omega
theorem P4_le {l : List Int} (h : LevOk l) (a x k y : Nat) : (P4 l a x k y).length ≤ a * 300 + x * 60 + k * 5 + y := by
  have h1 := flatMap_le (fun a => allA l a) 300 (List.range a) (fun k _ => allA_le h _)
  have h2 := flatMap_le (fun x => allX l a x) 60 (List.range x) (fun k _ => allX_le h _ _)
  have h3 := flatMap_le (fun k => allB l a x (a + 1 + k)) 5 (List.range k) (fun k _ => by simp [allB]; exact lvl_le h _)
  rw [List.length_range] at h1 h2 h3
  unfold P4 P3 P2 P1
  simp only [List.length_append, List.length_map, List.length_range]
  omega
theorem lvl_at {l : List Int} (h : LevOk l) {a : Nat} (ha : a < l.length) : l.getD a 0 = (lvl l a : Int) ∧ lvl l a ≤ 5 := by
  have h1 := h.lo a ha
  have e : l.getD a 0 = at0 l a := rfl
  unfold lvl
  omega
def AllR (w : World) (out : Value) (xs : List Four) (wr : World) : Prop := wr.ownsRow w.heap.size 118 4 out xs.length (qcells xs) ∧ Below w.heap.size w wr
set_option maxRecDepth 100000 in
set_option maxHeartbeats 4000000 in
theorem all_any (l : List Int) (F : Nat → Prop) (v : Value) (w : World) (hF : ∀ b, F b → b < w.heap.size) (hv : IntsIn .i64 F w v l) (hok : LevOk l) :
    Calls Tryd.prog 45 #[v] w fun e w' => ∃ r, e = .returned r ∧ w'.ownsRow w.heap.size 118 4 r (allP l).length (qcells (allP l)) ∧ Below w.heap.size w w' := by
  have HF := hid hF
  obtain ⟨A, c, rfl, h1, _, h3⟩ := hv
  have H3 := hid h3
  have OK := hid hok
  have ln := hok.len
  clear h3 hF h1 hok
  obtain ⟨i0, hi, hz0, hz1, hz2⟩ := info_parts infoQuad
  go_enter Tryd.func45, Tryd.ntmps45
  go_wp2_with fail
  go_loopw [3, 10] (fun out ai wr => ∃ a : Nat, a ≤ l.length ∧ ai = .int .i64 a ∧ Hid (AllR w out (P1 l a) wr)) (fun _ ai _ => l.length - (intOf ai).toNat)
  case atStart => exact ⟨0, Nat.zero_le _, rfl, World.ownsRow_nil _ _ _ _, Below.refl _ _⟩
  case round =>
    obtain ⟨a, ha, rfl, hR⟩ := hrel
    by_cases hlt : a < l.length
    · obtain ⟨b, o, rfl, hb, hc⟩ := H3.out (by omega)
      have HC := hid hc
      have lb := hid (HF.out b hb)
      have c1 := (hR.out.2.cell (p := ⟨b, o + a, none⟩) lb.out).trans (hc a hlt)
      have LA := lvl_at OK.out hlt
      rw [LA.1] at c1
      have la5 := LA.2
      clear hc hb LA
      obtain ⟨na, hna⟩ : ∃ na, na = lvl l a := ⟨_, rfl⟩
      rw [← hna] at c1 la5
      have NA := hid hna
      have i1 : (a : Int) < (l.length : Int) := by omega
      clear hna
      go_wp2_with fail
      go_loopw [3, 17] (fun out xi wr => ∃ x : Nat, x ≤ na ∧ xi = .int .i64 x ∧ Hid (AllR w out (P2 l a x) wr)) (fun _ xi _ => na - (intOf xi).toNat)
      case atStart => exact ⟨0, Nat.zero_le _, rfl, by rw [P2_zero]; exact hR⟩
      case round =>
        clear hR c1
        obtain ⟨x, hx, rfl, hR⟩ := hrel
        by_cases hxt : x < na
        · have i2 : (x : Int) < (na : Int) := by omega
          go_wp2_with fail
          go_loopw [3, 6] (fun out bi wr => ∃ k : Nat, a + 1 + k ≤ l.length ∧ bi = .int .i64 ((a + 1 + k : Nat) : Int) ∧ Hid (AllR w out (P3 l a x k) wr)) (fun _ bi _ => l.length - (intOf bi).toNat)
          case atStart => exact ⟨0, by omega, by go_num, by rw [P3_zero]; exact hR⟩
          case round =>
            clear hR
            obtain ⟨k, hk, rfl, hR⟩ := hrel
            by_cases hkt : a + 1 + k < l.length
            · have c2 := (hR.out.2.cell (p := ⟨b, o + (a + 1 + k), none⟩) lb.out).trans (HC.out (a + 1 + k) hkt)
              have LA := lvl_at OK.out hkt
              rw [LA.1] at c2
              have lb5 := LA.2
              obtain ⟨nb, hnb⟩ : ∃ nb, nb = lvl l (a + 1 + k) := ⟨_, rfl⟩
              rw [← hnb] at c2 lb5
              have NB := hid hnb
              have i3 : ((a + 1 + k : Nat) : Int) < (l.length : Int) := by omega
              obtain ⟨bb, hbb⟩ : ∃ bb, bb = a + 1 + k := ⟨_, rfl⟩
              have HBB := hid hbb
              rw [← hbb] at i3 c2 ⊢
              have hb5 : bb < l.length := by omega
              clear hnb LA hbb
              go_wp2_with fail
              go_loopw [3, 32] (fun out yi wr => ∃ y : Nat, y ≤ nb ∧ yi = .int .i64 y ∧ Hid (AllR w out (P4 l a x k y) wr)) (fun _ yi _ => nb - (intOf yi).toNat)
              case atStart => exact ⟨0, Nat.zero_le _, rfl, by rw [P4_zero]; exact hR⟩
              case round =>
                clear hR c2
                obtain ⟨y, hy, rfl, hR⟩ := hrel
                by_cases hyt : y < nb
                · have i4 : (y : Int) < (nb : Int) := by omega
                  have PL := P4_le OK.out a x k y
                  have sz := hR.out.2.size
                  obtain ⟨m, hm⟩ : ∃ m, m = P4 l a x k y := ⟨_, rfl⟩
                  rw [← hm] at PL
                  have HM := hid hm
                  have ml : m.length ≤ 6000 := by have := HBB.out; omega
                  have O := hid (show wr.ownsRow w.heap.size 118 4 _ m.length (qcells m) by rw [hm]; exact hR.out.1)
                  have B := hid hR.out.2
                  have O2 := hid (O.out.alloc (.cells #[.int .i64 a, .int .i64 x, .int .i64 bb, .int .i64 y] 118))
                  have C2 := hid (cells_4 wr (.int .i64 a) (.int .i64 x) (.int .i64 bb) (.int .i64 y) 118 rfl)
                  clear hR hm PL
                  go_wp2_with (at_builtin; refine wpList_app _ rfl (.tmp 35) (.tmp 41) 41 rfl w.heap.size 118 i0 (.agg #[.int .i64 0, .int .i64 0, .int .i64 0, .int .i64 0]) 4 32 Tryd.underlying41 hi hz0 hz1 hz2 rfl (by decide) _ _ _ rfl O2.out _ _ 1 _ rfl C2.out (by intro u hu; simp at hu; rcases hu with rfl | rfl | rfl | rfl <;> rfl) (by unfold maxLen; omega) (by omega) (by simp; omega) ?_; intro v1 w1 hown hgrow hat; have R1 : Hid (AllR w v1 (P4 l a x k (y + 1)) w1) := ⟨(by rw [P4_succ, ← HBB.out, ← HM.out, List.length_append, qcells_append]; exact hown), (B.out.alloc sz _).grown hgrow (by simp; omega) (own_ge O2.out)⟩; clear hown hgrow hat)
                  go_roundw
                  case rel => exact ⟨y + 1, by omega, by go_num, R1⟩
                  case measure => simp [intOf]; omega
                · obtain rfl : y = nb := by omega
                  go_wp2_with fail
                  go_roundw
                  case rel => exact ⟨k + 1, by have := HBB.out; omega, by rw [HBB.out]; go_num, by rw [← P4_all, ← NB.out]; exact hR⟩
                  case measure => have := HBB.out; simp [intOf]; omega
            · have hke : a + 1 + k = l.length := by omega
              have e : P3 l a x k = P2 l a (x + 1) := by rw [← P3_all, show l.length - (a + 1) = k by omega]
              rw [e] at hR
              have NX := hid hR.out
              have i3 : ((a + 1 + k : Nat) : Int) = (l.length : Int) := by omega
              clear hR
              rw [i3]
              go_wp2_with fail
              go_roundw
              case rel => exact ⟨x + 1, by omega, by go_num, NX⟩
              case measure => simp [intOf]; omega
        · obtain rfl : x = na := by omega
          have e : P2 l a x = P1 l (a + 1) := by rw [← P2_all, ← NA.out]
          rw [e] at hR
          have NX := hid hR.out
          clear hR
          go_wp2_with fail
          go_roundw
          case rel => exact ⟨a + 1, by omega, by go_num, NX⟩
          case measure => simp [intOf]; omega
    · obtain rfl : a = l.length := by omega
      rw [P1_all] at hR
      go_wp2_with fail
      go_ret
      exact ⟨_, rfl, hR.out.1, hR.out.2⟩
end Go.Proofs.YtkiljnggphlomaaDoor
