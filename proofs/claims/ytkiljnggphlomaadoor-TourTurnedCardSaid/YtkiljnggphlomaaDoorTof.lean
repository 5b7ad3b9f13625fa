/- What tour.Off returns. No conditions. -/
import Derived.Test.YtkiljnggphlomaaDoorTrm
import Derived.Test.YtkiljnggphlomaaDoorFck
import Derived.Test.YtkiljnggphlomaaDoorOwh
import Derived.Deep.OwnRows
namespace Go.Proofs.YtkiljnggphlomaaDoor
open Go.RowKit Go.Deep
def rowF (N : Nat) (f : Nat → Int) : List Int := (List.range N).map f
theorem rowF_len (N : Nat) (f : Nat → Int) : (rowF N f).length = N := by simp [rowF]
theorem rowF_get {N : Nat} {f : Nat → Int} {i : Nat} (hi : i < N) : (rowF N f)[i]? = some (f i) := by simp [rowF, hi]
theorem rowF_congr {N : Nat} {f g : Nat → Int} (h : ∀ i, i < N → f i = g i) : rowF N f = rowF N g := by
  unfold rowF; exact List.map_congr_left fun i hi => h i (by simpa using hi)
theorem rowF_set (N : Nat) (f : Nat → Int) (a : Nat) (x : Int) : (rowF N f).set a x = rowF N fun i => if i = a then x else f i := by
  apply List.ext_getElem?
  intro i
  rw [List.getElem?_set]
  by_cases hi : i < N
  · rw [rowF_get hi, rowF_get hi]
    by_cases e : a = i
    · subst e; simp [rowF_len, hi]
    · rw [if_neg e, if_neg fun h => e h.symm]
  · rw [List.getElem?_eq_none (by rw [rowF_len]; omega), List.getElem?_eq_none (by rw [rowF_len]; omega)]
    by_cases e : a = i
    · subst e; simp [rowF_len, hi]
    · simp [e]
theorem outN_take {l : EdgeL} {j : Nat} (hj : j < l.length) (i : Nat) : outN (l.take (j + 1)) i = outN (l.take j) i + (if (eAt l j).1 = (i : Int) then 1 else 0) := by
  unfold outN
  rw [take_eAt hj, List.filter_append, List.length_append]
  by_cases h : (eAt l j).1 = (i : Int) <;> simp [h]
theorem inN_take {l : EdgeL} {j : Nat} (hj : j < l.length) (i : Nat) : outN (turn (l.take (j + 1))) i = outN (turn (l.take j)) i + (if (eAt l j).2 = (i : Int) then 1 else 0) := by
  rw [outN_turn, outN_turn, take_eAt hj, List.filter_append, List.length_append]
  by_cases h : (eAt l j).2 = (i : Int) <;> simp [h]
theorem off_take {l : EdgeL} {j : Nat} (hj : j < l.length) (i : Nat) : offAt (l.take (j + 1)) i = offAt (l.take j) i + (if (eAt l j).1 = (i : Int) then 1 else 0) - (if (eAt l j).2 = (i : Int) then 1 else 0) := by
  unfold offAt
  rw [outN_take hj, inN_take hj]
  split <;> split <;> omega
theorem off_small (l : EdgeL) (i : Nat) : -(l.length : Int) ≤ offAt l i ∧ offAt l i ≤ l.length := by
  unfold offAt
  have h1 : outN l i ≤ l.length := List.length_filter_le _ _
  have h2 : outN (turn l) i ≤ l.length := by rw [outN_turn]; exact List.length_filter_le _ _
  omega
def offL (N : Nat) (l : EdgeL) : List Int := rowF N (offAt l)
structure FlowOk (n : Int) (l : EdgeL) : Prop where
  lo : 1 ≤ n
  hi : n ≤ 12
  le : l.length ≤ 30
  rg : ∀ e ∈ l, (0 ≤ e.1 ∧ e.1 < n) ∧ 0 ≤ e.2 ∧ e.2 < n
theorem flow_ok {n : Int} {l : EdgeL} (h : flowC n l = 0) : FlowOk n l := by
  unfold flowC at h
  split at h
  · simp at h
  · split at h
    · simp at h
    · rename_i h1 h2
      unfold edgesC at h
      split at h
      · simp at h
      · rename_i h3
        rw [Bool.not_eq_true, List.any_eq_false] at h3
        refine ⟨by omega, by omega, by omega, fun e he => ?_⟩
        have := h3 e he
        simp at this
        omega
def OffPost (W : World) (n : Int) (l : EdgeL) (e : Ending) (w' : World) : Prop :=
  Below W.heap.size W w' ∧ ((flowC n l ≠ 0 ∧ e = .returned (.tuple #[.slice none 0 0, errV (flowC n l)])) ∨
    (flowC n l = 0 ∧ ∃ r, e = .returned (.tuple #[r, .nilIface]) ∧ w'.ownsRow W.heap.size 3 1 r n.toNat ((offL n.toNat l).map (Value.int .i64))))
set_option maxRecDepth 100000 in
set_option maxHeartbeats 2000000 in
theorem toff_any (n : Int) (l : EdgeL) (F : Nat → Prop) (v : Value) (w : World) (hF : ∀ b, F b → b < w.heap.size) (hv : EdgesIn F w v l) :
    Calls Tryd.prog 22 #[.int .i64 n, v] w (OffPost w n l) := by
  have HF := hid hF
  have HV := hid hv
  obtain ⟨A, c, rfl, hl, _, h3⟩ := hv
  have H3 := hid h3
  clear hF h3 hl
  by_cases hc : flowC n l = 0
  · have OK := hid (flow_ok hc)
    have HC := hid hc
    have n1 := OK.out.lo
    have n2 := OK.out.hi
    have ll := OK.out.le
    obtain ⟨N, rfl⟩ : ∃ N : Nat, n = N := ⟨n.toNat, by omega⟩
    have hmk := run_make_row' (P := Tryd.prog) 23 3 (.int .i64 0) 8 Tryd.underlying23 infoInt rfl .i64 .i64 N (by omega) (by omega)
    clear hc
    go_enter Tryd.func22, Tryd.ntmps22
    go_wp2_with fail
    refine (fcheck_any (N : Int) l F _ w HF.out HV.out).mono ?_
    rintro e w1 ⟨rfl, hb⟩
    rw [HC.out, errV_0]
    have B1 := hid hb
    have s1 := hb.size
    have O1 : Hid ((w1.alloc (.cells (madeCells #[.int .i64 0] N) 3)).ownsRow w.heap.size 3 1 (.slice (some ⟨w1.heap.size, 0, none⟩) N N) N ((offL N (l.take 0)).map (Value.int .i64))) := by
      have h := World.ownsRow_lit (e := 3) (size := 1) (base := w.heap.size) w1 (madeCells #[.int .i64 0] N) N s1 (by unfold maxLen; omega) (by simp [size_madeCells])
      rw [toList_madeCells_one] at h
      have e : (offL N (l.take 0)).map (Value.int .i64) = List.replicate N (Value.int .i64 0) := by
        unfold offL rowF
        rw [List.map_map]
        apply List.ext_getElem (by simp)
        intro i h1 h2
        simp [offAt, outN, turn]
      show World.ownsRow _ _ _ _ _ _ _
      rw [e]; exact h
    have B2 := hid (B1.out.alloc s1 (.cells (madeCells #[.int .i64 0] N) 3))
    have L1 : Hid (w.heap.size ≤ w1.heap.size ∧ w1.heap.size < (w1.alloc (.cells (madeCells #[.int .i64 0] N) 3)).heap.size) := ⟨s1, by simp⟩
    clear hb
    go_wp2_with fail
    obtain ⟨r, hr⟩ : ∃ r, r = w1.heap.size := ⟨_, rfl⟩
    rw [← hr] at O1 ⊢
    have rge : w.heap.size ≤ r := by omega
    clear hmk hr
    go_loopw [20] (fun ji wr => ∃ j : Nat, j ≤ l.length ∧ ji = .int .i64 j ∧ Hid (wr.ownsRow w.heap.size 3 1 (.slice (some ⟨r, 0, none⟩) N N) N ((offL N (l.take j)).map (Value.int .i64))) ∧ Hid (Below w.heap.size w wr)) (fun ji _ => l.length - (intOf ji).toNat)
    case atStart => exact ⟨0, Nat.zero_le _, rfl, O1, B2⟩
    case round =>
      clear O1 B1 B2 L1
      obtain ⟨j, hj, rfl, hO, hB⟩ := hrel
      have sB := hB.out.size
      by_cases hlt : j < l.length
      · obtain ⟨b, o, rfl, hb, hcc⟩ := H3.out (by omega)
        have lb := HF.out b hb
        have c1 := (hB.out.cell (p := ⟨b, o + j * 2, none⟩) lb).trans (hcc j hlt).1
        have c2 := (hB.out.cell (p := ⟨b, o + j * 2 + 1, none⟩) lb).trans (hcc j hlt).2
        have i1 : (j : Int) < (l.length : Int) := by omega
        have RG := OK.out.rg _ (eAt_mem hlt)
        have TK := hid (fun i => off_take hlt i)
        have SM := hid (fun i => off_small (l.take j) i)
        have TL : Hid ((l.take j).length ≤ 30) := by show _ ≤ _; rw [List.length_take]; omega
        generalize hx : eAt l j = ee at c1 c2 RG TK
        obtain ⟨x, y⟩ := ee
        simp only [] at c1 c2 RG
        obtain ⟨a, rfl⟩ : ∃ a : Nat, x = a := ⟨x.toNat, by omega⟩
        obtain ⟨d, rfl⟩ : ∃ d : Nat, y = d := ⟨y.toNat, by omega⟩
        have aN : a < N := by omega
        have dN : d < N := by omega
        have j1 : (a : Int) < (N : Int) := by omega
        have j2 : (d : Int) < (N : Int) := by omega
        clear hcc hx RG
        obtain ⟨wo, hwo⟩ : ∃ wo, wo = wr := ⟨_, rfl⟩
        subst hwo
        obtain ⟨wa, hwa⟩ : ∃ wa, wa = wo.alloc (.cells #[.int .i64 (a : Int), .int .i64 (d : Int)] 32) := ⟨_, rfl⟩
        have OA : Hid (wa.ownsRow w.heap.size 3 1 (.slice (some ⟨r, 0, none⟩) N N) N ((offL N (l.take j)).map (Value.int .i64))) := by show World.ownsRow _ _ _ _ _ _ _; rw [hwa]; exact hO.out.alloc _
        have BA : Hid (Below w.heap.size w wa) := by show Below _ _ _; rw [hwa]; exact hB.out.alloc sB _
        have E := Has.new wo (.cells #[.int .i64 (a : Int), .int .i64 (d : Int)] 32)
        rw [← hwa] at E
        have e0 := (Has.cell E 0).trans rfl
        have e1 := (Has.cell E 1).trans rfl
        have rne : r ≠ wo.heap.size := by have := own_lt hO.out r rfl; omega
        have E9 := hid (Has.far E (p := ⟨r, a, none⟩) (fun h => rne h.symm) (.int .i64 (offAt (l.take j) a + 1)))
        have f1 := (Has.cell E9.out 1).trans rfl
        have o1 := (OA.out.cellAt a (by omega)).trans (show _ = some (.int .i64 (offAt (l.take j) a)) by unfold offL; rw [List.getElem?_map, rowF_get aN]; rfl)
        have z1 := OA.out.frozenAt a
        have SA := SM.out a
        have S1 := (OA.out.stored a (.int .i64 (offAt (l.take j) a + 1)))
        have OB : Hid ((wa.setCell ⟨r, a, none⟩ (.int .i64 (offAt (l.take j) a + 1))).ownsRow w.heap.size 3 1 (.slice (some ⟨r, 0, none⟩) N N) N ((rowF N fun i => if i = a then offAt (l.take j) a + 1 else offAt (l.take j) i).map (Value.int .i64))) := by
          show World.ownsRow _ _ _ _ _ _ _
          rw [← rowF_set, List.map_set]; exact S1.1
        obtain ⟨p, hp⟩ : ∃ p : Int, p = if d = a then offAt (l.take j) a + 1 else offAt (l.take j) d := ⟨_, rfl⟩
        have o2 := (OB.out.cellAt d (by omega)).trans (show _ = some (.int .i64 p) by rw [List.getElem?_map, rowF_get dN, hp]; rfl)
        have z2 := OB.out.frozenAt d
        have PB : -31 ≤ p ∧ p ≤ 31 := by
          have h1 := SM.out a
          have h2 := SM.out d
          have := TL.out
          rw [hp]; split <;> omega
        have HP := hid hp
        have SA2 : -30 ≤ offAt (l.take j) a ∧ offAt (l.take j) a ≤ 30 := by have := TL.out; omega
        have S2 := (OB.out.stored d (.int .i64 (p - 1)))
        have OC : Hid (((wa.setCell ⟨r, a, none⟩ (.int .i64 (offAt (l.take j) a + 1))).setCell ⟨r, d, none⟩ (.int .i64 (p - 1))).ownsRow w.heap.size 3 1 (.slice (some ⟨r, 0, none⟩) N N) N ((offL N (l.take (j + 1))).map (Value.int .i64))) := by
          have e : rowF N (offAt (l.take (j + 1))) = (rowF N fun i => if i = a then offAt (l.take j) a + 1 else offAt (l.take j) i).set d (p - 1) := by
            rw [rowF_set]
            refine rowF_congr fun i _ => ?_
            rw [TK.out i, hp]
            simp only [Int.natCast_inj]
            by_cases h1 : i = d
            · subst h1
              by_cases h2 : i = a
              · subst h2; simp
              · have h3 : ¬ a = i := fun h => h2 h.symm
                simp [h2, h3]
            · have h4 : ¬ d = i := fun h => h1 h.symm
              by_cases h2 : i = a
              · subst h2; simp [h1, h4]
              · have h3 : ¬ a = i := fun h => h2 h.symm
                simp [h1, h2, h3, h4]
          show World.ownsRow _ _ _ _ _ _ _
          unfold offL
          rw [e, List.map_set]; exact S2.1
        have BC : Hid (Below w.heap.size w ((wa.setCell ⟨r, a, none⟩ (.int .i64 (offAt (l.take j) a + 1))).setCell ⟨r, d, none⟩ (.int .i64 (p - 1)))) := (BA.out.setCell rge _).setCell rge _
        clear S1 S2 hO hB OA OB BA hp E
        go_upto_region 8 with fail
        rw [← hwa]
        clear hwa
        generalize offAt (l.take j) a = q at *
        go_wp2_with fail
        go_roundw
        case rel => exact ⟨j + 1, by omega, by go_num, OC, BC⟩
        case measure => simp [intOf]; omega
      · obtain rfl : j = l.length := by omega
        rw [List.take_length] at hO
        go_wp2_with fail
        go_ret2
        exact ⟨hB.out, .inr ⟨HC.out, _, rfl, hO.out⟩⟩
  · have HC := hid hc
    clear hc
    go_enter Tryd.func22, Tryd.ntmps22
    go_wp2_with fail
    refine (fcheck_any n l F _ w HF.out HV.out).mono ?_
    rintro e w1 ⟨rfl, hb⟩
    have B1 := hid hb
    clear hb
    rw [errV_no HC.out]
    go_wp2_with fail
    go_ret2
    exact ⟨B1.out, .inl ⟨HC.out, by rw [errV_no HC.out]; rfl⟩⟩
end Go.Proofs.YtkiljnggphlomaaDoor
