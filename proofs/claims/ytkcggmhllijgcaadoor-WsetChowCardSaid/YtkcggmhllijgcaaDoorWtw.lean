/- The walk of wset.times. Condition: letters are bytes, words of at most 400 letters, at most 100000 of them. -/
import Derived.Test.YtkcggmhllijgcaaDoorWtm
import Derived.Deep.DeepCutAuto
namespace Go.Proofs.YtkcggmhllijgcaaDoor
open Go.RowKit Go.Maps Go.WideMaps Go.Deep
/-- words whose letters are bytes, none too long -/
def Short (n : Nat) (ll : List (List Int)) : Prop := ∀ x ∈ ll, Bytes x ∧ x.length ≤ n
theorem rowAt_memW {ll : List (List Int)} {i : Nat} (h : i < ll.length) : rowAt ll i ∈ ll := by
  unfold rowAt; rw [List.getD_eq_getElem?_getD, List.getElem?_eq_getElem h]; exact List.getElem_mem _
theorem Short.times {n k : Nat} {a b : List (List Int)} (ha : Short n a) (hb : Short k b) : Short (n + k) (timesL a b) := fun y hy => by
  obtain ⟨x, hx, z, hz, rfl⟩ := mem_times.1 hy
  have h1 := ha x hx
  have h2 := hb z hz
  refine ⟨fun u hu => ?_, by rw [List.length_append]; omega⟩
  rcases List.mem_append.1 hu with h | h
  · exact h1.1 u h
  · exact h2.1 u h
theorem take_len2 (a b : List (List Int)) {i j : Nat} (hi : i < a.length) (hj : j ≤ b.length) : (tIn (rowAt a i) (b.take j) (timesL (a.take i) b)).length ≤ a.length * b.length := by
  have h1 := tIn_len (rowAt a i) (b.take j) (timesL (a.take i) b)
  have h2 := times_len (a.take i) b
  rw [List.length_take] at h1 h2
  have h3 : (i + 1) * b.length ≤ a.length * b.length := Nat.mul_le_mul_right _ hi
  rw [Nat.succ_mul] at h3
  have h4 : min i a.length = i := by omega
  rw [h4] at h2
  have h5 : min j b.length ≤ b.length := Nat.min_le_right _ _
  omega
theorem short_in {n k : Nat} {a b : List (List Int)} (ha : Short n a) (hb : Short k b) {i j : Nat} (hi : i < a.length) : ∀ y ∈ tIn (rowAt a i) (b.take j) (timesL (a.take i) b), Bytes y := fun y hy => by
  have hm : ∀ x ∈ a, ∀ z ∈ b, Bytes (x ++ z) := fun x hx z hz u hu => by
    rcases List.mem_append.1 hu with h | h
    · exact (ha x hx).1 u h
    · exact (hb z hz).1 u h
  rcases (mem_tIn _ _).1 hy with h | ⟨z, hz, rfl⟩
  · obtain ⟨x, hx, z, hz, rfl⟩ := mem_times.1 h
    exact hm x (List.mem_of_mem_take hx) z hz
  · exact hm _ (rowAt_memW hi) z (List.mem_of_mem_take hz)
set_option maxRecDepth 100000 in
set_option maxHeartbeats 2000000 in
theorem times_any (a b : List (List Int)) (F : Nat → Prop) (v u : Value) (w : World) (hF : ∀ b, F b → b < w.heap.size) (hv : RowsIn F w v a) (hu : RowsIn F w u b) (ha : Short 400 a) (hb : Short 400 b) (hz : a.length * b.length ≤ 100000) :
    Calls Tryd.prog 41 #[v, u] w fun e w' => ∃ r, e = .returned r ∧ RowsIn (Fresh w w') w' r (timesL a b) ∧ Below w.heap.size w w' := by
  have HF := hid hF
  have SA := hid ha
  have SB := hid hb
  obtain ⟨A, c, rfl, h1, h3⟩ := hv
  have H3 := hid h3
  obtain ⟨B, d, rfl, h2, h4⟩ := hu
  have H4 := hid h4
  unfold maxLen at h1 h2
  have HZ := hid hz
  have hmm := @run_makeMap Tryd.prog
  obtain ⟨iR, hiR, hzR0, hzR1, hzR2⟩ := info_parts infoRowL
  clear h3 h4 hF ha hb hz
  go_enter Tryd.func41, Tryd.ntmps41
  go_upto_region 4 with fail
  clear hmm
  obtain ⟨mb, hmb⟩ : ∃ mb, mb = w.heap.size := ⟨_, rfl⟩
  have M0 : Hid (TSet (w.alloc (.map #[] 0)) mb []) := ⟨0, by simp, by rw [hmb]; exact World.ownsMap_made w Tryd.prog 9 (unitElem (H := Unit))⟩
  obtain ⟨w1, hw1⟩ : ∃ w1, w1 = w.alloc (.map #[] 0) := ⟨_, rfl⟩
  have s1 : w1.heap.size = w.heap.size + 1 := by rw [hw1]; simp
  have B1 : Hid (Below w.heap.size w w1) := by show Below _ _ _; rw [hw1]; exact (Below.refl _ _).alloc (Nat.le_refl _) _
  have HMB := hid hmb
  rw [← hw1] at M0
  rw [← hmb, ← hw1]
  clear hmb hw1
  go_loopw [5, 17] (fun ov ii wr => ∃ i : Nat, i ≤ a.length ∧ ii = .int .i64 i ∧ Hid (OutR (w.heap.size + 1) ov (timesL (a.take i) b) wr) ∧ Hid (TSet wr mb (timesL (a.take i) b)) ∧ Hid (Below w.heap.size w wr) ∧ w.heap.size + 1 ≤ wr.heap.size) (fun _ ii _ => a.length - (intOf ii).toNat)
  case atStart => exact ⟨0, Nat.zero_le _, rfl, OutR.nil_ _ _, M0.out, B1.out, by omega⟩
  case round =>
    obtain ⟨i, hi, rfl, hO, hT, hB, hs⟩ := hrel
    clear M0 B1 s1 w1
    by_cases hlt : i < a.length
    · obtain ⟨bA, oA, rfl, hbA, hcA⟩ := H3.out (by omega)
      obtain ⟨rx, hrx, irx⟩ := hcA i hlt
      have LA := hid (HF.out bA hbA)
      have c1 := (hB.out.cell (p := ⟨bA, oA + i, none⟩) LA.out).trans hrx
      have IRX := hid irx
      obtain ⟨Ax, cx, rfl, -, -, -⟩ := irx
      have ji : (i : Int) < (a.length : Int) := by omega
      clear hcA hrx hbA
      go_upto_region 7 with fail
      clear c1
      go_loopw [5, 23] (fun ov ii wi => ∃ j : Nat, j ≤ b.length ∧ ii = .int .i64 j ∧ Hid (OutR (w.heap.size + 1) ov (tIn (rowAt a i) (b.take j) (timesL (a.take i) b)) wi) ∧ Hid (TSet wi mb (tIn (rowAt a i) (b.take j) (timesL (a.take i) b))) ∧ Hid (Below w.heap.size w wi) ∧ w.heap.size + 1 ≤ wi.heap.size) (fun _ ii _ => b.length - (intOf ii).toNat)
      case atStart => exact ⟨0, Nat.zero_le _, rfl, hO.out, hT.out, hB.out, hs⟩
      case round =>
        obtain ⟨j, hj, rfl, hOj, hTj, hBj, hsj⟩ := hrel
        clear hO hT hB hs
        by_cases hlj : j < b.length
        · have HLJ := hid hlj
          obtain ⟨bB, oB, rfl, hbB, hcB⟩ := H4.out (by omega)
          obtain ⟨ry, hry, iry⟩ := hcB j hlj
          have LB := hid (HF.out bB hbB)
          have c1 := (hBj.out.cell (p := ⟨bB, oB + j, none⟩) LB.out).trans hry
          have IRY := hid iry
          obtain ⟨Ay, cy, rfl, -, -, -⟩ := iry
          have jj : (j : Int) < (b.length : Int) := by omega
          have BX := hid (SA.out _ (rowAt_memW hlt))
          have BY := hid (SB.out _ (rowAt_memW hlj))
          clear hcB hry hbB
          obtain ⟨out, hout⟩ : ∃ o, o = tIn (rowAt a i) (b.take j) (timesL (a.take i) b) := ⟨_, rfl⟩
          have OL : Hid (out.length ≤ 100000) := by
            show _ ≤ _
            rw [hout]; exact Nat.le_trans (take_len2 a b hlt hj) HZ.out
          have OB : Hid (∀ y ∈ out, Bytes y) := by
            show ∀ y ∈ _, _
            rw [hout]; exact short_in SA.out SB.out hlt
          have NX : Hid (tIn (rowAt a i) (b.take (j + 1)) (timesL (a.take i) b) = setAdd out (rowAt a i ++ rowAt b j)) := by show _ = _; rw [hout]; exact tIn_take _ _ _ hlj
          rw [← hout] at hOj hTj
          clear hout
          obtain ⟨ww, hww⟩ : ∃ o, o = rowAt a i ++ rowAt b j := ⟨_, rfl⟩
          have WW : Hid (Bytes ww ∧ ww.length ≤ 800) := by
            show _ ∧ _
            rw [hww]
            refine ⟨fun u hu => ?_, by rw [List.length_append]; have := BX.out.2; have := BY.out.2; omega⟩
            rcases List.mem_append.1 hu with h | h
            · exact BX.out.1 u h
            · exact BY.out.1 u h
          have HWW := hid hww
          rw [← hww] at NX
          obtain ⟨w2, hw2⟩ : ∃ w2, w2 = wr.alloc (.cells #[.slice Ax (rowAt a i).length cx, .slice Ay (rowAt b j).length cy] 29) := ⟨_, rfl⟩
          obtain ⟨g, hg⟩ : ∃ g, g = wr.heap.size := ⟨_, rfl⟩
          have S2 : Hid (w2.heap.size = wr.heap.size + 1 ∧ g = wr.heap.size) := by show _ ∧ _; exact ⟨by rw [hw2]; simp, hg⟩
          have B12 : Hid (Below wr.heap.size wr w2) := by show Below _ _ _; rw [hw2]; exact (Below.refl _ _).alloc (Nat.le_refl _) _
          have X2 : Hid (w2.heap[g]? = some (.cells #[.slice Ax (rowAt a i).length cx, .slice Ay (rowAt b j).length cy] 29 (0, 0))) := by show _ = _; rw [hw2, hg]; exact Has.new wr _
          have Q2 := hid (hBj.out.trans (B12.out.mono (by omega)))
          have R2 : Hid (RowsIn (fun b => b < w2.heap.size) w2 (.slice (some ⟨g, 0, none⟩) 2 2) [rowAt a i, rowAt b j]) := by
            refine rows2 (by have := S2.out; omega) ((Has.cell X2.out 0).trans rfl) ((Has.cell X2.out 1).trans rfl) ((IRX.out.keep (Same.of_below Q2.out fun b h => HF.out b h)).more fun b h => ?_) ((IRY.out.keep (Same.of_below Q2.out fun b h => HF.out b h)).more fun b h => ?_)
            · have := HF.out b h; have := S2.out; omega
            · have := HF.out b h; have := S2.out; omega
          have FL : Hid ([rowAt a i, rowAt b j].flatten = ww) := by show _ = _; rw [HWW.out]; simp
          clear hww
          go_wp2_with fail
          rw [← hw2, ← hg]
          clear hw2 hg c1
          refine (concat_any _ (fun b => b < w2.heap.size) _ w2 (fun b h => h) R2.out (by rw [FL.out]; have := WW.out.2; omega)).mono ?_
          rintro e w3 ⟨r3, rfl, hown, hb⟩
          rw [FL.out] at hown
          have I3 := hid (ints_of_own hown fun z hz => byte_wf (WW.out.1 z hz))
          have Q3 := hid (B12.out.trans (hb.mono (by have := S2.out; omega)))
          have s3 := Q3.out.size
          have I3' := hid (I3.out.more (F' := fun b => b < w3.heap.size) fun b hb => hb.2)
          obtain ⟨A3, c3, rfl, -, -⟩ := own_slL hown
          clear hown hb
          go_wp2_with fail
          refine (name_any ww (fun b => b < w3.heap.size) _ w3 (fun b h => h) I3'.out WW.out.1 (by have := WW.out.2; omega)).mono ?_
          rintro e w4 ⟨rfl, hb⟩
          have Q34 := hid hb
          have Q4 := hid (Q3.out.trans (hb.mono s3))
          have s4 := hb.size
          clear hb
          have T4 := hid (hTj.out.keep (Q4.out.block mb hTj.out.lt))
          have O4 := hid (hOj.out.gr (gr_below Q4.out none) (fun b e => by cases e))
          have I4 := hid (I3.out.keep (w' := w4) fun b hb => Q34.out.block b hb.2)
          obtain ⟨nm, hnm, hmap⟩ := T4.out
          have HNM := hid hnm
          have HMAP := hid hmap
          clear hnm
          by_cases hin : ww ∈ out
          · have HAS : Hid (Maps.has (setOf (H := Unit) (.agg []) (out.map keyW)) (keyW ww) = true) := (hasW OB.out WW.out.1).trans (decide_eq_true hin)
            have SE : Hid (setAdd out ww = out) := by show _ = _; unfold setAdd; rw [if_pos hin]
            clear hin
            go_wp2_with (at_lookup; refine wpList_lookup_own_unit (H := Unit) _ rfl _ _ 86 rfl 9 78 lawW Tryd.underlying86 (zeroUW _) mb nm _ rfl hmap _ (keyW ww) rfl (keyOf_word ww (by have := WW.out.2; omega)) ?_; rw [HAS.out])
            have Q5 : Hid (Below w4.heap.size w4 (w4.alloc (.cells #[] 78))) := (Below.refl _ _).alloc (Nat.le_refl _) _
            go_roundw
            case rel => 
              refine ⟨j + 1, by omega, by go_num, ?_, ?_, ?_, ?_⟩
              · show OutR _ _ _ _
                rw [NX.out, SE.out]; exact O4.out.gr (gr_below Q5.out none) (fun b e => by cases e)
              · show TSet _ _ _
                rw [NX.out, SE.out]; exact T4.out.keep (Q5.out.block mb T4.out.lt)
              · exact hBj.out.trans ((Q4.out.trans (Q5.out.mono (by omega))).mono (by omega))
              · simp; omega
            case measure => simp [intOf]; omega
          · have HAS : Hid (Maps.has (setOf (H := Unit) (.agg []) (out.map keyW)) (keyW ww) = false) := (hasW OB.out WW.out.1).trans (decide_eq_false hin)
            have SE : Hid (setAdd out ww = out ++ [ww]) := by show _ = _; unfold setAdd; rw [if_neg hin]
            clear hin
            obtain ⟨w5, hw5⟩ : ∃ w5, w5 = w4.alloc (.cells #[] 78) := ⟨_, rfl⟩
            have s5 : w5.heap.size = w4.heap.size + 1 := by rw [hw5]; simp
            have Q45 : Hid (Below w4.heap.size w4 w5) := by show Below _ _ _; rw [hw5]; exact (Below.refl _ _).alloc (Nat.le_refl _) _
            have I5 := hid ((I4.out.keep (w' := w5) fun b hb => Q45.out.block b (by have := hb.2; omega)).more (F' := fun b => b < w5.heap.size) fun b hb => by have := hb.2; omega)
            go_wp2_with (at_lookup; refine wpList_lookup_own_unit (H := Unit) _ rfl _ _ 86 rfl 9 78 lawW Tryd.underlying86 (zeroUW _) mb nm _ rfl hmap _ (keyW ww) rfl (keyOf_word ww (by have := WW.out.2; omega)) ?_; rw [HAS.out])
            rw [← hw5]
            clear hw5 hmap
            refine (name_any ww (fun b => b < w5.heap.size) _ w5 (fun b h => h) I5.out WW.out.1 (by have := WW.out.2; omega)).mono ?_
            rintro e w6 ⟨rfl, hb⟩
            have Q46 := hid (Q45.out.trans (hb.mono (by omega)))
            have Q6 := hid (Q4.out.trans (Q46.out.mono (by omega)))
            have s6 := hb.size
            clear hb
            have T6 := hid (T4.out.keep (Q46.out.block mb T4.out.lt))
            have O6 := hid (O4.out.gr (gr_below Q46.out none) (fun b e => by cases e))
            have I6 := hid (I4.out.keep (w' := w6) fun b hb => Q46.out.block b (by have := hb.2; omega))
            obtain ⟨n6, hn6, hmap6⟩ := T6.out
            have HN6 := hid hn6
            have hn6' : n6 < maxLen := by have := OL.out; unfold maxLen; omega
            obtain ⟨cs, ho1, ho2⟩ := hOj.out
            have OWL := hid (own_lt ho1)
            clear ho1 ho2 cs
            go_wp2_with first
              | (at_mapUpdate; refine wpList_mapUpdate_own (H := Unit) _ rfl _ _ _ 86 rfl 9 78 lawW Tryd.underlying86 unitElem mb n6 _ rfl hmap6 hn6' _ _ (keyW ww) rfl rfl (keyOf_word ww (by have := WW.out.2; omega)) (.agg []) [] unitElem_mk ?_; intro w7 hmap7 hgrow7; have T7 : Hid (TSet w7 mb (out ++ [ww])) := TSet.put HN6.out hmap7; have G7 := hid hgrow7; have s7 := hgrow7.size; have O7 := hid (O6.out.gr hgrow7 (fun b e => by cases e; have := HMB.out; omega)); obtain ⟨cs, ho1, ho2⟩ := O7.out; have OC := hid ho2; have ho1a := ho1.alloc (.cells #[.slice A3 ww.length c3] 29); have HO1 := hid ho1; clear hmap7 hgrow7 ho1 ho2)
              | (at_builtin; refine wpList_app _ rfl _ _ 22 rfl (w.heap.size + 1) 29 iR (.slice none 0 0) 1 24 Tryd.underlying22 hiR hzR0 hzR1 hzR2 rfl (by decide) u5 out.length cs rfl ho1a _ _ 1 [.slice A3 ww.length c3] rfl (cells_oneAt _ _ _ (by simp)) (by intro u hu; simp at hu; subst hu; rfl) (by have := OL.out; unfold maxLen; omega) (by have := OL.out; omega) (by simp; omega) ?_; intro v8 w8 hown8 hgrow8 hat8)
            have I7 : Hid (IntsIn .i64 (fun b => w.heap.size + 1 ≤ b ∧ b < w7.heap.size ∧ u5.ownBlock ≠ some b) w7 (.slice A3 ww.length c3) ww) := by
              refine (I6.out.keep (w' := w7) fun b hb => G7.out.block b (by have := hb.2; omega) (fun e => ?_)).more fun b hb => ⟨?_, ?_, fun e => ?_⟩
              · injection e with e; have := hb.1; have := HMB.out; have := S2.out; omega
              · have := hb.1; have := S2.out; omega
              · have := hb.2; omega
              · have := OWL.out b e; have := hb.1; have := S2.out; omega
            have O8 : Hid (OutR (w.heap.size + 1) v8 (out ++ [ww]) w8) := OutR.app HO1.out OC.out I7.out hown8 hgrow8 hat8
            have s8 := hgrow8.size
            have T8 : Hid (TSet w8 mb (out ++ [ww])) := T7.out.keep ((hgrow8.block mb (by have := T7.out.lt; simp; omega) (fun e => by have := own_ge HO1.out mb e.symm; have := HMB.out; omega)).trans (Below.heap_alloc w7 _ mb T7.out.lt))
            have B7 : Hid (Below w.heap.size w w7) := (hBj.out.trans (Q6.out.mono (by omega))).grown G7.out (by omega) (fun k hk => by injection hk with hk; have := HMB.out; omega)
            have B8 : Hid (Below w.heap.size w w8) := (B7.out.alloc (by omega) _).grown hgrow8 (by simp; omega) (fun k hk => by have := own_ge HO1.out k hk; omega)
            clear hown8 hgrow8 hat8
            refine ⟨⟨j + 1, by omega, by go_num, ?_, ?_, B8.out, ?_⟩, by simp [intOf]; omega⟩
            · show OutR _ _ _ _
              rw [NX.out, SE.out]; exact O8.out
            · show TSet _ _ _
              rw [NX.out, SE.out]; exact T8.out
            · simp at s8; omega
        · obtain rfl : j = b.length := by omega
          rw [List.take_length, ← times_take a b hlt] at hOj hTj
          go_wp2_with fail
          go_roundw
          case rel => exact ⟨i + 1, by omega, by go_num, hOj, hTj, hBj, hsj⟩
          case measure => simp [intOf]; omega
    · obtain rfl : i = a.length := by omega
      rw [List.take_length] at hO
      go_wp2_with fail
      go_ret
      exact ⟨_, rfl, (hO.out.rows).more fun b hb => ⟨by have := hb.1; omega, hb.2⟩, hB.out⟩
end Go.Proofs.YtkcggmhllijgcaaDoor
