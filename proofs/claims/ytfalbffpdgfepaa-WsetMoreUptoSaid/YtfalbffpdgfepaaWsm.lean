/- WsetMore returns true, whatever the machines, and words together of bulk at most 1048576, and writes nothing that was there. -/
import Derived.Test.YtfalbffpdgfepaaPas
import Derived.Test.YtfalbffpdgfepaaRap
import Derived.Test.YtfalbffpdgfepaaUpto
import Derived.Deep.RegionHeld3
namespace Go.Proofs.Ytfalbffpdgfepaa
open Go.RowKit Go.Deep Go.ChangeShapes
theorem pass_ok (m o : MachD) (ws : List (List Int)) (F : Nat → Prop) (mv ov wv : Value) (w : World) (hF : ∀ b, F b → b < w.heap.size) (hm : MachIn F w mv m) (ho : MachIn F w ov o) (hw : RowsIn F w wv ws) (hz : ∀ x ∈ ws, x.length * 8 ≤ 140737488355328) (hf : passFault m o ws = 0) :
    Calls Try.prog 10 #[mv, ov, wv] w fun e w' => e = .returned (.tuple #[.bool (passVal m o ws), .nilIface]) ∧ Below w.heap.size w w' := by
  refine (passes_any m o ws F mv ov wv w hF hm ho hw hz).mono ?_
  rintro e w' ⟨_, h, hb⟩
  exact ⟨h hf, hb⟩
theorem pass_err (m o : MachD) (ws : List (List Int)) (F : Nat → Prop) (mv ov wv : Value) (w : World) (hF : ∀ b, F b → b < w.heap.size) (hm : MachIn F w mv m) (ho : MachIn F w ov o) (hw : RowsIn F w wv ws) (hz : ∀ x ∈ ws, x.length * 8 ≤ 140737488355328) (hf : passFault m o ws ≠ 0) :
    Calls Try.prog 10 #[mv, ov, wv] w fun e w' => ∃ c : Int, e = .returned (.tuple #[.bool false, .iface 44 (.int .i64 c)]) ∧ Below w.heap.size w w' := by
  refine (passes_any m o ws F mv ov wv w hF hm ho hw hz).mono ?_
  rintro e w' ⟨h, _, hb⟩
  exact ⟨_, h hf, hb⟩
theorem pass_some (m o : MachD) (ws : List (List Int)) (F : Nat → Prop) (mv ov wv : Value) (w : World) (hF : ∀ b, F b → b < w.heap.size) (hm : MachIn F w mv m) (ho : MachIn F w ov o) (hw : RowsIn F w wv ws) (hz : ∀ x ∈ ws, x.length * 8 ≤ 140737488355328) :
    Calls Try.prog 10 #[mv, ov, wv] w fun e w' => ∃ (b : Bool) (E : Value), e = .returned (.tuple #[.bool b, E]) ∧ Below w.heap.size w w' := by
  refine (passes_any m o ws F mv ov wv w hF hm ho hw hz).mono ?_
  rintro e w' ⟨h, k, hb⟩
  by_cases hf : passFault m o ws = 0
  · exact ⟨_, _, k hf, hb⟩
  · exact ⟨_, _, h hf, hb⟩
theorem pass_more {m o : MachD} {v w : List (List Int)} (h : passFault m o v ≠ 0 ∨ passFault m o w ≠ 0) : passFault m o (v ++ w) ≠ 0 := by
  unfold passFault at *
  split
  · assumption
  · rename_i h1
    rw [if_neg h1] at h
    split
    · assumption
    · rename_i h2
      rw [if_neg h2] at h
      split
      · decide
      · rename_i h3
        rw [if_neg h3] at h
        rw [if_neg]
        · decide
        · intro hh
          rcases h with h | h
          · rw [if_pos (fun x hx => hh x (List.mem_append.2 (.inl hx)))] at h; exact h rfl
          · rw [if_neg h1, if_neg h2, if_neg h3, if_pos (fun x hx => hh x (List.mem_append.2 (.inr hx)))] at h; exact h rfl
theorem passVal_append (m o : MachD) (v w : List (List Int)) : passVal m o (v ++ w) = (passVal m o v && passVal m o w) := by
  unfold passVal; rw [List.all_append]
theorem passVal_self (m : MachD) (v : List (List Int)) : passVal m m v = true := by
  unfold passVal; rw [List.all_eq_true]; intro x _; simp
theorem pass_good {m o : MachD} {v : List (List Int)} (h : passFault m o v = 0) : Good m ∧ Good o ∧ ins m = ins o ∧ ∀ x ∈ v, word m x := by
  have h' := h
  unfold passFault at h
  split at h
  · rename_i h1; exact absurd h h1
  · rename_i h1
    split at h
    · rename_i h2; exact absurd h h2
    · rename_i h2
      split at h
      · simp at h
      · rename_i h3
        simp only [Decidable.not_not] at h1 h2 h3
        have gm := chk_good h1
        have go := chk_good h2
        exact ⟨gm, go, h3, (pass_zero gm go h3).1 h'⟩
theorem infoRow : (Try.prog.info? 25).map (fun i => (i.zero, i.size, i.bytes)) = some (some (.slice none 0 0), 1, 24) := by kernel_rfl
theorem rows_bulk {P : Program} {H : Type} {enc : TypeId × Value → H} {W : World} {t e q : TypeId} {A : Option Addr} {n c : Nat} {d : DataW H} {p : List MemPlace} {ll : List (List Int)} (ht : P.underlying t = some (.slice e)) (he : P.underlying e = some (.slice q)) (hq : P.underlying q = some (.int .i64)) (ce : P.cellsOf e = 1) (cq : P.cellsOf q = 1)
    (h : DataW.Trod enc P W 0 (fun _ => true) true t (.slice A n c) d p) (hd : Rows.uptoBulk d ≤ 1048576) (hr : RowsIn (fun b => b < W.heap.size) W (.slice A n c) ll) : ll.length ≤ 1048576 ∧ ∀ x ∈ ll, x.length ≤ 1048576 := by
  obtain ⟨A', c', e1, hl, hrr⟩ := hr
  injection e1 with e1 e2 e3
  subst e1 e2
  obtain ⟨fuel, hf⟩ := h
  simp only [Value.cells] at hf
  rcases open_int_rows ht he hq ce cq hf with ⟨hcs, _⟩ | ⟨a, len, cap, A2, L, C, Z, hcs, _, hl2, hm, hx, hcell⟩
  · simp at hcs
    obtain ⟨rfl, h0, rfl⟩ := hcs
    subst h0
    simp
  · simp at hcs
    obtain ⟨rfl, h1, rfl⟩ := hcs
    subst h1
    have hd2 := congrArg Prod.fst hx
    simp only at hd2
    subst hd2
    simp only [Rows.uptoBulk] at hd
    refine ⟨?_, ?_⟩
    · have := bulk_len (H := H) ((List.range ll.length).map fun r => intRow .i64 (A2 r) (L r) (Z r))
      simp only [List.length_map, List.length_range] at this
      omega
    · intro x hx2
      obtain ⟨i, hi, rfl⟩ := List.getElem_of_mem hx2
      obtain ⟨b, off, ea, _, hci⟩ := hrr (by omega)
      obtain ⟨r, hr1, A3, c3, hr3, _⟩ := hci i hi
      have hc1 := (hcell i (by omega)).1
      have hc2 := (hcell i (by omega)).2.1
      have hc4 := (hcell i (by omega)).2.2.2.1
      have ea' : a = ⟨b, off, none⟩ := by injection ea
      subst ea'
      have e5 : W.cell? ((⟨b, off, none⟩ : Addr).add i) = W.cell? ⟨b, off + i, none⟩ := by
        by_cases h0 : i = 0
        · subst h0; simp [Addr.add]
        · simp [Addr.add, h0]
      rw [e5, hr1, hr3] at hc1
      injection hc1 with hc1
      injection hc1 with _ hL _
      have hrow : rowAt ll i = ll[i] := by unfold rowAt; rw [List.getD_eq_getElem?_getD, List.getElem?_eq_getElem hi]; rfl
      rw [hrow] at hL
      have hmem : intRow (H := H) .i64 (A2 i) (L i) (Z i) ∈ (List.range ll.length).map fun r => intRow .i64 (A2 r) (L r) (Z r) := List.mem_map.2 ⟨i, by simp [hi], rfl⟩
      have hpart := bulk_part hmem
      have hrowb : L i ≤ Rows.uptoBulk (intRow (H := H) .i64 (A2 i) (L i) (Z i)) := by
        unfold intRow
        split
        · rename_i hn
          have := (hcell i (by omega)).2.2.2.2.2.1 hn
          omega
        · simp only [Rows.uptoBulk]
          have := bulk_len (H := H) (lits .i64 ((Z i).take (L i)))
          have hlen : (lits (H := H) .i64 ((Z i).take (L i))).length = L i := by simp [lits]; omega
          omega
      omega
set_option maxRecDepth 100000 in
set_option maxHeartbeats 1000000 in
theorem more_bad1 (m o : MachD) (v w : List (List Int)) (mv ov vv wv : Value) (W : World) (hm : MachIn (fun b => b < W.heap.size) W mv m) (ho : MachIn (fun b => b < W.heap.size) W ov o) (hv : RowsIn (fun b => b < W.heap.size) W vv v) (hw : RowsIn (fun b => b < W.heap.size) W wv w) (lv : v.length ≤ 1048576 ∧ ∀ x ∈ v, x.length ≤ 1048576) (lw : w.length ≤ 1048576 ∧ ∀ x ∈ w, x.length ≤ 1048576)
    (f1 : passFault m o v ≠ 0) (f2 : True) (f3 : passFault m o (v ++ w) ≠ 0) (f4 : True) :
    Calls Try.prog 4 #[mv, ov, vv, wv] W fun e w' => e = .returned (.bool true) ∧ Below W.heap.size W w' := by
  have HM := hid hm
  have HO := hid ho
  have HV := hid hv
  have HW := hid hw
  have F1 := hid f1
  have F2 := hid f2
  have F3 := hid f3
  have F4 := hid f4
  obtain ⟨p1, p2, rfl, ⟨A1, a1, rfl, _, _⟩, ⟨A2, a2, rfl, _, _⟩⟩ := hm
  obtain ⟨p3, p4, rfl, ⟨A3, a3, rfl, _, _⟩, ⟨A4, a4, rfl, _, _⟩⟩ := ho
  obtain ⟨A5, a5, rfl, _, _⟩ := hv
  obtain ⟨A6, a6, rfl, _, _⟩ := hw
  have lv1 := lv.1
  have lw1 := lw.1
  have LV := hid lv
  have LW := hid lw
  have lv := LV.out
  have lw := LW.out
  clear f1 f2 f3 f4
  go_enter Try.func4, Try.ntmps4
  go_wp2_with fail
  refine (lit_any _).mono ?_
  rintro e w1 ⟨rfl, hb⟩
  have s1 : W.heap.size + 1 < w1.heap.size := by have := hb.size; simp at this; omega
  have K1 : Hid (Below W.heap.size W w1) := (((Below.refl _ _).alloc (Nat.le_refl _) _).alloc (by simp) _).trans (hb.mono (by simp; omega))
  have L1 := hid (Has.below (Has.alloc (Has.new W _) _) hb (by simp; omega))
  have M1 := hid (Has.below (Has.newAt (W.alloc _) _ (g := W.heap.size + 1) (by simp)) hb (by simp))
  have S1 : Same (fun b => b < W.heap.size) W w1 := Same.of_below K1.out fun _ h => h
  clear hb
  have x0 := Has.cell L1.out 0
  have x1 := Has.cell L1.out 1
  have y0 := Has.cell M1.out 0
  have y1 := Has.cell M1.out 1
  simp at x0 x1 y0 y1
  go_wp2_with fail
  refine (pass_err m o v _ _ _ _ _ (fun b hb => by have : b < W.heap.size := hb; omega) (HM.out.keep S1) (HO.out.keep S1) (HV.out.keep S1) (fun x hx => by have := lv.2 x hx; omega) F1.out).mono ?_
  rintro e w2 ⟨c1, rfl, hb⟩
  have s2 : w1.heap.size ≤ w2.heap.size := hb.size
  have X2 := hid (Has.below L1.out hb (by omega))
  have Y2 := hid (Has.below M1.out hb (by omega))
  have K2 : Hid (Below W.heap.size W w2) := K1.out.trans (hb.mono (by omega))
  have S2 : Same (fun b => b < W.heap.size) W w2 := Same.of_below K2.out fun _ h => h
  have L2 := X2
  have M2 := Y2
  clear hb X2 Y2
  clear x0 x1 y0 y1
  have x0 := Has.cell L2.out 0
  have x1 := Has.cell L2.out 1
  have y0 := Has.cell M2.out 0
  have y1 := Has.cell M2.out 1
  simp at x0 x1 y0 y1
  go_wp2_with fail
  refine (pass_some m o w _ _ _ _ _ (fun b hb => by have : b < W.heap.size := hb; omega) (HM.out.keep S2) (HO.out.keep S2) (HW.out.keep S2) (fun x hx => by have := lw.2 x hx; omega)).mono ?_
  rintro e w3 ⟨b2, E2, rfl, hb⟩
  have s3 : w2.heap.size ≤ w3.heap.size := hb.size
  have X3 := hid (Has.below L2.out hb (by omega))
  have Y3 := hid (Has.below M2.out hb (by omega))
  have K3 : Hid (Below W.heap.size W w3) := K2.out.trans (hb.mono (by omega))
  have S3 : Same (fun b => b < W.heap.size) W w3 := Same.of_below K3.out fun _ h => h
  have L3 := X3
  have M3 := Y3
  clear hb X3 Y3
  clear x0 x1 y0 y1
  have x0 := Has.cell L3.out 0
  have x1 := Has.cell L3.out 1
  have y0 := Has.cell M3.out 0
  have y1 := Has.cell M3.out 1
  simp at x0 x1 y0 y1
  obtain ⟨i0, hi, hz0, hz1, hz2⟩ := info_parts infoRow
  have O0 := hid (World.ownsRow_lit (e := 25) (size := 1) (base := w3.heap.size) w3 #[] 0 (Nat.le_refl _) (by unfold maxLen; omega) rfl)
  obtain ⟨cv, cv1, cv2, cv3, cv4⟩ := (HV.out.keep S3).cells
  obtain ⟨cw, cw1, cw2, cw3, cw4⟩ := (HW.out.keep S3).cells
  have C1 := hid (cv2.keep (w' := w3.alloc (Obj.cells #[] 25)) (fun b hb => Below.heap_alloc _ _ _ (by have : b < W.heap.size := hb; omega)))
  have C2 := hid cw2
  have V1 := hid cv4
  have V2 := hid cw4
  have R3 : Hid (∀ i, i < (v ++ w).length → ∃ r, (cv ++ cw)[i]? = some r ∧ IntsIn .i64 (fun b => b < W.heap.size) w3 r (rowAt (v ++ w) i)) := rows_join cv1 cv3 cw3
  have s4 : W.heap.size + 1 < w3.heap.size := by omega
  clear cv1 cv2 cv3 cv4 cw1 cw2 cw3 cw4
  go_upto_region 4 with fail
  go_region_held3 (fun w' => w'.cell? ⟨W.heap.size, 0, none⟩ = some (.slice A1 m.out.length a1) ∧ w'.cell? ⟨W.heap.size, 1, none⟩ = some (.slice A2 m.next.length a2) ∧ w'.cell? ⟨W.heap.size + 1, 0, none⟩ = some (.slice A3 o.out.length a3) ∧ w'.cell? ⟨W.heap.size + 1, 1, none⟩ = some (.slice A4 o.next.length a4))
    (first | go_keep | exact ⟨(B6.cell (p := ⟨W.heap.size, 0, none⟩) (by simp; omega)).trans x0, (B6.cell (p := ⟨W.heap.size, 1, none⟩) (by simp; omega)).trans x1, (B6.cell (p := ⟨W.heap.size + 1, 0, none⟩) s4).trans y0, (B6.cell (p := ⟨W.heap.size + 1, 1, none⟩) s4).trans y1⟩ | exact ⟨(B5.cell (p := ⟨W.heap.size, 0, none⟩) (by simp; omega)).trans x0, (B5.cell (p := ⟨W.heap.size, 1, none⟩) (by simp; omega)).trans x1, (B5.cell (p := ⟨W.heap.size + 1, 0, none⟩) s4).trans y0, (B5.cell (p := ⟨W.heap.size + 1, 1, none⟩) s4).trans y1⟩ | exact ⟨(B4.cell (p := ⟨W.heap.size, 0, none⟩) (by simp; omega)).trans x0, (B4.cell (p := ⟨W.heap.size, 1, none⟩) (by simp; omega)).trans x1, (B4.cell (p := ⟨W.heap.size + 1, 0, none⟩) s4).trans y0, (B4.cell (p := ⟨W.heap.size + 1, 1, none⟩) s4).trans y1⟩)
    (first
      | (refine step_app _ (by rfl) (.tmp 36) (.tmp 37) 22 (by rfl) w3.heap.size 25 i0 (.slice none 0 0) 1 24 Try.underlying22 hi hz0 hz1 hz2 rfl (by decide) _ 0 [] (by rfl) O0.out _ _ v.length cv (by rfl) C1.out V1.out (by unfold maxLen; omega) (by omega) (by simp) ?_; intro v1 w4 hown4 hgrow4 _; have B4 : Below w3.heap.size w3 w4 := (((Below.refl _ _).alloc (Nat.le_refl _) _).drew).grown hgrow4 (by simp) (own_ge O0.out); replace hown4 : w4.ownsRow w3.heap.size 25 1 v1 v.length cv := (by simpa using hown4))
      | (refine step_app _ (by rfl) (.tmp 38) (.tmp 39) 22 (by rfl) w3.heap.size 25 i0 (.slice none 0 0) 1 24 Try.underlying22 hi hz0 hz1 hz2 rfl (by decide) _ v.length cv (by rfl) hown4 _ _ w.length cw (by rfl) (C2.out.keep (Same.of_below B4 fun b hb => by have : b < W.heap.size := hb; omega)) V2.out (by unfold maxLen; omega) (by omega) B4.size ?_; intro v2 w5 hown5 hgrow5 _; have B5 : Below w3.heap.size w3 w5 := B4.trans ((Below.refl _ _).grown hgrow5 B4.size (own_ge hown4)))
      | (go_at_call 10; refine (pass_err m o (v ++ w) (fun b => b < w5.heap.size) _ _ _ _ (fun b hb => hb) (((HM.out.keep S3).keep (Same.of_below B5 fun b hb => by have : b < W.heap.size := hb; omega)).more fun b hb => by have : b < W.heap.size := hb; have := B5.size; omega) (((HO.out.keep S3).keep (Same.of_below B5 fun b hb => by have : b < W.heap.size := hb; omega)).more fun b hb => by have : b < W.heap.size := hb; have := B5.size; omega) (rows_of_own hown5 (by rw [List.length_append]) (fun i hi => by obtain ⟨r, hr, hi'⟩ := R3.out i hi; exact ⟨r, hr, (hi'.keep (Same.of_below B5 fun b hb => by have : b < W.heap.size := hb; omega)).more fun b hb => by have : b < W.heap.size := hb; have := B5.size; omega⟩) fun b _ h => h) (fun x hx => by rcases List.mem_append.1 hx with h | h; (have := LV.out.2 x h; omega); (have := LW.out.2 x h; omega)) F3.out).mono ?_; rintro e w6 ⟨c3, rfl, hb6⟩; have B6 : Below w3.heap.size w3 w6 := B5.trans (hb6.mono B5.size)))
  have s6 := B6.size
  have K6 : Hid (Below W.heap.size W w6) := K3.out.trans (B6.mono (by omega))
  have S6 : Same (fun b => b < W.heap.size) W w6 := Same.of_below K6.out fun _ h => h
  have x6 := hid (And.intro ((B6.cell (p := ⟨W.heap.size, 0, none⟩) (by simp; omega)).trans x0) ((B6.cell (p := ⟨W.heap.size, 1, none⟩) (by simp; omega)).trans x1))
  clear x0 x1 y0 y1 hown4 hown5 hgrow4 hgrow5 B4 B5 B6 hb6
  obtain ⟨x0, x1⟩ := x6.out
  go_wp2_with fail
  refine (pass_some m m v _ _ _ _ _ (fun b hb => by have : b < W.heap.size := hb; omega) (HM.out.keep S6) (HM.out.keep S6) (HV.out.keep S6) (fun x hx => by have := lv.2 x hx; omega)).mono ?_
  rintro e w7 ⟨b4, E4, rfl, hb⟩
  have K7 : Hid (Below W.heap.size W w7) := K6.out.trans (hb.mono (by omega))
  clear hb x0 x1
  go_wp2_with fail
  go_ret
  exact ⟨rfl, K7.out⟩
set_option maxRecDepth 100000 in
set_option maxHeartbeats 1000000 in
theorem more_bad2 (m o : MachD) (v w : List (List Int)) (mv ov vv wv : Value) (W : World) (hm : MachIn (fun b => b < W.heap.size) W mv m) (ho : MachIn (fun b => b < W.heap.size) W ov o) (hv : RowsIn (fun b => b < W.heap.size) W vv v) (hw : RowsIn (fun b => b < W.heap.size) W wv w) (lv : v.length ≤ 1048576 ∧ ∀ x ∈ v, x.length ≤ 1048576) (lw : w.length ≤ 1048576 ∧ ∀ x ∈ w, x.length ≤ 1048576)
    (f1 : passFault m o v = 0) (f2 : passFault m o w ≠ 0) (f3 : passFault m o (v ++ w) ≠ 0) (f4 : True) :
    Calls Try.prog 4 #[mv, ov, vv, wv] W fun e w' => e = .returned (.bool true) ∧ Below W.heap.size W w' := by
  have HM := hid hm
  have HO := hid ho
  have HV := hid hv
  have HW := hid hw
  have F1 := hid f1
  have F2 := hid f2
  have F3 := hid f3
  have F4 := hid f4
  obtain ⟨p1, p2, rfl, ⟨A1, a1, rfl, _, _⟩, ⟨A2, a2, rfl, _, _⟩⟩ := hm
  obtain ⟨p3, p4, rfl, ⟨A3, a3, rfl, _, _⟩, ⟨A4, a4, rfl, _, _⟩⟩ := ho
  obtain ⟨A5, a5, rfl, _, _⟩ := hv
  obtain ⟨A6, a6, rfl, _, _⟩ := hw
  have lv1 := lv.1
  have lw1 := lw.1
  have LV := hid lv
  have LW := hid lw
  have lv := LV.out
  have lw := LW.out
  clear f1 f2 f3 f4
  go_enter Try.func4, Try.ntmps4
  go_wp2_with fail
  refine (lit_any _).mono ?_
  rintro e w1 ⟨rfl, hb⟩
  have s1 : W.heap.size + 1 < w1.heap.size := by have := hb.size; simp at this; omega
  have K1 : Hid (Below W.heap.size W w1) := (((Below.refl _ _).alloc (Nat.le_refl _) _).alloc (by simp) _).trans (hb.mono (by simp; omega))
  have L1 := hid (Has.below (Has.alloc (Has.new W _) _) hb (by simp; omega))
  have M1 := hid (Has.below (Has.newAt (W.alloc _) _ (g := W.heap.size + 1) (by simp)) hb (by simp))
  have S1 : Same (fun b => b < W.heap.size) W w1 := Same.of_below K1.out fun _ h => h
  clear hb
  have x0 := Has.cell L1.out 0
  have x1 := Has.cell L1.out 1
  have y0 := Has.cell M1.out 0
  have y1 := Has.cell M1.out 1
  simp at x0 x1 y0 y1
  go_wp2_with fail
  refine (pass_ok m o v _ _ _ _ _ (fun b hb => by have : b < W.heap.size := hb; omega) (HM.out.keep S1) (HO.out.keep S1) (HV.out.keep S1) (fun x hx => by have := lv.2 x hx; omega) F1.out).mono ?_
  rintro e w2 ⟨rfl, hb⟩
  have s2 : w1.heap.size ≤ w2.heap.size := hb.size
  have X2 := hid (Has.below L1.out hb (by omega))
  have Y2 := hid (Has.below M1.out hb (by omega))
  have K2 : Hid (Below W.heap.size W w2) := K1.out.trans (hb.mono (by omega))
  have S2 : Same (fun b => b < W.heap.size) W w2 := Same.of_below K2.out fun _ h => h
  have L2 := X2
  have M2 := Y2
  clear hb X2 Y2
  clear x0 x1 y0 y1
  have x0 := Has.cell L2.out 0
  have x1 := Has.cell L2.out 1
  have y0 := Has.cell M2.out 0
  have y1 := Has.cell M2.out 1
  simp at x0 x1 y0 y1
  go_wp2_with fail
  refine (pass_err m o w _ _ _ _ _ (fun b hb => by have : b < W.heap.size := hb; omega) (HM.out.keep S2) (HO.out.keep S2) (HW.out.keep S2) (fun x hx => by have := lw.2 x hx; omega) F2.out).mono ?_
  rintro e w3 ⟨c2, rfl, hb⟩
  have s3 : w2.heap.size ≤ w3.heap.size := hb.size
  have X3 := hid (Has.below L2.out hb (by omega))
  have Y3 := hid (Has.below M2.out hb (by omega))
  have K3 : Hid (Below W.heap.size W w3) := K2.out.trans (hb.mono (by omega))
  have S3 : Same (fun b => b < W.heap.size) W w3 := Same.of_below K3.out fun _ h => h
  have L3 := X3
  have M3 := Y3
  clear hb X3 Y3
  clear x0 x1 y0 y1
  have x0 := Has.cell L3.out 0
  have x1 := Has.cell L3.out 1
  have y0 := Has.cell M3.out 0
  have y1 := Has.cell M3.out 1
  simp at x0 x1 y0 y1
  obtain ⟨i0, hi, hz0, hz1, hz2⟩ := info_parts infoRow
  have O0 := hid (World.ownsRow_lit (e := 25) (size := 1) (base := w3.heap.size) w3 #[] 0 (Nat.le_refl _) (by unfold maxLen; omega) rfl)
  obtain ⟨cv, cv1, cv2, cv3, cv4⟩ := (HV.out.keep S3).cells
  obtain ⟨cw, cw1, cw2, cw3, cw4⟩ := (HW.out.keep S3).cells
  have C1 := hid (cv2.keep (w' := w3.alloc (Obj.cells #[] 25)) (fun b hb => Below.heap_alloc _ _ _ (by have : b < W.heap.size := hb; omega)))
  have C2 := hid cw2
  have V1 := hid cv4
  have V2 := hid cw4
  have R3 : Hid (∀ i, i < (v ++ w).length → ∃ r, (cv ++ cw)[i]? = some r ∧ IntsIn .i64 (fun b => b < W.heap.size) w3 r (rowAt (v ++ w) i)) := rows_join cv1 cv3 cw3
  have s4 : W.heap.size + 1 < w3.heap.size := by omega
  clear cv1 cv2 cv3 cv4 cw1 cw2 cw3 cw4
  go_upto_region 4 with fail
  go_region_held3 (fun w' => w'.cell? ⟨W.heap.size, 0, none⟩ = some (.slice A1 m.out.length a1) ∧ w'.cell? ⟨W.heap.size, 1, none⟩ = some (.slice A2 m.next.length a2) ∧ w'.cell? ⟨W.heap.size + 1, 0, none⟩ = some (.slice A3 o.out.length a3) ∧ w'.cell? ⟨W.heap.size + 1, 1, none⟩ = some (.slice A4 o.next.length a4))
    (first | go_keep | exact ⟨(B6.cell (p := ⟨W.heap.size, 0, none⟩) (by simp; omega)).trans x0, (B6.cell (p := ⟨W.heap.size, 1, none⟩) (by simp; omega)).trans x1, (B6.cell (p := ⟨W.heap.size + 1, 0, none⟩) s4).trans y0, (B6.cell (p := ⟨W.heap.size + 1, 1, none⟩) s4).trans y1⟩ | exact ⟨(B5.cell (p := ⟨W.heap.size, 0, none⟩) (by simp; omega)).trans x0, (B5.cell (p := ⟨W.heap.size, 1, none⟩) (by simp; omega)).trans x1, (B5.cell (p := ⟨W.heap.size + 1, 0, none⟩) s4).trans y0, (B5.cell (p := ⟨W.heap.size + 1, 1, none⟩) s4).trans y1⟩ | exact ⟨(B4.cell (p := ⟨W.heap.size, 0, none⟩) (by simp; omega)).trans x0, (B4.cell (p := ⟨W.heap.size, 1, none⟩) (by simp; omega)).trans x1, (B4.cell (p := ⟨W.heap.size + 1, 0, none⟩) s4).trans y0, (B4.cell (p := ⟨W.heap.size + 1, 1, none⟩) s4).trans y1⟩)
    (first
      | (refine step_app _ (by rfl) (.tmp 36) (.tmp 37) 22 (by rfl) w3.heap.size 25 i0 (.slice none 0 0) 1 24 Try.underlying22 hi hz0 hz1 hz2 rfl (by decide) _ 0 [] (by rfl) O0.out _ _ v.length cv (by rfl) C1.out V1.out (by unfold maxLen; omega) (by omega) (by simp) ?_; intro v1 w4 hown4 hgrow4 _; have B4 : Below w3.heap.size w3 w4 := (((Below.refl _ _).alloc (Nat.le_refl _) _).drew).grown hgrow4 (by simp) (own_ge O0.out); replace hown4 : w4.ownsRow w3.heap.size 25 1 v1 v.length cv := (by simpa using hown4))
      | (refine step_app _ (by rfl) (.tmp 38) (.tmp 39) 22 (by rfl) w3.heap.size 25 i0 (.slice none 0 0) 1 24 Try.underlying22 hi hz0 hz1 hz2 rfl (by decide) _ v.length cv (by rfl) hown4 _ _ w.length cw (by rfl) (C2.out.keep (Same.of_below B4 fun b hb => by have : b < W.heap.size := hb; omega)) V2.out (by unfold maxLen; omega) (by omega) B4.size ?_; intro v2 w5 hown5 hgrow5 _; have B5 : Below w3.heap.size w3 w5 := B4.trans ((Below.refl _ _).grown hgrow5 B4.size (own_ge hown4)))
      | (go_at_call 10; refine (pass_err m o (v ++ w) (fun b => b < w5.heap.size) _ _ _ _ (fun b hb => hb) (((HM.out.keep S3).keep (Same.of_below B5 fun b hb => by have : b < W.heap.size := hb; omega)).more fun b hb => by have : b < W.heap.size := hb; have := B5.size; omega) (((HO.out.keep S3).keep (Same.of_below B5 fun b hb => by have : b < W.heap.size := hb; omega)).more fun b hb => by have : b < W.heap.size := hb; have := B5.size; omega) (rows_of_own hown5 (by rw [List.length_append]) (fun i hi => by obtain ⟨r, hr, hi'⟩ := R3.out i hi; exact ⟨r, hr, (hi'.keep (Same.of_below B5 fun b hb => by have : b < W.heap.size := hb; omega)).more fun b hb => by have : b < W.heap.size := hb; have := B5.size; omega⟩) fun b _ h => h) (fun x hx => by rcases List.mem_append.1 hx with h | h; (have := LV.out.2 x h; omega); (have := LW.out.2 x h; omega)) F3.out).mono ?_; rintro e w6 ⟨c3, rfl, hb6⟩; have B6 : Below w3.heap.size w3 w6 := B5.trans (hb6.mono B5.size)))
  have s6 := B6.size
  have K6 : Hid (Below W.heap.size W w6) := K3.out.trans (B6.mono (by omega))
  have S6 : Same (fun b => b < W.heap.size) W w6 := Same.of_below K6.out fun _ h => h
  have x6 := hid (And.intro ((B6.cell (p := ⟨W.heap.size, 0, none⟩) (by simp; omega)).trans x0) ((B6.cell (p := ⟨W.heap.size, 1, none⟩) (by simp; omega)).trans x1))
  clear x0 x1 y0 y1 hown4 hown5 hgrow4 hgrow5 B4 B5 B6 hb6
  obtain ⟨x0, x1⟩ := x6.out
  go_wp2_with fail
  refine (pass_some m m v _ _ _ _ _ (fun b hb => by have : b < W.heap.size := hb; omega) (HM.out.keep S6) (HM.out.keep S6) (HV.out.keep S6) (fun x hx => by have := lv.2 x hx; omega)).mono ?_
  rintro e w7 ⟨b4, E4, rfl, hb⟩
  have K7 : Hid (Below W.heap.size W w7) := K6.out.trans (hb.mono (by omega))
  clear hb x0 x1
  go_wp2_with fail
  go_ret
  exact ⟨rfl, K7.out⟩
set_option maxRecDepth 100000 in
set_option maxHeartbeats 1000000 in
theorem more_good (m o : MachD) (v w : List (List Int)) (mv ov vv wv : Value) (W : World) (hm : MachIn (fun b => b < W.heap.size) W mv m) (ho : MachIn (fun b => b < W.heap.size) W ov o) (hv : RowsIn (fun b => b < W.heap.size) W vv v) (hw : RowsIn (fun b => b < W.heap.size) W wv w) (lv : v.length ≤ 1048576 ∧ ∀ x ∈ v, x.length ≤ 1048576) (lw : w.length ≤ 1048576 ∧ ∀ x ∈ w, x.length ≤ 1048576)
    (f1 : passFault m o v = 0) (f2 : passFault m o w = 0) (f3 : passFault m o (v ++ w) = 0) (f4 : passFault m m v = 0) :
    Calls Try.prog 4 #[mv, ov, vv, wv] W fun e w' => e = .returned (.bool true) ∧ Below W.heap.size W w' := by
  have HM := hid hm
  have HO := hid ho
  have HV := hid hv
  have HW := hid hw
  have F1 := hid f1
  have F2 := hid f2
  have F3 := hid f3
  have F4 := hid f4
  obtain ⟨p1, p2, rfl, ⟨A1, a1, rfl, _, _⟩, ⟨A2, a2, rfl, _, _⟩⟩ := hm
  obtain ⟨p3, p4, rfl, ⟨A3, a3, rfl, _, _⟩, ⟨A4, a4, rfl, _, _⟩⟩ := ho
  obtain ⟨A5, a5, rfl, _, _⟩ := hv
  obtain ⟨A6, a6, rfl, _, _⟩ := hw
  have lv1 := lv.1
  have lw1 := lw.1
  have LV := hid lv
  have LW := hid lw
  have lv := LV.out
  have lw := LW.out
  clear f1 f2 f3 f4
  go_enter Try.func4, Try.ntmps4
  go_wp2_with fail
  refine (lit_any _).mono ?_
  rintro e w1 ⟨rfl, hb⟩
  have s1 : W.heap.size + 1 < w1.heap.size := by have := hb.size; simp at this; omega
  have K1 : Hid (Below W.heap.size W w1) := (((Below.refl _ _).alloc (Nat.le_refl _) _).alloc (by simp) _).trans (hb.mono (by simp; omega))
  have L1 := hid (Has.below (Has.alloc (Has.new W _) _) hb (by simp; omega))
  have M1 := hid (Has.below (Has.newAt (W.alloc _) _ (g := W.heap.size + 1) (by simp)) hb (by simp))
  have S1 : Same (fun b => b < W.heap.size) W w1 := Same.of_below K1.out fun _ h => h
  clear hb
  have x0 := Has.cell L1.out 0
  have x1 := Has.cell L1.out 1
  have y0 := Has.cell M1.out 0
  have y1 := Has.cell M1.out 1
  simp at x0 x1 y0 y1
  go_wp2_with fail
  refine (pass_ok m o v _ _ _ _ _ (fun b hb => by have : b < W.heap.size := hb; omega) (HM.out.keep S1) (HO.out.keep S1) (HV.out.keep S1) (fun x hx => by have := lv.2 x hx; omega) F1.out).mono ?_
  rintro e w2 ⟨rfl, hb⟩
  have s2 : w1.heap.size ≤ w2.heap.size := hb.size
  have X2 := hid (Has.below L1.out hb (by omega))
  have Y2 := hid (Has.below M1.out hb (by omega))
  have K2 : Hid (Below W.heap.size W w2) := K1.out.trans (hb.mono (by omega))
  have S2 : Same (fun b => b < W.heap.size) W w2 := Same.of_below K2.out fun _ h => h
  have L2 := X2
  have M2 := Y2
  clear hb X2 Y2
  clear x0 x1 y0 y1
  have x0 := Has.cell L2.out 0
  have x1 := Has.cell L2.out 1
  have y0 := Has.cell M2.out 0
  have y1 := Has.cell M2.out 1
  simp at x0 x1 y0 y1
  go_wp2_with fail
  refine (pass_ok m o w _ _ _ _ _ (fun b hb => by have : b < W.heap.size := hb; omega) (HM.out.keep S2) (HO.out.keep S2) (HW.out.keep S2) (fun x hx => by have := lw.2 x hx; omega) F2.out).mono ?_
  rintro e w3 ⟨rfl, hb⟩
  have s3 : w2.heap.size ≤ w3.heap.size := hb.size
  have X3 := hid (Has.below L2.out hb (by omega))
  have Y3 := hid (Has.below M2.out hb (by omega))
  have K3 : Hid (Below W.heap.size W w3) := K2.out.trans (hb.mono (by omega))
  have S3 : Same (fun b => b < W.heap.size) W w3 := Same.of_below K3.out fun _ h => h
  have L3 := X3
  have M3 := Y3
  clear hb X3 Y3
  clear x0 x1 y0 y1
  have x0 := Has.cell L3.out 0
  have x1 := Has.cell L3.out 1
  have y0 := Has.cell M3.out 0
  have y1 := Has.cell M3.out 1
  simp at x0 x1 y0 y1
  obtain ⟨i0, hi, hz0, hz1, hz2⟩ := info_parts infoRow
  have O0 := hid (World.ownsRow_lit (e := 25) (size := 1) (base := w3.heap.size) w3 #[] 0 (Nat.le_refl _) (by unfold maxLen; omega) rfl)
  obtain ⟨cv, cv1, cv2, cv3, cv4⟩ := (HV.out.keep S3).cells
  obtain ⟨cw, cw1, cw2, cw3, cw4⟩ := (HW.out.keep S3).cells
  have C1 := hid (cv2.keep (w' := w3.alloc (Obj.cells #[] 25)) (fun b hb => Below.heap_alloc _ _ _ (by have : b < W.heap.size := hb; omega)))
  have C2 := hid cw2
  have V1 := hid cv4
  have V2 := hid cw4
  have R3 : Hid (∀ i, i < (v ++ w).length → ∃ r, (cv ++ cw)[i]? = some r ∧ IntsIn .i64 (fun b => b < W.heap.size) w3 r (rowAt (v ++ w) i)) := rows_join cv1 cv3 cw3
  have s4 : W.heap.size + 1 < w3.heap.size := by omega
  clear cv1 cv2 cv3 cv4 cw1 cw2 cw3 cw4
  go_upto_region 4 with fail
  go_region_held3 (fun w' => w'.cell? ⟨W.heap.size, 0, none⟩ = some (.slice A1 m.out.length a1) ∧ w'.cell? ⟨W.heap.size, 1, none⟩ = some (.slice A2 m.next.length a2) ∧ w'.cell? ⟨W.heap.size + 1, 0, none⟩ = some (.slice A3 o.out.length a3) ∧ w'.cell? ⟨W.heap.size + 1, 1, none⟩ = some (.slice A4 o.next.length a4))
    (first | go_keep | exact ⟨(B6.cell (p := ⟨W.heap.size, 0, none⟩) (by simp; omega)).trans x0, (B6.cell (p := ⟨W.heap.size, 1, none⟩) (by simp; omega)).trans x1, (B6.cell (p := ⟨W.heap.size + 1, 0, none⟩) s4).trans y0, (B6.cell (p := ⟨W.heap.size + 1, 1, none⟩) s4).trans y1⟩ | exact ⟨(B5.cell (p := ⟨W.heap.size, 0, none⟩) (by simp; omega)).trans x0, (B5.cell (p := ⟨W.heap.size, 1, none⟩) (by simp; omega)).trans x1, (B5.cell (p := ⟨W.heap.size + 1, 0, none⟩) s4).trans y0, (B5.cell (p := ⟨W.heap.size + 1, 1, none⟩) s4).trans y1⟩ | exact ⟨(B4.cell (p := ⟨W.heap.size, 0, none⟩) (by simp; omega)).trans x0, (B4.cell (p := ⟨W.heap.size, 1, none⟩) (by simp; omega)).trans x1, (B4.cell (p := ⟨W.heap.size + 1, 0, none⟩) s4).trans y0, (B4.cell (p := ⟨W.heap.size + 1, 1, none⟩) s4).trans y1⟩)
    (first
      | (refine step_app _ (by rfl) (.tmp 36) (.tmp 37) 22 (by rfl) w3.heap.size 25 i0 (.slice none 0 0) 1 24 Try.underlying22 hi hz0 hz1 hz2 rfl (by decide) _ 0 [] (by rfl) O0.out _ _ v.length cv (by rfl) C1.out V1.out (by unfold maxLen; omega) (by omega) (by simp) ?_; intro v1 w4 hown4 hgrow4 _; have B4 : Below w3.heap.size w3 w4 := (((Below.refl _ _).alloc (Nat.le_refl _) _).drew).grown hgrow4 (by simp) (own_ge O0.out); replace hown4 : w4.ownsRow w3.heap.size 25 1 v1 v.length cv := (by simpa using hown4))
      | (refine step_app _ (by rfl) (.tmp 38) (.tmp 39) 22 (by rfl) w3.heap.size 25 i0 (.slice none 0 0) 1 24 Try.underlying22 hi hz0 hz1 hz2 rfl (by decide) _ v.length cv (by rfl) hown4 _ _ w.length cw (by rfl) (C2.out.keep (Same.of_below B4 fun b hb => by have : b < W.heap.size := hb; omega)) V2.out (by unfold maxLen; omega) (by omega) B4.size ?_; intro v2 w5 hown5 hgrow5 _; have B5 : Below w3.heap.size w3 w5 := B4.trans ((Below.refl _ _).grown hgrow5 B4.size (own_ge hown4)))
      | (go_at_call 10; refine (pass_ok m o (v ++ w) (fun b => b < w5.heap.size) _ _ _ _ (fun b hb => hb) (((HM.out.keep S3).keep (Same.of_below B5 fun b hb => by have : b < W.heap.size := hb; omega)).more fun b hb => by have : b < W.heap.size := hb; have := B5.size; omega) (((HO.out.keep S3).keep (Same.of_below B5 fun b hb => by have : b < W.heap.size := hb; omega)).more fun b hb => by have : b < W.heap.size := hb; have := B5.size; omega) (rows_of_own hown5 (by rw [List.length_append]) (fun i hi => by obtain ⟨r, hr, hi'⟩ := R3.out i hi; exact ⟨r, hr, (hi'.keep (Same.of_below B5 fun b hb => by have : b < W.heap.size := hb; omega)).more fun b hb => by have : b < W.heap.size := hb; have := B5.size; omega⟩) fun b _ h => h) (fun x hx => by rcases List.mem_append.1 hx with h | h; (have := LV.out.2 x h; omega); (have := LW.out.2 x h; omega)) F3.out).mono ?_; rintro e w6 ⟨rfl, hb6⟩; have B6 : Below w3.heap.size w3 w6 := B5.trans (hb6.mono B5.size)))
  have s6 := B6.size
  have K6 : Hid (Below W.heap.size W w6) := K3.out.trans (B6.mono (by omega))
  have S6 : Same (fun b => b < W.heap.size) W w6 := Same.of_below K6.out fun _ h => h
  have x6 := hid (And.intro ((B6.cell (p := ⟨W.heap.size, 0, none⟩) (by simp; omega)).trans x0) ((B6.cell (p := ⟨W.heap.size, 1, none⟩) (by simp; omega)).trans x1))
  clear x0 x1 y0 y1 hown4 hown5 hgrow4 hgrow5 B4 B5 B6 hb6
  obtain ⟨x0, x1⟩ := x6.out
  go_wp2_with fail
  refine (pass_ok m m v _ _ _ _ _ (fun b hb => by have : b < W.heap.size := hb; omega) (HM.out.keep S6) (HM.out.keep S6) (HV.out.keep S6) (fun x hx => by have := lv.2 x hx; omega) F4.out).mono ?_
  rintro e w7 ⟨rfl, hb⟩
  have K7 : Hid (Below W.heap.size W w7) := K6.out.trans (hb.mono (by omega))
  clear hb x0 x1
  rw [passVal_self, passVal_append]
  cases h1 : passVal m o v <;> cases h2 : passVal m o w
  all_goals
    clear h1 h2
    go_wp2_with fail
    go_ret
    exact ⟨rfl, K7.out⟩
theorem wsetMore_walk (m : MachD) (mv : Value) (o : MachD) (ov : Value) (v : List (List Int)) (vv : Value) (w : List (List Int)) (wv : Value) (W : World) (hm : MachIn (fun b => b < W.heap.size) W mv m) (ho : MachIn (fun b => b < W.heap.size) W ov o) (hv : RowsIn (fun b => b < W.heap.size) W vv v) (hw : RowsIn (fun b => b < W.heap.size) W wv w) (lv : v.length ≤ 1048576 ∧ ∀ x ∈ v, x.length ≤ 1048576) (lw : w.length ≤ 1048576 ∧ ∀ x ∈ w, x.length ≤ 1048576) :
    Calls Try.prog 4 #[mv, ov, vv, wv] W fun e w' => e = .returned (.bool true) ∧ Below W.heap.size W w' := by
  by_cases f1 : passFault m o v = 0
  · by_cases f2 : passFault m o w = 0
    · obtain ⟨gm, go, hi, h1⟩ := pass_good f1
      obtain ⟨_, _, _, h2⟩ := pass_good f2
      refine more_good m o v w mv ov vv wv W hm ho hv hw lv lw f1 f2 ?_ ((pass_zero gm gm rfl).2 h1)
      exact (pass_zero gm go hi).2 fun x hx => (List.mem_append.1 hx).elim (h1 x) (h2 x)
    · exact more_bad2 m o v w mv ov vv wv W hm ho hv hw lv lw f1 f2 (pass_more (.inr f2)) trivial
  · exact more_bad1 m o v w mv ov vv wv W hm ho hv hw lv lw f1 trivial (pass_more (.inl f1)) trivial
end Go.Proofs.Ytfalbffpdgfepaa
