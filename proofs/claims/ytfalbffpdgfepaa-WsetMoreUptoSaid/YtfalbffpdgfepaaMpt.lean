/- MealyParts returns true, whatever the machine, the state and the words of at most 1048576 letters, and writes nothing that was there. -/
import Derived.Test.YtfalbffpdgfepaaInts
import Derived.Test.YtfalbffpdgfepaaApp
import Derived.Deep.RegionHeld3
namespace Go.Proofs.Ytfalbffpdgfepaa
open Go.RowKit
theorem run_err (m : MachD) (s : Int) (ws : List Int) (F : Nat → Prop) (v u : Value) (w : World) (hF : ∀ b, F b → b < w.heap.size) (h : MachIn F w v m) (hu : IntsIn .i64 F w u ws) (hz : ws.length * 8 ≤ 140737488355328) (hf : runFault m s ws ≠ 0) :
    Calls Try.prog 8 #[v, .int .i64 s, u] w fun e w' => ∃ c : Int, e = .returned (.tuple #[.slice none 0 0, .int .i64 0, .iface 44 (.int .i64 c)]) ∧ Below w.heap.size w w' := by
  refine (run_any m s ws F v u w hF h hu hz).mono ?_
  rintro e w' ⟨h1, _, hb⟩
  exact ⟨_, h1 hf, hb⟩
theorem run_ok (m : MachD) (s : Nat) (ws : List Int) (F : Nat → Prop) (v u : Value) (w : World) (hF : ∀ b, F b → b < w.heap.size) (h : MachIn F w v m) (hu : IntsIn .i64 F w u ws) (hz : ws.length * 8 ≤ 140737488355328) (hf : runFault m s ws = 0) :
    Calls Try.prog 8 #[v, .int .i64 s, u] w fun e w' => ∃ r, e = .returned (.tuple #[r, .int .i64 (goes m s ws : Nat), .nilIface]) ∧ Hid (IntsIn .i64 (Fresh w w') w' r (tells m s ws)) ∧ Below w.heap.size w w' := by
  refine (run_any m s ws F v u w hF h hu hz).mono ?_
  rintro e w' ⟨_, h1, hb⟩
  obtain ⟨r, rfl, hi⟩ := h1 hf
  exact ⟨r, rfl, hi, hb⟩
theorem fault_zero {m : MachD} {s : Int} {ws : List Int} : runFault m s ws = 0 ↔ Good m ∧ 0 ≤ s ∧ s < m.out.length ∧ word m ws := by
  unfold runFault
  constructor
  · intro h
    split at h
    · rename_i h1; exact absurd h h1
    · rename_i h1
      split at h
      · simp at h
      · rename_i h2
        simp only [not_or, Decidable.not_not] at h1 h2
        exact ⟨chk_good h1, by omega, by omega, h2.2.2⟩
  · rintro ⟨h1, h2, h3, h4⟩
    rw [if_neg (by simp [good_chk h1]), if_neg]
    simp only [not_or, Decidable.not_not]
    exact ⟨by omega, by omega, h4⟩
theorem word_append {m : MachD} {v w : List Int} : word m (v ++ w) ↔ word m v ∧ word m w := by
  unfold word; simp only [List.mem_append]
  exact ⟨fun h => ⟨fun x hx => h x (.inl hx), fun x hx => h x (.inr hx)⟩, fun h x hx => hx.elim (h.1 x) (h.2 x)⟩
set_option maxRecDepth 100000 in
set_option maxHeartbeats 1000000 in
theorem parts_good (m : MachD) (s : Nat) (v w : List Int) (mv vv wv : Value) (W : World) (hm : MachIn (fun b => b < W.heap.size) W mv m) (hv : IntsIn .i64 (fun b => b < W.heap.size) W vv v) (hw : IntsIn .i64 (fun b => b < W.heap.size) W wv w) (lv : v.length ≤ 1048576) (lw : w.length ≤ 1048576)
    (f1 : runFault m s v = 0) (f2 : runFault m (goes m s v) w = 0) (f3 : runFault m s (v ++ w) = 0) :
    Calls Try.prog 3 #[mv, .int .i64 s, vv, wv] W fun e w' => e = .returned (.bool true) ∧ Below W.heap.size W w' := by
  have HM := hid hm
  have HV := hid hv
  have HW := hid hw
  have F1 := hid f1
  have F2 := hid f2
  have F3 := hid f3
  obtain ⟨o, nx, rfl, ⟨Ao, co, rfl, ho1, _⟩, ⟨An, cn, rfl, hn1, _⟩⟩ := hm
  obtain ⟨Av, cv, rfl, _, _, _⟩ := hv
  obtain ⟨Aw, cw, rfl, _, _, _⟩ := hw
  clear f1 f2 f3
  go_enter Try.func3, Try.ntmps3
  go_wp2_with fail
  refine (lit_any _).mono ?_
  rintro e w1 ⟨rfl, hb1⟩
  obtain ⟨B1, X1, s1⟩ := box_below hb1
  have S1 : Same (fun b => b < W.heap.size) W w1 := Same.of_below B1 fun _ h => h
  have x0 := Has.cell X1 0
  have x1 := Has.cell X1 1
  simp at x0 x1
  have K1 := hid B1
  have L1 := hid X1
  clear hb1 X1 B1
  go_wp2_with fail
  refine (run_ok m s v _ _ _ _ (fun b hb => by have : b < W.heap.size := hb; omega) (HM.out.keep S1) (HV.out.keep S1) (by omega) F1.out).mono ?_
  rintro e w2 ⟨r1, rfl, I1, hb2⟩
  have s2 := hb2.size
  have X2 := Has.below L1.out hb2 s1
  have K2 : Hid (Below W.heap.size W w2) := K1.out.trans (hb2.mono (by omega))
  have S2 : Same (fun b => b < W.heap.size) W w2 := Same.of_below K2.out fun _ h => h
  clear x0 x1 hb2 S1
  have x0 := Has.cell X2 0
  have x1 := Has.cell X2 1
  simp at x0 x1
  have L2 := hid X2
  clear X2
  go_wp2_with fail
  refine (run_ok m (goes m s v) w _ _ _ _ (fun b hb => by have : b < W.heap.size := hb; omega) (HM.out.keep S2) (HW.out.keep S2) (by omega) F2.out).mono ?_
  rintro e w3 ⟨r2, rfl, I2, hb3⟩
  have s3 := hb3.size
  have J1 := hid (I1.out.keep (Same.of_below hb3 fun b hb => hb.2))
  have X3 := Has.below L2.out hb3 (by omega)
  have K3 : Hid (Below W.heap.size W w3) := K2.out.trans (hb3.mono (by omega))
  have S3 : Same (fun b => b < W.heap.size) W w3 := Same.of_below K3.out fun _ h => h
  clear x0 x1 hb3 S2 I1
  have x0 := Has.cell X3 0
  have x1 := Has.cell X3 1
  simp at x0 x1
  have L3 := hid X3
  clear X3
  obtain ⟨i0, hi, hz0, hz1, hz2⟩ := info_parts infoInt
  have O0 := hid (World.ownsRow_lit (e := 3) (size := 1) (base := w3.heap.size) w3 #[] 0 (Nat.le_refl _) (by unfold maxLen; omega) rfl)
  have C1 := hid ((HV.out.keep S3).cells.keep (w' := w3.alloc (Obj.cells #[] 3)) (fun b hb => Below.heap_alloc _ _ _ (by have : b < W.heap.size := hb; omega)))
  have s4 : W.heap.size < w3.heap.size := by omega
  have E1 : Hid (List.map (Value.int .i64) v ++ List.map (Value.int .i64) w = List.map (Value.int .i64) (v ++ w)) := by show _ = _; simp
  have WV : Hid (∀ z ∈ v ++ w, (Lit.int .i64 z).wf = true) := by
    obtain ⟨_, _, _, _, wf1, _⟩ := HV.out
    obtain ⟨_, _, _, _, wf2, _⟩ := HW.out
    intro z hz
    rcases List.mem_append.1 hz with h | h
    · exact wf1 z h
    · exact wf2 z h
  go_upto_region 4 with fail
  go_region_held3 (fun w' => w'.cell? ⟨W.heap.size, 0, none⟩ = some (.slice Ao m.out.length co) ∧ w'.cell? ⟨W.heap.size, 1, none⟩ = some (.slice An m.next.length cn))
    (first | go_keep | exact ⟨(B6.cell (p := ⟨W.heap.size, 0, none⟩) s4).trans x0, (B6.cell (p := ⟨W.heap.size, 1, none⟩) s4).trans x1⟩ | exact ⟨(B5.cell (p := ⟨W.heap.size, 0, none⟩) s4).trans x0, (B5.cell (p := ⟨W.heap.size, 1, none⟩) s4).trans x1⟩ | exact ⟨(B4.cell (p := ⟨W.heap.size, 0, none⟩) s4).trans x0, (B4.cell (p := ⟨W.heap.size, 1, none⟩) s4).trans x1⟩)
    (first
      | (refine step_app _ (by rfl) (.tmp 40) (.tmp 41) 25 (by rfl) w3.heap.size 3 i0 (.int .i64 0) 1 8 Try.underlying25 hi hz0 hz1 hz2 rfl (by decide) _ 0 [] (by rfl) O0.out _ _ v.length (v.map (Value.int .i64)) (by rfl) C1.out (ints_one _ _) (by unfold maxLen; omega) (by omega) (by simp) ?_; intro v1 w4 hown4 hgrow4 _; have B4 : Below w3.heap.size w3 w4 := (((Below.refl _ _).alloc (Nat.le_refl _) _).drew).grown hgrow4 (by simp) (by intro k hk; simp [Value.ownBlock] at hk; omega))
      | (refine step_app _ (by rfl) (.tmp 42) (.tmp 43) 25 (by rfl) w3.heap.size 3 i0 (.int .i64 0) 1 8 Try.underlying25 hi hz0 hz1 hz2 rfl (by decide) _ v.length _ (by rfl) (by rw [Nat.zero_add] at hown4; exact hown4) _ _ w.length (w.map (Value.int .i64)) (by rfl) ((HW.out.keep S3).cells.keep (Same.of_below B4 fun b hb => by have : b < W.heap.size := hb; omega)) (ints_one _ _) (by unfold maxLen; omega) (by omega) B4.size ?_; intro v2 w5 hown5 hgrow5 _; have B5 : Below w3.heap.size w3 w5 := B4.trans ((Below.refl _ _).grown hgrow5 B4.size (own_ge hown4)); rw [List.nil_append, E1.out] at hown5)
      | (go_at_call 8; refine (run_ok m s (v ++ w) (fun b => b < w5.heap.size) _ _ _ (fun b hb => hb) ((HM.out.keep S3).keep (Same.of_below B5 fun b hb => by have : b < W.heap.size := hb; omega) |>.more fun b hb => by have : b < W.heap.size := hb; have := B5.size; omega) ((ints_of_own hown5 WV.out).more fun b hb => hb.2) (by rw [List.length_append]; omega) F3.out).mono ?_; rintro e w6 ⟨r3, rfl, I3, hb6⟩; have B6 : Below w3.heap.size w3 w6 := B5.trans (hb6.mono B5.size)))
  have s6 := B6.size
  have K6 : Hid (Below W.heap.size W w6) := K3.out.trans (B6.mono (by omega))
  have J16 := hid ((J1.out.keep (Same.of_below B6 fun b hb => by have := hb.2; omega)).cells.keep (w' := w6.alloc (Obj.cells #[] 3)) (fun b hb => Below.heap_alloc _ _ _ (by have := hb.2; omega)))
  have J26 := hid ((I2.out.keep (Same.of_below B6 fun b hb => hb.2)).cells)
  have J36 := hid I3.out
  have O6 := hid (World.ownsRow_lit (e := 3) (size := 1) (base := w6.heap.size) w6 #[] 0 (Nat.le_refl _) (by unfold maxLen; omega) rfl)
  have t1 := tells_length m v s
  have t2 := tells_length m w (goes m s v)
  rw [t1] at J16
  rw [t2] at J26
  have WT : Hid (∀ z ∈ tells m s v ++ tells m (goes m s v) w, (Lit.int .i64 z).wf = true) := by
    obtain ⟨_, _, _, _, wf1, _⟩ := J1.out
    obtain ⟨_, _, _, _, wf2, _⟩ := I2.out
    intro z hz
    rcases List.mem_append.1 hz with h | h
    · exact wf1 z h
    · exact wf2 z h
  have E2 : Hid (List.map (Value.int .i64) (tells m s v) ++ List.map (Value.int .i64) (tells m (goes m s v) w) = List.map (Value.int .i64) (tells m s v ++ tells m (goes m s v) w)) := by show _ = _; simp
  have T1 := hid (tells_append m v s w)
  have T2 := hid (goes_append m v s w)
  have HL := hid (And.intro t1 t2)
  clear hown4 hown5 hgrow4 hgrow5 B4 B5 hb6 t1 t2 x0 x1
  go_wp2_with (first
    | (at_builtin; refine wpList_app _ rfl (.tmp 64) (.tmp 65) 25 rfl w6.heap.size 3 i0 (.int .i64 0) 1 8 Try.underlying25 hi hz0 hz1 hz2 rfl (by decide) _ 0 [] rfl O6.out _ _ v.length _ rfl J16.out (ints_one _ _) (by unfold maxLen; omega) (by omega) (by simp) ?_; intro v1 w7 hown7 hgrow7 _; have B7 : Below w6.heap.size w6 w7 := ((Below.refl _ _).alloc (Nat.le_refl _) _).grown hgrow7 (by simp) (own_ge O6.out); replace hown7 : w7.ownsRow w6.heap.size 3 1 v1 v.length ((tells m s v).map (Value.int .i64)) := by simpa using hown7)
    | (at_builtin; refine wpList_app _ rfl (.tmp 66) (.tmp 67) 25 rfl w6.heap.size 3 i0 (.int .i64 0) 1 8 Try.underlying25 hi hz0 hz1 hz2 rfl (by decide) _ v.length _ rfl hown7 _ _ w.length _ rfl (J26.out.keep (Same.of_below B7 fun b hb => by have := hb.2; omega)) (ints_one _ _) (by unfold maxLen; omega) (by omega) B7.size ?_; intro v2 w8 hown8 hgrow8 _; have B8 : Below w6.heap.size w6 w8 := B7.trans ((Below.refl _ _).grown hgrow8 B7.size (own_ge hown7)); replace hown8 : w8.ownsRow w6.heap.size 3 1 v2 (v.length + w.length) ((tells m s v ++ tells m (goes m s v) w).map (Value.int .i64)) := (by simpa using hown8); clear hown7 hgrow7 hgrow8))
  have s8 := B8.size
  refine (ints_any (tells m s (v ++ w)) (tells m s v ++ tells m (goes m s v) w) (fun b => b < w8.heap.size) _ _ _ ((J36.out.keep (Same.of_below B8 fun b hb => hb.2)).more fun b hb => by have := hb.2; omega) ((ints_of_own hown8 WT.out).more fun b hb => hb.2)).mono ?_
  rintro e w9 ⟨rfl, q, rfl⟩
  rw [T1.out, T2.out]
  have g : decide (tells m s v ++ tells m (goes m s v) w = tells m s v ++ tells m (goes m s v) w) = true := by simp
  have g2 : ((goes m (goes m s v) w : Int) == (goes m (goes m s v) w : Int)) = true := by simp
  rw [g]
  have K8 : Hid (Below W.heap.size W w8) := K6.out.trans (B8.mono (by omega))
  clear hown8 B8 B7 B6
  go_wp2_with fail
  go_ret
  exact ⟨rfl, below_drewN K8.out _⟩
set_option maxRecDepth 100000 in
set_option maxHeartbeats 1000000 in
theorem parts_bad1 (m : MachD) (s : Int) (v w : List Int) (mv vv wv : Value) (W : World) (hm : MachIn (fun b => b < W.heap.size) W mv m) (hv : IntsIn .i64 (fun b => b < W.heap.size) W vv v) (hw : IntsIn .i64 (fun b => b < W.heap.size) W wv w) (lv : v.length ≤ 1048576) (lw : w.length ≤ 1048576)
    (f1 : runFault m s v ≠ 0) (f2 : runFault m 0 w ≠ 0) (f3 : runFault m s (v ++ w) ≠ 0) :
    Calls Try.prog 3 #[mv, .int .i64 s, vv, wv] W fun e w' => e = .returned (.bool true) ∧ Below W.heap.size W w' := by
  have HM := hid hm
  have HV := hid hv
  have HW := hid hw
  have F1 := hid f1
  have F2 := hid f2
  have F3 := hid f3
  obtain ⟨o, nx, rfl, ⟨Ao, co, rfl, ho1, _⟩, ⟨An, cn, rfl, hn1, _⟩⟩ := hm
  obtain ⟨Av, cv, rfl, _, _, _⟩ := hv
  obtain ⟨Aw, cw, rfl, _, _, _⟩ := hw
  clear f1 f2 f3
  go_enter Try.func3, Try.ntmps3
  go_wp2_with fail
  refine (lit_any _).mono ?_
  rintro e w1 ⟨rfl, hb1⟩
  obtain ⟨B1, X1, s1⟩ := box_below hb1
  have S1 : Same (fun b => b < W.heap.size) W w1 := Same.of_below B1 fun _ h => h
  have x0 := Has.cell X1 0
  have x1 := Has.cell X1 1
  simp at x0 x1
  have K1 := hid B1
  have L1 := hid X1
  clear hb1 X1 B1
  go_wp2_with fail
  refine (run_err m s v _ _ _ _ (fun b hb => by have : b < W.heap.size := hb; omega) (HM.out.keep S1) (HV.out.keep S1) (by omega) F1.out).mono ?_
  rintro e w2 ⟨c1, rfl, hb2⟩
  have s2 := hb2.size
  have X2 := Has.below L1.out hb2 s1
  have K2 : Hid (Below W.heap.size W w2) := K1.out.trans (hb2.mono (by omega))
  have S2 : Same (fun b => b < W.heap.size) W w2 := Same.of_below K2.out fun _ h => h
  clear x0 x1 hb2 S1
  have x0 := Has.cell X2 0
  have x1 := Has.cell X2 1
  simp at x0 x1
  have L2 := hid X2
  clear X2
  go_wp2_with fail
  refine (run_err m 0 w _ _ _ _ (fun b hb => by have : b < W.heap.size := hb; omega) (HM.out.keep S2) (HW.out.keep S2) (by omega) F2.out).mono ?_
  rintro e w3 ⟨c2, rfl, hb3⟩
  have s3 := hb3.size
  have X3 := Has.below L2.out hb3 (by omega)
  have K3 : Hid (Below W.heap.size W w3) := K2.out.trans (hb3.mono (by omega))
  have S3 : Same (fun b => b < W.heap.size) W w3 := Same.of_below K3.out fun _ h => h
  clear x0 x1 hb3 S2
  have x0 := Has.cell X3 0
  have x1 := Has.cell X3 1
  simp at x0 x1
  have L3 := hid X3
  clear X3
  obtain ⟨i0, hi, hz0, hz1, hz2⟩ := info_parts infoInt
  have O0 := hid (World.ownsRow_lit (e := 3) (size := 1) (base := w3.heap.size) w3 #[] 0 (Nat.le_refl _) (by unfold maxLen; omega) rfl)
  have C1 := hid ((HV.out.keep S3).cells.keep (w' := w3.alloc (Obj.cells #[] 3)) (fun b hb => Below.heap_alloc _ _ _ (by have : b < W.heap.size := hb; omega)))
  have s4 : W.heap.size < w3.heap.size := by omega
  have E1 : Hid (List.map (Value.int .i64) v ++ List.map (Value.int .i64) w = List.map (Value.int .i64) (v ++ w)) := by show _ = _; simp
  have WV : Hid (∀ z ∈ v ++ w, (Lit.int .i64 z).wf = true) := by
    obtain ⟨_, _, _, _, wf1, _⟩ := HV.out
    obtain ⟨_, _, _, _, wf2, _⟩ := HW.out
    intro z hz
    rcases List.mem_append.1 hz with h | h
    · exact wf1 z h
    · exact wf2 z h
  go_upto_region 4 with fail
  go_region_held3 (fun w' => w'.cell? ⟨W.heap.size, 0, none⟩ = some (.slice Ao m.out.length co) ∧ w'.cell? ⟨W.heap.size, 1, none⟩ = some (.slice An m.next.length cn))
    (first | go_keep | exact ⟨(B6.cell (p := ⟨W.heap.size, 0, none⟩) s4).trans x0, (B6.cell (p := ⟨W.heap.size, 1, none⟩) s4).trans x1⟩ | exact ⟨(B5.cell (p := ⟨W.heap.size, 0, none⟩) s4).trans x0, (B5.cell (p := ⟨W.heap.size, 1, none⟩) s4).trans x1⟩ | exact ⟨(B4.cell (p := ⟨W.heap.size, 0, none⟩) s4).trans x0, (B4.cell (p := ⟨W.heap.size, 1, none⟩) s4).trans x1⟩)
    (first
      | (refine step_app _ (by rfl) (.tmp 40) (.tmp 41) 25 (by rfl) w3.heap.size 3 i0 (.int .i64 0) 1 8 Try.underlying25 hi hz0 hz1 hz2 rfl (by decide) _ 0 [] (by rfl) O0.out _ _ v.length (v.map (Value.int .i64)) (by rfl) C1.out (ints_one _ _) (by unfold maxLen; omega) (by omega) (by simp) ?_; intro v1 w4 hown4 hgrow4 _; have B4 : Below w3.heap.size w3 w4 := (((Below.refl _ _).alloc (Nat.le_refl _) _).drew).grown hgrow4 (by simp) (by intro k hk; simp [Value.ownBlock] at hk; omega))
      | (refine step_app _ (by rfl) (.tmp 42) (.tmp 43) 25 (by rfl) w3.heap.size 3 i0 (.int .i64 0) 1 8 Try.underlying25 hi hz0 hz1 hz2 rfl (by decide) _ v.length _ (by rfl) (by rw [Nat.zero_add] at hown4; exact hown4) _ _ w.length (w.map (Value.int .i64)) (by rfl) ((HW.out.keep S3).cells.keep (Same.of_below B4 fun b hb => by have : b < W.heap.size := hb; omega)) (ints_one _ _) (by unfold maxLen; omega) (by omega) B4.size ?_; intro v2 w5 hown5 hgrow5 _; have B5 : Below w3.heap.size w3 w5 := B4.trans ((Below.refl _ _).grown hgrow5 B4.size (own_ge hown4)); rw [List.nil_append, E1.out] at hown5)
      | (go_at_call 8; refine (run_err m s (v ++ w) (fun b => b < w5.heap.size) _ _ _ (fun b hb => hb) ((HM.out.keep S3).keep (Same.of_below B5 fun b hb => by have : b < W.heap.size := hb; omega) |>.more fun b hb => by have : b < W.heap.size := hb; have := B5.size; omega) ((ints_of_own hown5 WV.out).more fun b hb => hb.2) (by rw [List.length_append]; omega) F3.out).mono ?_; rintro e w6 ⟨c3, rfl, hb6⟩; have B6 : Below w3.heap.size w3 w6 := B5.trans (hb6.mono B5.size)))
  have s6 := B6.size
  have K6 : Hid (Below W.heap.size W w6) := K3.out.trans (B6.mono (by omega))
  clear hown4 hown5 hgrow4 hgrow5 B4 B5 hb6 x0 x1
  go_wp2_with fail
  go_ret
  exact ⟨rfl, K6.out⟩
set_option maxRecDepth 100000 in
set_option maxHeartbeats 1000000 in
theorem parts_bad2 (m : MachD) (s : Int) (v w : List Int) (mv vv wv : Value) (W : World) (hm : MachIn (fun b => b < W.heap.size) W mv m) (hv : IntsIn .i64 (fun b => b < W.heap.size) W vv v) (hw : IntsIn .i64 (fun b => b < W.heap.size) W wv w) (lv : v.length ≤ 1048576) (lw : w.length ≤ 1048576)
    (f1 : runFault m s v ≠ 0) (f2 : runFault m 0 w = 0) (f3 : runFault m s (v ++ w) ≠ 0) :
    Calls Try.prog 3 #[mv, .int .i64 s, vv, wv] W fun e w' => e = .returned (.bool true) ∧ Below W.heap.size W w' := by
  have HM := hid hm
  have HV := hid hv
  have HW := hid hw
  have F1 := hid f1
  have F2 := hid f2
  have F3 := hid f3
  obtain ⟨o, nx, rfl, ⟨Ao, co, rfl, ho1, _⟩, ⟨An, cn, rfl, hn1, _⟩⟩ := hm
  obtain ⟨Av, cv, rfl, _, _, _⟩ := hv
  obtain ⟨Aw, cw, rfl, _, _, _⟩ := hw
  clear f1 f2 f3
  go_enter Try.func3, Try.ntmps3
  go_wp2_with fail
  refine (lit_any _).mono ?_
  rintro e w1 ⟨rfl, hb1⟩
  obtain ⟨B1, X1, s1⟩ := box_below hb1
  have S1 : Same (fun b => b < W.heap.size) W w1 := Same.of_below B1 fun _ h => h
  have x0 := Has.cell X1 0
  have x1 := Has.cell X1 1
  simp at x0 x1
  have K1 := hid B1
  have L1 := hid X1
  clear hb1 X1 B1
  go_wp2_with fail
  refine (run_err m s v _ _ _ _ (fun b hb => by have : b < W.heap.size := hb; omega) (HM.out.keep S1) (HV.out.keep S1) (by omega) F1.out).mono ?_
  rintro e w2 ⟨c1, rfl, hb2⟩
  have s2 := hb2.size
  have X2 := Has.below L1.out hb2 s1
  have K2 : Hid (Below W.heap.size W w2) := K1.out.trans (hb2.mono (by omega))
  have S2 : Same (fun b => b < W.heap.size) W w2 := Same.of_below K2.out fun _ h => h
  clear x0 x1 hb2 S1
  have x0 := Has.cell X2 0
  have x1 := Has.cell X2 1
  simp at x0 x1
  have L2 := hid X2
  clear X2
  go_wp2_with fail
  refine (run_ok m 0 w _ _ _ _ (fun b hb => by have : b < W.heap.size := hb; omega) (HM.out.keep S2) (HW.out.keep S2) (by omega) F2.out).mono ?_
  rintro e w3 ⟨r2, rfl, _, hb3⟩
  have s3 := hb3.size
  have X3 := Has.below L2.out hb3 (by omega)
  have K3 : Hid (Below W.heap.size W w3) := K2.out.trans (hb3.mono (by omega))
  have S3 : Same (fun b => b < W.heap.size) W w3 := Same.of_below K3.out fun _ h => h
  clear x0 x1 hb3 S2
  have x0 := Has.cell X3 0
  have x1 := Has.cell X3 1
  simp at x0 x1
  have L3 := hid X3
  clear X3
  obtain ⟨i0, hi, hz0, hz1, hz2⟩ := info_parts infoInt
  have O0 := hid (World.ownsRow_lit (e := 3) (size := 1) (base := w3.heap.size) w3 #[] 0 (Nat.le_refl _) (by unfold maxLen; omega) rfl)
  have C1 := hid ((HV.out.keep S3).cells.keep (w' := w3.alloc (Obj.cells #[] 3)) (fun b hb => Below.heap_alloc _ _ _ (by have : b < W.heap.size := hb; omega)))
  have s4 : W.heap.size < w3.heap.size := by omega
  have E1 : Hid (List.map (Value.int .i64) v ++ List.map (Value.int .i64) w = List.map (Value.int .i64) (v ++ w)) := by show _ = _; simp
  have WV : Hid (∀ z ∈ v ++ w, (Lit.int .i64 z).wf = true) := by
    obtain ⟨_, _, _, _, wf1, _⟩ := HV.out
    obtain ⟨_, _, _, _, wf2, _⟩ := HW.out
    intro z hz
    rcases List.mem_append.1 hz with h | h
    · exact wf1 z h
    · exact wf2 z h
  go_upto_region 4 with fail
  go_region_held3 (fun w' => w'.cell? ⟨W.heap.size, 0, none⟩ = some (.slice Ao m.out.length co) ∧ w'.cell? ⟨W.heap.size, 1, none⟩ = some (.slice An m.next.length cn))
    (first | go_keep | exact ⟨(B6.cell (p := ⟨W.heap.size, 0, none⟩) s4).trans x0, (B6.cell (p := ⟨W.heap.size, 1, none⟩) s4).trans x1⟩ | exact ⟨(B5.cell (p := ⟨W.heap.size, 0, none⟩) s4).trans x0, (B5.cell (p := ⟨W.heap.size, 1, none⟩) s4).trans x1⟩ | exact ⟨(B4.cell (p := ⟨W.heap.size, 0, none⟩) s4).trans x0, (B4.cell (p := ⟨W.heap.size, 1, none⟩) s4).trans x1⟩)
    (first
      | (refine step_app _ (by rfl) (.tmp 40) (.tmp 41) 25 (by rfl) w3.heap.size 3 i0 (.int .i64 0) 1 8 Try.underlying25 hi hz0 hz1 hz2 rfl (by decide) _ 0 [] (by rfl) O0.out _ _ v.length (v.map (Value.int .i64)) (by rfl) C1.out (ints_one _ _) (by unfold maxLen; omega) (by omega) (by simp) ?_; intro v1 w4 hown4 hgrow4 _; have B4 : Below w3.heap.size w3 w4 := (((Below.refl _ _).alloc (Nat.le_refl _) _).drew).grown hgrow4 (by simp) (by intro k hk; simp [Value.ownBlock] at hk; omega))
      | (refine step_app _ (by rfl) (.tmp 42) (.tmp 43) 25 (by rfl) w3.heap.size 3 i0 (.int .i64 0) 1 8 Try.underlying25 hi hz0 hz1 hz2 rfl (by decide) _ v.length _ (by rfl) (by rw [Nat.zero_add] at hown4; exact hown4) _ _ w.length (w.map (Value.int .i64)) (by rfl) ((HW.out.keep S3).cells.keep (Same.of_below B4 fun b hb => by have : b < W.heap.size := hb; omega)) (ints_one _ _) (by unfold maxLen; omega) (by omega) B4.size ?_; intro v2 w5 hown5 hgrow5 _; have B5 : Below w3.heap.size w3 w5 := B4.trans ((Below.refl _ _).grown hgrow5 B4.size (own_ge hown4)); rw [List.nil_append, E1.out] at hown5)
      | (go_at_call 8; refine (run_err m s (v ++ w) (fun b => b < w5.heap.size) _ _ _ (fun b hb => hb) ((HM.out.keep S3).keep (Same.of_below B5 fun b hb => by have : b < W.heap.size := hb; omega) |>.more fun b hb => by have : b < W.heap.size := hb; have := B5.size; omega) ((ints_of_own hown5 WV.out).more fun b hb => hb.2) (by rw [List.length_append]; omega) F3.out).mono ?_; rintro e w6 ⟨c3, rfl, hb6⟩; have B6 : Below w3.heap.size w3 w6 := B5.trans (hb6.mono B5.size)))
  have s6 := B6.size
  have K6 : Hid (Below W.heap.size W w6) := K3.out.trans (B6.mono (by omega))
  clear hown4 hown5 hgrow4 hgrow5 B4 B5 hb6 x0 x1
  go_wp2_with fail
  go_ret
  exact ⟨rfl, K6.out⟩
set_option maxRecDepth 100000 in
set_option maxHeartbeats 1000000 in
theorem parts_bad3 (m : MachD) (s : Nat) (v w : List Int) (mv vv wv : Value) (W : World) (hm : MachIn (fun b => b < W.heap.size) W mv m) (hv : IntsIn .i64 (fun b => b < W.heap.size) W vv v) (hw : IntsIn .i64 (fun b => b < W.heap.size) W wv w) (lv : v.length ≤ 1048576) (lw : w.length ≤ 1048576)
    (f1 : runFault m s v = 0) (f2 : runFault m (goes m s v) w ≠ 0) (f3 : runFault m s (v ++ w) ≠ 0) :
    Calls Try.prog 3 #[mv, .int .i64 s, vv, wv] W fun e w' => e = .returned (.bool true) ∧ Below W.heap.size W w' := by
  have HM := hid hm
  have HV := hid hv
  have HW := hid hw
  have F1 := hid f1
  have F2 := hid f2
  have F3 := hid f3
  obtain ⟨o, nx, rfl, ⟨Ao, co, rfl, ho1, _⟩, ⟨An, cn, rfl, hn1, _⟩⟩ := hm
  obtain ⟨Av, cv, rfl, _, _, _⟩ := hv
  obtain ⟨Aw, cw, rfl, _, _, _⟩ := hw
  clear f1 f2 f3
  go_enter Try.func3, Try.ntmps3
  go_wp2_with fail
  refine (lit_any _).mono ?_
  rintro e w1 ⟨rfl, hb1⟩
  obtain ⟨B1, X1, s1⟩ := box_below hb1
  have S1 : Same (fun b => b < W.heap.size) W w1 := Same.of_below B1 fun _ h => h
  have x0 := Has.cell X1 0
  have x1 := Has.cell X1 1
  simp at x0 x1
  have K1 := hid B1
  have L1 := hid X1
  clear hb1 X1 B1
  go_wp2_with fail
  refine (run_ok m s v _ _ _ _ (fun b hb => by have : b < W.heap.size := hb; omega) (HM.out.keep S1) (HV.out.keep S1) (by omega) F1.out).mono ?_
  rintro e w2 ⟨r1, rfl, _, hb2⟩
  have s2 := hb2.size
  have X2 := Has.below L1.out hb2 s1
  have K2 : Hid (Below W.heap.size W w2) := K1.out.trans (hb2.mono (by omega))
  have S2 : Same (fun b => b < W.heap.size) W w2 := Same.of_below K2.out fun _ h => h
  clear x0 x1 hb2 S1
  have x0 := Has.cell X2 0
  have x1 := Has.cell X2 1
  simp at x0 x1
  have L2 := hid X2
  clear X2
  go_wp2_with fail
  refine (run_err m (goes m s v) w _ _ _ _ (fun b hb => by have : b < W.heap.size := hb; omega) (HM.out.keep S2) (HW.out.keep S2) (by omega) F2.out).mono ?_
  rintro e w3 ⟨c2, rfl, hb3⟩
  have s3 := hb3.size
  have X3 := Has.below L2.out hb3 (by omega)
  have K3 : Hid (Below W.heap.size W w3) := K2.out.trans (hb3.mono (by omega))
  have S3 : Same (fun b => b < W.heap.size) W w3 := Same.of_below K3.out fun _ h => h
  clear x0 x1 hb3 S2
  have x0 := Has.cell X3 0
  have x1 := Has.cell X3 1
  simp at x0 x1
  have L3 := hid X3
  clear X3
  obtain ⟨i0, hi, hz0, hz1, hz2⟩ := info_parts infoInt
  have O0 := hid (World.ownsRow_lit (e := 3) (size := 1) (base := w3.heap.size) w3 #[] 0 (Nat.le_refl _) (by unfold maxLen; omega) rfl)
  have C1 := hid ((HV.out.keep S3).cells.keep (w' := w3.alloc (Obj.cells #[] 3)) (fun b hb => Below.heap_alloc _ _ _ (by have : b < W.heap.size := hb; omega)))
  have s4 : W.heap.size < w3.heap.size := by omega
  have E1 : Hid (List.map (Value.int .i64) v ++ List.map (Value.int .i64) w = List.map (Value.int .i64) (v ++ w)) := by show _ = _; simp
  have WV : Hid (∀ z ∈ v ++ w, (Lit.int .i64 z).wf = true) := by
    obtain ⟨_, _, _, _, wf1, _⟩ := HV.out
    obtain ⟨_, _, _, _, wf2, _⟩ := HW.out
    intro z hz
    rcases List.mem_append.1 hz with h | h
    · exact wf1 z h
    · exact wf2 z h
  go_upto_region 4 with fail
  go_region_held3 (fun w' => w'.cell? ⟨W.heap.size, 0, none⟩ = some (.slice Ao m.out.length co) ∧ w'.cell? ⟨W.heap.size, 1, none⟩ = some (.slice An m.next.length cn))
    (first | go_keep | exact ⟨(B6.cell (p := ⟨W.heap.size, 0, none⟩) s4).trans x0, (B6.cell (p := ⟨W.heap.size, 1, none⟩) s4).trans x1⟩ | exact ⟨(B5.cell (p := ⟨W.heap.size, 0, none⟩) s4).trans x0, (B5.cell (p := ⟨W.heap.size, 1, none⟩) s4).trans x1⟩ | exact ⟨(B4.cell (p := ⟨W.heap.size, 0, none⟩) s4).trans x0, (B4.cell (p := ⟨W.heap.size, 1, none⟩) s4).trans x1⟩)
    (first
      | (refine step_app _ (by rfl) (.tmp 40) (.tmp 41) 25 (by rfl) w3.heap.size 3 i0 (.int .i64 0) 1 8 Try.underlying25 hi hz0 hz1 hz2 rfl (by decide) _ 0 [] (by rfl) O0.out _ _ v.length (v.map (Value.int .i64)) (by rfl) C1.out (ints_one _ _) (by unfold maxLen; omega) (by omega) (by simp) ?_; intro v1 w4 hown4 hgrow4 _; have B4 : Below w3.heap.size w3 w4 := (((Below.refl _ _).alloc (Nat.le_refl _) _).drew).grown hgrow4 (by simp) (by intro k hk; simp [Value.ownBlock] at hk; omega))
      | (refine step_app _ (by rfl) (.tmp 42) (.tmp 43) 25 (by rfl) w3.heap.size 3 i0 (.int .i64 0) 1 8 Try.underlying25 hi hz0 hz1 hz2 rfl (by decide) _ v.length _ (by rfl) (by rw [Nat.zero_add] at hown4; exact hown4) _ _ w.length (w.map (Value.int .i64)) (by rfl) ((HW.out.keep S3).cells.keep (Same.of_below B4 fun b hb => by have : b < W.heap.size := hb; omega)) (ints_one _ _) (by unfold maxLen; omega) (by omega) B4.size ?_; intro v2 w5 hown5 hgrow5 _; have B5 : Below w3.heap.size w3 w5 := B4.trans ((Below.refl _ _).grown hgrow5 B4.size (own_ge hown4)); rw [List.nil_append, E1.out] at hown5)
      | (go_at_call 8; refine (run_err m s (v ++ w) (fun b => b < w5.heap.size) _ _ _ (fun b hb => hb) ((HM.out.keep S3).keep (Same.of_below B5 fun b hb => by have : b < W.heap.size := hb; omega) |>.more fun b hb => by have : b < W.heap.size := hb; have := B5.size; omega) ((ints_of_own hown5 WV.out).more fun b hb => hb.2) (by rw [List.length_append]; omega) F3.out).mono ?_; rintro e w6 ⟨c3, rfl, hb6⟩; have B6 : Below w3.heap.size w3 w6 := B5.trans (hb6.mono B5.size)))
  have s6 := B6.size
  have K6 : Hid (Below W.heap.size W w6) := K3.out.trans (B6.mono (by omega))
  clear hown4 hown5 hgrow4 hgrow5 B4 B5 hb6 x0 x1
  go_wp2_with fail
  go_ret
  exact ⟨rfl, K6.out⟩
theorem mparts_any (m : MachD) (s : Int) (v w : List Int) (mv vv wv : Value) (W : World) (hm : MachIn (fun b => b < W.heap.size) W mv m) (hv : IntsIn .i64 (fun b => b < W.heap.size) W vv v) (hw : IntsIn .i64 (fun b => b < W.heap.size) W wv w) (lv : v.length ≤ 1048576) (lw : w.length ≤ 1048576) :
    Calls Try.prog 3 #[mv, .int .i64 s, vv, wv] W fun e w' => e = .returned (.bool true) ∧ Below W.heap.size W w' := by
  by_cases f1 : runFault m s v = 0
  · obtain ⟨g, h0, h1, hwv⟩ := fault_zero.1 f1
    obtain ⟨S, rfl⟩ : ∃ S : Nat, s = S := ⟨s.toNat, by omega⟩
    have hl := goes_lt g v S (by omega) hwv
    by_cases f2 : runFault m (goes m S v) w = 0
    · have f3 : runFault m S (v ++ w) = 0 := fault_zero.2 ⟨g, h0, h1, word_append.2 ⟨hwv, (fault_zero.1 f2).2.2.2⟩⟩
      exact parts_good m S v w mv vv wv W hm hv hw lv lw f1 f2 f3
    · have f3 : runFault m S (v ++ w) ≠ 0 := fun h => f2 (fault_zero.2 ⟨g, by omega, by omega, (word_append.1 (fault_zero.1 h).2.2.2).2⟩)
      exact parts_bad3 m S v w mv vv wv W hm hv hw lv lw f1 f2 f3
  · have f3 : runFault m s (v ++ w) ≠ 0 := fun h => by
      obtain ⟨g, h0, h1, hwv⟩ := fault_zero.1 h
      exact f1 (fault_zero.2 ⟨g, h0, h1, (word_append.1 hwv).1⟩)
    by_cases f2 : runFault m 0 w = 0
    · exact parts_bad2 m s v w mv vv wv W hm hv hw lv lw f1 f2 f3
    · exact parts_bad1 m s v w mv vv wv W hm hv hw lv lw f1 f2 f3
theorem mealyParts_walk (m : MachD) (mv : Value) (s : Int) (v : List Int) (vv : Value) (w : List Int) (wv : Value) (W : World) (hm : MachIn (fun b => b < W.heap.size) W mv m) (hv : IntsIn .i64 (fun b => b < W.heap.size) W vv v) (hw : IntsIn .i64 (fun b => b < W.heap.size) W wv w) (lv : v.length ≤ 1048576) (lw : w.length ≤ 1048576) :
    Calls Try.prog 3 #[mv, .int .i64 s, vv, wv] W fun e w' => e = .returned (.bool true) ∧ Below W.heap.size W w' := mparts_any m s v w mv vv wv W hm hv hw lv lw
end Go.Proofs.Ytfalbffpdgfepaa
