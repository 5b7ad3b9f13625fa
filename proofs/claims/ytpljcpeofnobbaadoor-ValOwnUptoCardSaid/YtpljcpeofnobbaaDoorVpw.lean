/- (*val.reader).value, walked: what it reads, what it leaves. Conditions: what strings.IndexAny answers of the texts in question; the errors of strconv hold what they are laid with. -/
import Derived.Test.YtpljcpeofnobbaaDoorVpm
import Derived.Test.YtpljcpeofnobbaaDoorVtu
import Derived.Test.YtpljcpeofnobbaaDoorVro
import Derived.RegionTactic
import Derived.ChangeAlike
import Derived.BigRegion
import Derived.Deep.DeepCutAuto
namespace Go.Proofs.YtpljcpeofnobbaaDoor
open Go.RowKit Go.Deep
theorem infoVal3 : (Tryd.prog.info? 24).map (fun i => (i.zero, i.size, i.bytes)) = some (some (.agg #[.bool false, .int .i64 0, .slice none 0 0]), 3, 40) := by kernel_rfl
/-- strconv's errors are laid -/
def ErrsL (w : World) : Prop := (∃ ev, w.cell? ⟨2, 0, none⟩ = some ev ∧ (ev = .nilIface ∨ ∃ te pe, ev = .iface te pe)) ∧ ∃ ev, w.cell? ⟨3, 0, none⟩ = some ev ∧ (ev = .nilIface ∨ ∃ te pe, ev = .iface te pe)
/-- texts of which IndexAny answers -/
structure IxOk (A : List UInt8 → Prop) : Prop where
  drop : ∀ t k, A t → A (t.drop k)
  ix : ∀ t w, A t → Calls Tryd.prog 18 #[.string (strB t), .string ⟨#[32, 41]⟩] w fun e w' => e = .returned (.int .i64 (Lib.indexAny t [32, 41])) ∧ Below w.heap.size w w'
def rdObj (s : List UInt8) (d : Int) : Obj := .cells #[.string (strB s), .int .i64 d] 37 (0, 0)
def ValPost (rb : Nat) (d : Int) (r : Option (Va × List UInt8)) (w : World) (e : Ending) (w' : World) : Prop := w.grownBy w' (some rb) ∧ match r with
  | some (.mk l n xs, rest) => w'.heap[rb]? = some (rdObj rest d) ∧ ∃ c, e = .returned (.tuple #[.agg #[.bool l, .int .i64 n, c], .bool true]) ∧ VRow w.heap.size (fun _ => False) xs c w' ∧ (Lit.int .i64 n).wf = true
  | none => (∃ s', w'.heap[rb]? = some (rdObj s' d)) ∧ ∃ (l : Bool) (n : Int) (A : Option Addr) (m cp : Nat), e = .returned (.tuple #[.agg #[.bool l, .int .i64 n, .slice A m cp], .bool false])
def ValOk (n : Nat) : Prop := ∀ (A : List UInt8 → Prop) (s : List UInt8) (rb : Nat) (d : Int) (w : World), IxOk A → A s → (n : Int) + d = 7 → 0 ≤ d → s.length ≤ 1000000000 → w.heap[rb]? = some (rdObj s d) → 3 < rb → 2 < rb → ErrsL w →
  Calls Tryd.prog 11 #[.pointer (some ⟨rb, 0, none⟩)] w (ValPost rb d (valF n s) w)
theorem strB_size (l : List UInt8) : (strB l).size = l.length := rfl
theorem strB_data (l : List UInt8) : (strB l).data.toList = l := rfl
theorem value_results (tmps : Array Value) (g : Nat) (a b c : Value) (k : Bool) (w : World) (h2 : tmps.getD 2 undef = .pointer (some ⟨g, 0, none⟩)) (h3 : tmps.getD 3 undef = .bool k) (c0 : w.cell? ⟨g, 0, none⟩ = some a) (c1 : w.cell? ⟨g, 1, none⟩ = some b) (c2 : w.cell? ⟨g, 2, none⟩ = some c) (ca : ∃ l, a = .bool l) (cb : ∃ n, b = .int .i64 n) (cc : ∃ A m cp, c = .slice A m cp) :
    (results Tryd.f11 tmps).run Tryd.prog w = .ok (.tuple #[.agg #[a, b, c], .bool k]) w := by
  obtain ⟨_, rfl⟩ := ca
  obtain ⟨_, rfl⟩ := cb
  obtain ⟨_, _, _, rfl⟩ := cc
  simp only [Array.getD_eq_getD_getElem?] at h2 h3
  simp [results, Tryd.results11, go_sem, h2, h3, c0, c1, c2]
theorem boxes2 (w : World) (o1 o2 : Obj) : ((w.alloc o1).alloc o2).heap[w.heap.size]? = some o1 ∧ ((w.alloc o1).alloc o2).heap[w.heap.size + 1]? = some o2 ∧ Below w.heap.size w ((w.alloc o1).alloc o2) :=
  ⟨Has.alloc (Has.new _ _) _, Has.newAt _ _ (by simp), ((Below.refl _ _).alloc (Nat.le_refl _) _).alloc (by simp) _⟩
theorem gr_below {w w' : World} (h : Below w.heap.size w w') (r : Option Nat) : w.grownBy w' r := ⟨h.os, h.tape, h.output, h.size, fun k hk _ => h.block k hk⟩
set_option maxRecDepth 100000 in
set_option maxHeartbeats 4000000 in
theorem value_deep : ValOk 0 := by
  intro A s rb d w hA hs hd _ hl hr hg1 hg2 hE
  have d7 : d = 7 := by omega
  subst d7
  have lr := Has.lt hr
  have r0 := Has.cell hr 0
  have r1 := Has.cell hr 1
  simp at r0 r1
  have HR := hid hr
  have HB := hid (boxes2 w (.cells #[.pointer (some ⟨rb, 0, none⟩)] 35) (.cells #[.bool false, .int .i64 0, .slice none 0 0] 24))
  clear hA hE hr
  go_enter_defers Tryd.func11, Tryd.ntmps11
  go_wp2_with fail
  exact ⟨_, value_results _ _ _ _ _ _ _ rfl rfl ((Has.cell HB.out.2.1 0).trans rfl) ((Has.cell HB.out.2.1 1).trans rfl) ((Has.cell HB.out.2.1 2).trans rfl) ⟨_, rfl⟩ ⟨_, rfl⟩ ⟨_, _, _, rfl⟩, by rw [valF]; exact ⟨gr_below HB.out.2.2 _, ⟨s, Has.below HR.out HB.out.2.2 lr⟩, _, _, _, _, _, rfl⟩⟩
theorem cut_any (s : List UInt8) (c : UInt8) (w : World) :
    Calls Tryd.prog 17 #[.string (strB s), .string ⟨#[c]⟩] w fun e w' => e = .returned (.tuple #[.string (strB (if Lib.hasPrefix s [c] then s.tail else s)), .bool (Lib.hasPrefix s [c])]) ∧ w' = w := by
  refine (Tryd.strings_CutPrefix (strB s) ⟨#[c]⟩ w).mono ?_
  rintro e w' ⟨rfl, rfl⟩
  exact ⟨by rw [strB_data, ← List.drop_one]; rfl, rfl⟩
def atoiN (t : List UInt8) : Int := match Lib.atoiAll t with
  | .ok v => v
  | .range => Lib.atoiSat t
  | _ => 0
def atoiB (t : List UInt8) : Bool := match Lib.atoiAll t with
  | .ok _ => true
  | _ => false
def AtoiPost (t : List UInt8) (w : World) (e : Ending) (w' : World) : Prop := (∃ ev, e = .returned (.tuple #[.int .i64 (atoiN t), ev]) ∧ ((atoiB t = true ∧ ev = .nilIface) ∨ (atoiB t = false ∧ ∃ N, ev = .iface 91 (.pointer (some ⟨N, 0, none⟩))))) ∧ Below w.heap.size w w'
theorem atoi_any (t : List UInt8) (w : World) (hl : t.length ≤ 1000000000) (hE : ErrsL w) : Calls Tryd.prog 19 #[.string (strB t)] w (AtoiPost t w) := by
  cases h : Lib.atoiAll t with
  | ok v =>
    refine (Tryd.strconv_Atoi_ok (strB t) (by rw [strB_size]; omega) v (by rw [strB_data]; exact h) w).mono ?_
    rintro e w' ⟨rfl, h2⟩
    refine ⟨⟨.nilIface, by unfold atoiN; rw [h], .inl ⟨by unfold atoiB; rw [h], rfl⟩⟩, ?_⟩
    rcases h2 with rfl | ⟨t, rfl⟩
    · exact Below.refl _ _
    · exact Lib.bytesWorld_below _ _ _
  | range =>
    obtain ⟨_, ⟨ev, h1, h2⟩⟩ := hE
    refine (Tryd.strconv_Atoi_range (strB t) (by rw [strB_size]; omega) (by rw [strB_data]; exact h) ev w h1 h2).mono ?_
    rintro e w' ⟨N, rfl, _, _, hb⟩
    exact ⟨⟨_, by unfold atoiN; rw [h, strB_data], .inr ⟨by unfold atoiB; rw [h], N, rfl⟩⟩, hb⟩
  | _ =>
    obtain ⟨⟨ev, h1, h2⟩, _⟩ := hE
    refine (Tryd.strconv_Atoi_syntax (strB t) (by rw [strB_size]; omega) (by rw [strB_data]; exact h) ev w h1 h2).mono ?_
    rintro e w' ⟨N, rfl, _, _, hb⟩
    exact ⟨⟨_, by unfold atoiN; rw [h], .inr ⟨by unfold atoiB; rw [h], N, rfl⟩⟩, hb⟩
theorem ErrsL.below {w w' : World} {B : Nat} (h : ErrsL w) (hb : Below B w w') (h1 : 2 < B) (h2 : 3 < B) : ErrsL w' := by
  obtain ⟨⟨ev, e1, e2⟩, ⟨ev', e3, e4⟩⟩ := h
  exact ⟨⟨ev, (hb.cell (p := ⟨2, 0, none⟩) h1).trans e1, e2⟩, ⟨ev', (hb.cell (p := ⟨3, 0, none⟩) h2).trans e3, e4⟩⟩
theorem strB_take (s : List UInt8) (k : Nat) : (strB s).extract 0 k = strB (s.take k) := by
  apply ByteArray.ext
  simp [strB]
theorem strB_drop (s : List UInt8) (k : Nat) : (strB s).extract k (strB s).size = strB (s.drop k) := by
  rw [strB_size]
  apply ByteArray.ext
  simp [strB, List.take_of_length_le]
theorem vset3 {w : World} {g : Nat} {o0 o1 o2 : Value} {t : TypeId} (h : w.heap[g]? = some (.cells #[o0, o1, o2] t (0, 0))) (a b c : Value) :
    (((w.setCell ⟨g, 0, none⟩ a).setCell ⟨g, 1, none⟩ b).setCell ⟨g, 2, none⟩ c).heap[g]? = some (.cells #[a, b, c] t (0, 0)) ∧ (∀ q, q ≠ g → (((w.setCell ⟨g, 0, none⟩ a).setCell ⟨g, 1, none⟩ b).setCell ⟨g, 2, none⟩ c).heap[q]? = w.heap[q]?) ∧ Below g w (((w.setCell ⟨g, 0, none⟩ a).setCell ⟨g, 1, none⟩ b).setCell ⟨g, 2, none⟩ c) := by
  refine ⟨?_, fun q hq => ?_, (((Below.refl g w).setCell (p := ⟨g, 0, none⟩) (Nat.le_refl _) a).setCell (p := ⟨g, 1, none⟩) (Nat.le_refl _) b).setCell (p := ⟨g, 2, none⟩) (Nat.le_refl _) c⟩
  · have h0 := Has.set h 0 a
    have h1 := Has.set h0 1 b
    have h2 := Has.set h1 2 c
    simpa using h2
  · rw [Below.heap_setCell _ _ _ _ (by simpa using hq), Below.heap_setCell _ _ _ _ (by simpa using hq), Below.heap_setCell _ _ _ _ (by simpa using hq)]
def numW (w2 : World) (rb bv : Nat) (rest : List UInt8) (num : Int) : World := ((((w2.setCell ⟨rb, 0, none⟩ (.string (strB rest))).setCell ⟨bv, 0, none⟩ (.bool false)).setCell ⟨bv, 1, none⟩ (.int .i64 num)).setCell ⟨bv, 2, none⟩ (.slice none 0 0)).drew.drew
theorem atoi_wf (t : List UInt8) : (Lit.int .i64 (atoiN t)).wf = true := by
  have h : -9223372036854775808 ≤ atoiN t ∧ atoiN t ≤ 9223372036854775807 := by
    unfold atoiN
    cases h : Lib.atoiAll t with
    | ok v => exact atoi_bounds h
    | range => simp only [Lib.atoiSat]; split <;> omega
    | _ => simp only; omega
  exact WalkArith.wf_i64 h
theorem num_fin {w w2 : World} {rb : Nat} {d : Int} {s : List UInt8} (rest : List UInt8) {num : Int} (okb : Bool) (B2 : Below w.heap.size w w2) (R2 : w2.heap[rb]? = some (rdObj s d)) (V2 : w2.heap[w.heap.size + 1]? = some (.cells #[.bool false, .int .i64 0, .slice none 0 0] 24 (0, 0))) (lr : rb < w.heap.size) (hw : (Lit.int .i64 num).wf = true) :
    (numW w2 rb (w.heap.size + 1) rest num).heap[w.heap.size + 1]? = some (.cells #[.bool false, .int .i64 num, .slice none 0 0] 24 (0, 0)) ∧ ValPost rb d (if okb then some (.mk false num [], rest) else none) w (.returned (.tuple #[.agg #[.bool false, .int .i64 num, .slice none 0 0], .bool okb])) (numW w2 rb (w.heap.size + 1) rest num) := by
  have V3 : (w2.setCell ⟨rb, 0, none⟩ (.string (strB rest))).heap[w.heap.size + 1]? = _ := (Below.heap_setCell _ _ _ _ (by simp; omega)).trans V2
  have R3 : (w2.setCell ⟨rb, 0, none⟩ (.string (strB rest))).heap[rb]? = some (rdObj rest d) := by have := Has.set R2 0 (.string (strB rest)); simpa [rdObj] using this
  have S := vset3 V3 (.bool false) (.int .i64 num) (.slice none 0 0)
  have R4 : (numW w2 rb (w.heap.size + 1) rest num).heap[rb]? = some (rdObj rest d) := (S.2.1 rb (by omega)).trans R3
  have G : w.grownBy (numW w2 rb (w.heap.size + 1) rest num) (some rb) := by
    have b3 := S.2.2
    refine ⟨?_, ?_, ?_, ?_, fun q hq hne => ?_⟩
    · exact b3.os.trans B2.os
    · exact b3.tape.trans B2.tape
    · exact b3.output.trans B2.output
    · have := b3.size; have := B2.size; simp [numW] at *; omega
    · have hq' : q ≠ rb := fun e => hne (by rw [e])
      exact (S.2.1 q (by omega)).trans ((Below.heap_setCell _ _ _ _ (by simpa using hq')).trans (B2.block q hq))
  refine ⟨S.1, G, ?_⟩
  cases okb with
  | true => exact ⟨R4, _, rfl, VRow.nil_, hw⟩
  | false => exact ⟨⟨_, R4⟩, _, _, _, _, _, rfl⟩
set_option maxRecDepth 100000 in
set_option maxHeartbeats 4000000 in
theorem value_num (n : Nat) (A : List UInt8 → Prop) (s : List UInt8) (rb : Nat) (d : Int) (w : World) (hA : IxOk A) (hs : A s) (hd : (n : Int) + 1 + d = 7) (hl : s.length ≤ 1000000000) (hr : w.heap[rb]? = some (rdObj s d)) (hg1 : 3 < rb) (_hg2 : 2 < rb) (hE : ErrsL w) (hp : Lib.hasPrefix s [40] = false) :
    Calls Tryd.prog 11 #[.pointer (some ⟨rb, 0, none⟩)] w (ValPost rb d (numF s) w) := by
  have lr := Has.lt hr
  have r0 := Has.cell hr 0
  have r1 := Has.cell hr 1
  simp at r0 r1
  have HR := hid hr
  have d6 : ¬ 6 < d := by omega
  have HB := hid (boxes2 w (.cells #[.pointer (some ⟨rb, 0, none⟩)] 35) (.cells #[.bool false, .int .i64 0, .slice none 0 0] 24))
  have IX := hid (hA.ix s)
  have HS := hid hs
  have CT := hid (fun w => cut_any s 40 w)
  have HE := hid hE
  have HP := hid hp
  clear hA hE hr hs hp
  go_enter_defers Tryd.func11, Tryd.ntmps11
  go_wp2_with fail
  refine (CT.out _).mono ?_
  rintro e w0 ⟨rfl, e0⟩
  rw [e0, HP.out]
  clear e0 w0
  go_wp2_with fail
  refine (IX.out _ HS.out).mono ?_
  rintro e w1 ⟨rfl, hb⟩
  have B1 := hid (HB.out.2.2.trans (hb.mono (by simp; omega)))
  have s1 := hb.size
  have X1 := hid (Has.below HB.out.1 hb (by simp; omega))
  have V1 := hid (Has.below HB.out.2.1 hb (by simp))
  have R1 := hid (Has.below HR.out B1.out lr)
  have p0 := Has.cell X1.out 0
  have q0 := Has.cell R1.out 0
  simp at p0 q0 s1
  clear hb r0 r1
  have IL := idx_le s
  obtain ⟨k, hk⟩ : ∃ k, k = idxL s := ⟨_, rfl⟩
  have HK := hid hk
  rw [← hk] at IL
  have AT := hid (atoi_any (s.take k) w1 (by rw [List.length_take]; omega) (HE.out.below B1.out (by omega) (by omega)))
  have E0 : Hid (ValPost rb d (numF s) = ValPost rb d (if atoiB (s.take k) then some (.mk false (atoiN (s.take k)) [], s.drop k) else none)) := by
    show _ = _
    congr 1
    unfold numF atoiB atoiN
    rw [← hk]
    cases Lib.atoiAll (s.take k) <;> rfl
  by_cases hn : Lib.indexAny s [32, 41] < 0
  · have hks : k = s.length := by rw [hk]; unfold idxL; rw [if_pos hn]
    rw [hks, List.take_length, List.drop_length] at E0
    rw [hks, List.take_length] at AT
    clear hk hks
    go_wp2_with fail
    refine AT.out.mono ?_
    rintro e w2 ⟨⟨ev, rfl, hev⟩, hb2⟩
    have B2 := hid (B1.out.trans (hb2.mono (by omega)))
    have s2 := hb2.size
    have X2 := hid (Has.below X1.out hb2 (by omega))
    have V2 := hid (Has.below V1.out hb2 (by omega))
    have R2 := hid (Has.below R1.out hb2 (by omega))
    have p0 := Has.cell X2.out 0
    have q0 := Has.cell R2.out 0
    have fq0 := Has.froz R2.out 0
    have v0 := Has.cell V2.out 0
    have v1 := Has.cell V2.out 1
    have v2 := Has.cell V2.out 2
    have fv0 := Has.froz V2.out 0
    have fv1 := Has.froz V2.out 1
    have fv2 := Has.froz V2.out 2
    simp at p0 q0 v0 v1 v2
    clear hb2
    have ne1 : rb ≠ w.heap.size + 1 := by omega
    have NW := hid (atoi_wf s)
    go_wp2_with fail
    go_region
    rcases hev with ⟨hb, rfl⟩ | ⟨hb, N, rfl⟩
    · go_wp2_with fail
      go_region
      go_wp2_with fail
      have NF := num_fin (rest := []) (num := atoiN s) true B2.out R2.out V2.out lr NW.out
      rw [E0.out, hb]
      exact ⟨_, value_results _ _ _ _ _ _ _ rfl rfl ((Has.cell NF.1 0).trans rfl) ((Has.cell NF.1 1).trans rfl) ((Has.cell NF.1 2).trans rfl) ⟨_, rfl⟩ ⟨_, rfl⟩ ⟨_, _, _, rfl⟩, NF.2⟩
    · go_wp2_with fail
      go_region
      go_wp2_with fail
      have NF := num_fin (rest := []) (num := atoiN s) false B2.out R2.out V2.out lr NW.out
      rw [E0.out, hb]
      exact ⟨_, value_results _ _ _ _ _ _ _ rfl rfl ((Has.cell NF.1 0).trans rfl) ((Has.cell NF.1 1).trans rfl) ((Has.cell NF.1 2).trans rfl) ⟨_, rfl⟩ ⟨_, rfl⟩ ⟨_, _, _, rfl⟩, NF.2⟩
  · obtain ⟨ki, hki⟩ : ∃ ki : Nat, Lib.indexAny s [32, 41] = (ki : Int) := ⟨(Lib.indexAny s [32, 41]).toNat, by omega⟩
    have hks : k = ki := by rw [hk]; unfold idxL; rw [if_neg hn, hki]; simp
    subst hks
    rw [hki]
    have h0 : ¬ (k : Int) < 0 := by omega
    have ksz : (k : Int) ≤ ((strB s).size : Int) := by rw [strB_size]; omega
    have ksz2 : k ≤ (strB s).size := by rw [strB_size]; omega
    clear hk hki hn
    go_wp2_with fail
    rw [strB_take]
    refine AT.out.mono ?_
    rintro e w2 ⟨⟨ev, rfl, hev⟩, hb2⟩
    have B2 := hid (B1.out.trans (hb2.mono (by omega)))
    have s2 := hb2.size
    have X2 := hid (Has.below X1.out hb2 (by omega))
    have V2 := hid (Has.below V1.out hb2 (by omega))
    have R2 := hid (Has.below R1.out hb2 (by omega))
    have p0 := Has.cell X2.out 0
    have q0 := Has.cell R2.out 0
    have fq0 := Has.froz R2.out 0
    have v0 := Has.cell V2.out 0
    have v1 := Has.cell V2.out 1
    have v2 := Has.cell V2.out 2
    have fv0 := Has.froz V2.out 0
    have fv1 := Has.froz V2.out 1
    have fv2 := Has.froz V2.out 2
    simp at p0 q0 v0 v1 v2
    clear hb2
    have ne1 : rb ≠ w.heap.size + 1 := by omega
    have NW := hid (atoi_wf (s.take k))
    go_wp2_with fail
    go_region
    simp only [strB_drop]
    rcases hev with ⟨hb, rfl⟩ | ⟨hb, N, rfl⟩
    · go_wp2_with fail
      go_region
      go_wp2_with fail
      have NF := num_fin (rest := s.drop k) (num := atoiN (s.take k)) true B2.out R2.out V2.out lr NW.out
      rw [E0.out, hb]
      exact ⟨_, value_results _ _ _ _ _ _ _ rfl rfl ((Has.cell NF.1 0).trans rfl) ((Has.cell NF.1 1).trans rfl) ((Has.cell NF.1 2).trans rfl) ⟨_, rfl⟩ ⟨_, rfl⟩ ⟨_, _, _, rfl⟩, NF.2⟩
    · go_wp2_with fail
      go_region
      go_wp2_with fail
      have NF := num_fin (rest := s.drop k) (num := atoiN (s.take k)) false B2.out R2.out V2.out lr NW.out
      rw [E0.out, hb]
      exact ⟨_, value_results _ _ _ _ _ _ _ rfl rfl ((Has.cell NF.1 0).trans rfl) ((Has.cell NF.1 1).trans rfl) ((Has.cell NF.1 2).trans rfl) ⟨_, rfl⟩ ⟨_, rfl⟩ ⟨_, _, _, rfl⟩, NF.2⟩
end Go.Proofs.YtpljcpeofnobbaaDoor
