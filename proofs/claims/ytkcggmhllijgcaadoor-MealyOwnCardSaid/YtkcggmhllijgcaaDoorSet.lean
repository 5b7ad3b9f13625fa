/- What wset.Set returns of a right machine: the first words of all pairs of states, each once. No conditions beyond that. -/
import Derived.Test.YtkcggmhllijgcaaDoorWth
import Derived.Test.YtkcggmhllijgcaaDoorApm
import Derived.Test.YtkcggmhllijgcaaDoorBtw
namespace Go.Proofs.YtkcggmhllijgcaaDoor
open Go.RowKit
open Classical in
noncomputable def addW (m : MachD) (out : List (List Int)) (i k : Nat) : List (List Int) := if ∃ f, First m m i k f then setAdd out (apartL m m i k) else out
noncomputable def setIn (m : MachD) (out : List (List Int)) (i : Nat) : Nat → List (List Int)
  | 0 => out
  | t + 1 => addW m (setIn m out i t) i (i + 1 + t)
noncomputable def setTo (m : MachD) : Nat → List (List Int)
  | 0 => []
  | i + 1 => setIn m (setTo m i) i (m.out.length - (i + 1))
noncomputable def setL (m : MachD) : List (List Int) := setTo m m.out.length
theorem setAdd_len (ll : List (List Int)) (r : List Int) : (setAdd ll r).length ≤ ll.length + 1 := by unfold setAdd; split <;> simp
theorem addW_len (m : MachD) (out : List (List Int)) (i k : Nat) : (addW m out i k).length ≤ out.length + 1 := by
  unfold addW; split
  · exact setAdd_len _ _
  · omega
theorem setIn_len (m : MachD) (out : List (List Int)) (i : Nat) : ∀ t, (setIn m out i t).length ≤ out.length + t
  | 0 => Nat.le_refl _
  | t + 1 => by have h1 := setIn_len m out i t; have h2 := addW_len m (setIn m out i t) i (i + 1 + t); simp only [setIn]; omega
theorem setTo_len {m : MachD} : ∀ i, i ≤ m.out.length → 2 * (setTo m i).length + i * i + i ≤ 2 * m.out.length * i
  | 0, _ => by simp [setTo]
  | i + 1, h => by
    have h1 := setTo_len (m := m) i (by omega)
    have h2 := setIn_len m (setTo m i) i (m.out.length - (i + 1))
    simp only [setTo]
    generalize (setIn m (setTo m i) i (m.out.length - (i + 1))).length = a at *
    generalize (setTo m i).length = b at *
    generalize m.out.length = n at *
    have e1 : (i + 1) * (i + 1) = i * i + 2 * i + 1 := by rw [Nat.add_mul, Nat.mul_add]; omega
    have e2 : 2 * n * (i + 1) = 2 * n * i + 2 * n := by rw [Nat.mul_add]; omega
    rw [e1, e2]
    omega
/-- the words' row, apart from all that was there -/
structure SInv (B : Nat) (lv : Value) (ll : List (List Int)) (w : World) : Prop where
  row : ∃ cs, w.ownsRow B 29 1 lv ll.length cs ∧ RowCells (fun b => B ≤ b ∧ b < w.heap.size ∧ lv.ownBlock ≠ some b) w cs ll ∧ RowOwn (fun b => B ≤ b ∧ b < w.heap.size ∧ lv.ownBlock ≠ some b) w cs ll
theorem SInv.below {B : Nat} {lv : Value} {ll : List (List Int)} {w w' : World} (h : SInv B lv ll w) (hb : Below w.heap.size w w') : SInv B lv ll w' := by
  obtain ⟨cs, h1, h2, h3⟩ := h.row
  have hs := hb.size
  exact ⟨cs, own_below h1 hb, (h2.keep (Same.of_below hb fun b k => k.2.1)).more fun b k => ⟨k.1, by have := k.2.1; omega, k.2.2⟩, (h3.keep (Same.of_below hb fun b k => k.2.1)).more fun b k => ⟨k.1, by have := k.2.1; omega, k.2.2⟩⟩
theorem with_inv {B : Nat} {lv wv : Value} {ll : List (List Int)} {r : List Int} {w : World} (hB : B ≤ w.heap.size) (h : SInv B lv ll w) (hr : IntsIn .i64 (fun b => B ≤ b ∧ b < w.heap.size ∧ lv.ownBlock ≠ some b) w wv r) (hr2 : OwnIn (fun b => B ≤ b ∧ b < w.heap.size ∧ lv.ownBlock ≠ some b) w wv r) (hl : ll.length ≤ 1000) :
    Calls Tryd.prog 43 #[lv, wv] w fun e w' => ∃ v', e = .returned v' ∧ SInv B v' (setAdd ll r) w' ∧ Below B w w' := by
  obtain ⟨cs, h1, h2, h3⟩ := h.row
  refine (with_any B ll r (fun b => B ≤ b ∧ b < w.heap.size ∧ lv.ownBlock ≠ some b) lv wv cs w hB (fun b k => k.2) h1 h2 hr h3 hr2 hl).mono ?_
  rintro e w' ⟨v', cs', rfl, k1, k2, k3, k4, k6⟩
  have hs := k3.size
  have hm : ∀ b, (B ≤ b ∧ b < w.heap.size ∧ lv.ownBlock ≠ some b) → (B ≤ b ∧ b < w'.heap.size ∧ v'.ownBlock ≠ some b) := fun b k => ⟨k.1, by have := k.2.1; omega, fun e => by
    rcases k4 with k4 | ⟨g, k4, k5⟩
    · exact k.2.2 (k4 ▸ e)
    · rw [k4] at e; injection e with e; have := k.2.1; omega⟩
  exact ⟨v', rfl, ⟨cs', k1, k2.more hm, k6.more hm⟩, (Below.refl _ _).grown k3 hB (own_ge h1)⟩
def SetPost (m : MachD) (w : World) (e : Ending) (w' : World) : Prop := ∃ r, e = .returned (.tuple #[r, .nilIface]) ∧ RowsIn (Fresh w w') w' r (setL m) ∧ Below w.heap.size w w'
def SetOwn (m : MachD) (w : World) (e : Ending) (w' : World) : Prop := ∃ r, e = .returned (.tuple #[r, .nilIface]) ∧ RowsIn (Fresh w w') w' r (setL m) ∧ Below w.heap.size w w' ∧ ∃ cs, w'.ownsRow w.heap.size 29 1 r (setL m).length cs ∧ RowOwn (Fresh w w') w' cs (setL m)
set_option maxRecDepth 100000 in
set_option maxHeartbeats 1000000 in
theorem set_own (m : MachD) (F : Nat → Prop) (v : Value) (w : World) (hF : ∀ b, F b → b < w.heap.size) (h : MachIn F w v m) (g : Good m) :
    Calls Tryd.prog 22 #[v] w (SetOwn m w) := by
  have HF := hid hF
  have HM := hid h
  have G := hid g
  have g1 := g.pos
  have g2 := g.le
  have HS := hid (setTo_len (m := m))
  obtain ⟨o, nxv, rfl, ⟨Ao, co, rfl, _, _⟩, ⟨An, cn, rfl, _, _⟩⟩ := h
  clear hF g
  generalize hn : m.out.length = n at *
  have HN := hid hn
  clear hn
  go_enter Tryd.func22, Tryd.ntmps22
  go_wp2_with fail
  refine (chk_ok (F := F) (fun b hb => by have := HF.out b hb; simp; omega) (by have := HM.out.keep (w' := w.alloc (Obj.cells #[Value.slice Ao n co, Value.slice An m.next.length cn] 24)) fun b hb => Below.heap_alloc _ _ _ (HF.out b hb); exact this) G.out).mono ?_
  rintro e w1 ⟨rfl, hb⟩
  obtain ⟨B1, X1, s1⟩ := box_below hb
  have K1 := hid B1
  have x0 := Has.cell X1 0
  simp at x0
  have HX1 := hid X1
  have S0 : Hid (SInv (w.heap.size + 1) (.slice none 0 0) (setTo m 0) w1) := ⟨[], World.ownsRow_nil _ _ _ _, fun i hi => by simp [setTo] at hi, fun i hi => by simp [setTo] at hi⟩
  clear hb B1 X1
  go_wp2_with fail
  go_loopw [5, 18] (fun ov iv wr => ∃ i : Nat, i ≤ n ∧ iv = .int .i64 i ∧ Hid (SInv (w.heap.size + 1) ov (setTo m i) wr) ∧ Hid (Below w.heap.size w wr) ∧ Hid (wr.heap[w.heap.size]? = some (.cells #[.slice Ao n co, .slice An m.next.length cn] 24 (0, 0)))) (fun _ iv _ => n - (intOf iv).toNat)
  case atStart => exact ⟨0, Nat.zero_le _, rfl, S0, K1, HX1⟩
  case round =>
    obtain ⟨i, hi, rfl, hS, hB, hX⟩ := hrel
    obtain ⟨wo, rfl⟩ : ∃ wo : World, wo = wr := ⟨_, rfl⟩
    clear x0 S0 K1 HX1
    have lX := Has.lt hX.out
    by_cases hlt : i < n
    · go_wp2_with fail
      go_loopw [5, 7] (fun ov kv wi => ∃ t : Nat, i + 1 + t ≤ n ∧ kv = .int .i64 ((i + 1 + t : Nat) : Int) ∧ Hid (SInv (w.heap.size + 1) ov (setIn m (setTo m i) i t) wi) ∧ Hid (Below w.heap.size w wi) ∧ Hid (wi.heap[w.heap.size]? = some (.cells #[.slice Ao n co, .slice An m.next.length cn] 24 (0, 0)))) (fun _ kv _ => n - (intOf kv).toNat)
      case atStart => exact ⟨0, by omega, by go_num, hS, hB, hX⟩
      case round =>
        obtain ⟨t, ht, rfl, hSi, hBi, hXi⟩ := hrel
        obtain ⟨wi, rfl⟩ : ∃ wi : World, wi = wr := ⟨_, rfl⟩
        have x0 := Has.cell hXi.out 0
        have x1 := Has.cell hXi.out 1
        simp at x0 x1
        have lXi := Has.lt hXi.out
        have lBi := hBi.out.size
        generalize hk : i + 1 + t = k at *
        have HK := hid hk
        clear hk
        by_cases hkn : k < n
        · go_wp2_with fail
          refine (between_any m m i k F _ _ _ (fun b hb => by have := HF.out b hb; omega) (by have := HM.out.keep (Same.of_below hBi.out HF.out); exact this) (by have := HM.out.keep (Same.of_below hBi.out HF.out); exact this) G.out G.out rfl (by rw [HN.out]; exact hlt) (by rw [HN.out]; exact hkn)).mono ?_
          rintro e w3 ⟨hb, hp⟩
          have B3 : Hid (Below w.heap.size w w3) := hBi.out.trans (hb.mono (by omega))
          have X3 : Hid (w3.heap[w.heap.size]? = _) := Has.below hXi.out hb lXi
          have S3 := hid (hSi.out.below hb)
          have s3 := hb.size
          have EK : i + 1 + t = k := HK.out
          rcases hp with ⟨r, f, rfl, hf, hr, hro⟩ | ⟨rfl, hx⟩
          · have FF : Hid (setIn m (setTo m i) i (t + 1) = setAdd (setIn m (setTo m i) i t) f) := by
              show _ = _
              simp only [setIn]
              rw [EK]
              unfold addW
              rw [if_pos ⟨f, hf⟩, (apart_yes hf).1]
            have SL : (setIn m (setTo m i) i t).length ≤ 1000 := by
              have h1 := setIn_len m (setTo m i) i t
              have h2 := HS.out i (by omega)
              have h3 : 2 * n * i ≤ 12 * 6 := Nat.mul_le_mul (by omega) (by omega)
              have h4 : 0 ≤ i * i := Nat.zero_le _
              omega
            have HSL := hid SL
            have hrf : ∀ b, Fresh wi w3 b → (w.heap.size + 1 ≤ b ∧ b < w3.heap.size ∧ u5.ownBlock ≠ some b) := fun b hb' => ⟨by have := hb'.1; omega, hb'.2, fun e => by
              obtain ⟨cs, h1, _⟩ := hSi.out.row
              have := own_lt h1 _ e
              have := hb'.1
              omega⟩
            have HR2 := hid (hro.more hrf)
            clear hro hrf
            have HR : Hid (IntsIn .i64 (fun b => w.heap.size + 1 ≤ b ∧ b < w3.heap.size ∧ u5.ownBlock ≠ some b) w3 r f) := hr.more fun b hb' => ⟨by have := hb'.1; omega, hb'.2, fun e => by
              obtain ⟨cs, h1, _⟩ := hSi.out.row
              have := own_lt h1 _ e
              have := hb'.1
              omega⟩
            clear hb hf hr x0 x1 EK SL
            go_wp2_with fail
            refine (with_inv (B := w.heap.size + 1) (by omega) S3.out HR.out HR2.out HSL.out).mono ?_
            rintro e w4 ⟨v4, rfl, hS4, hb4⟩
            have S4 := hid hS4
            have B4 : Hid (Below w.heap.size w w4) := B3.out.trans (hb4.mono (by omega))
            have X4 : Hid (w4.heap[w.heap.size]? = _) := Has.below X3.out hb4 (by omega)
            clear hS4 hb4
            go_wp2_with fail
            go_roundw
            case rel => exact ⟨t + 1, by have := HK.out; omega, by have := HK.out; subst this; go_num, by rw [FF.out]; exact S4, B4, X4⟩
            case measure => simp [intOf]; omega
          · have FF : Hid (setIn m (setTo m i) i (t + 1) = setIn m (setTo m i) i t) := by
              show _ = _
              simp only [setIn]
              rw [EK]
              unfold addW
              rw [if_neg]
              rintro ⟨f, h1, h2, _⟩
              exact h2 (hx f h1)
            clear hb hx x0 x1 EK
            go_wp2_with fail
            go_roundw
            case rel => exact ⟨t + 1, by have := HK.out; omega, by have := HK.out; subst this; go_num, by rw [FF.out]; exact S3, B3, X3⟩
            case measure => simp [intOf]; omega
        · have EE : Hid (setIn m (setTo m i) i t = setTo m (i + 1)) := by
            show _ = _
            simp only [setTo]
            rw [HN.out]
            congr 1
            have := HK.out; omega
          have d1 : decide (k < n) = false := by simp; omega
          go_wp2_with fail
          go_roundw
          case rel => exact ⟨i + 1, by omega, by go_num, by rw [← EE.out]; exact hSi, hBi, hXi⟩
          case measure => simp [intOf]; omega
    · obtain rfl : i = n := by omega
      obtain ⟨cs, h1, h2, h3⟩ := hS.out.row
      have OO : Hid (∃ cs, wo.ownsRow w.heap.size 29 1 u5 (setTo m i).length cs ∧ RowOwn (Fresh w wo) wo cs (setTo m i)) := ⟨cs, own_base h1 (by omega), h3.more fun b k => ⟨by have := k.1; omega, k.2.1⟩⟩
      have RR := hid (rows_of_own h1 rfl (h2.more (F' := Fresh w wo) fun b k => ⟨by have := k.1; omega, k.2.1⟩) fun b k1 k2 => ⟨by omega, k2⟩)
      have EN : Hid (setTo m i = setL m) := by show _ = _; unfold setL; rw [HN.out]
      clear h1 h2 h3
      go_wp2_with fail
      go_ret2
      exact ⟨_, rfl, by rw [← EN.out]; exact RR.out, hB.out, by rw [← EN.out]; exact OO.out⟩
theorem set_ok (m : MachD) (F : Nat → Prop) (v : Value) (w : World) (hF : ∀ b, F b → b < w.heap.size) (h : MachIn F w v m) (g : Good m) :
    Calls Tryd.prog 22 #[v] w (SetPost m w) := by
  refine (set_own m F v w hF h g).mono ?_
  rintro e w' ⟨r, h1, h2, h3, _⟩
  exact ⟨r, h1, h2, h3⟩
end Go.Proofs.YtkcggmhllijgcaaDoor
