/- What the reference's SetOf returns of a right machine: the first words of all pairs of states, each once. No conditions beyond that. -/
import Derived.Test.YtfalbffpdgfepaaDoorAof
import Derived.Test.YtfalbffpdgfepaaDoorSet
import Derived.Test.YtfalbffpdgfepaaDoorSho
namespace Go.Proofs.YtfalbffpdgfepaaDoor
open Go.RowKit
theorem sinv_snoc {B : Nat} {lv rv v5 : Value} {ll : List (List Int)} {r : List Int} {w w5 : World} {cs : List Value} {o : Obj} (hB : B ≤ w.heap.size) (h1 : w.ownsRow B 25 1 lv ll.length cs) (h2 : RowCells (fun b => B ≤ b ∧ b < w.heap.size ∧ lv.ownBlock ≠ some b) w cs ll)
    (hr : IntsIn .i64 (fun b => B ≤ b ∧ b < w.heap.size ∧ lv.ownBlock ≠ some b) w rv r) (hown5 : w5.ownsRow B 25 1 v5 (ll.length + 1) (cs ++ [rv])) (hgrow5 : (w.alloc o).grownBy w5 lv.ownBlock) (hat5 : v5.ownBlock = lv.ownBlock ∨ v5.ownBlock = some (w.alloc o).heap.size) :
    SInv B v5 (ll ++ [r]) w5 ∧ Below B w w5 := by
  have s5 := hgrow5.size
  simp at s5
  have SMF : Same (fun b => B ≤ b ∧ b < w.heap.size ∧ lv.ownBlock ≠ some b) w w5 := fun b h => (hgrow5.block b (by have := h.2.1; simp; omega) (fun e => h.2.2 e.symm)).trans (Below.heap_alloc _ _ _ h.2.1)
  refine ⟨⟨cs ++ [rv], by rw [List.length_append]; exact hown5, ?_⟩, ((Below.refl _ _).alloc hB _).grown hgrow5 (by simp; omega) fun k hk => own_ge h1 k hk⟩
  refine ((h2.keep SMF).snoc (by have := h1.1; simpa using this) (hr.keep SMF)).more fun b k => ⟨k.1, by have := k.2.1; omega, fun e => ?_⟩
  rcases hat5 with h | h
  · rw [h] at e; exact k.2.2 e
  · rw [h] at e; injection e with e; have := k.2.1; simp at e; omega
theorem sltB_both {a b : List Int} : (sltB a b = false ∧ sltB b a = false) ↔ a = b := by
  constructor
  · rintro ⟨h1, h2⟩
    unfold sltB at h1 h2
    rw [decide_eq_false_iff_not] at h1 h2
    rcases slt_total a b with h | h | h
    · exact absurd h h1
    · exact h
    · exact absurd h h2
  · rintro rfl
    exact ⟨sltB_same _, sltB_same _⟩
theorem at_take {ll : List (List Int)} {j : Nat} (h : j < ll.length) : ll.take (j + 1) = ll.take j ++ [rowAt ll j] := by
  rw [List.take_succ_eq_append_getElem h]; simp [rowAt, List.getD_eq_getElem?_getD, h]
def RsePost (m : MachD) (w : World) (e : Ending) (w' : World) : Prop := ∃ r, e = .returned r ∧ RowsIn (Fresh w w') w' r (setL m) ∧ Below w.heap.size w w'
set_option maxRecDepth 100000 in
set_option maxHeartbeats 2000000 in
theorem rset_ok (m : MachD) (F : Nat → Prop) (v : Value) (w : World) (hF : ∀ b, F b → b < w.heap.size) (h : MachIn F w v m) (g : Good m) :
    Calls Tryd.prog 30 #[v] w (RsePost m w) := by
  have HF := hid hF
  have HM := hid h
  have G := hid g
  have g1 := g.pos
  have g2 := g.le
  have HS := hid (setTo_len (m := m))
  obtain ⟨o, nxv, rfl, ⟨Ao, co, rfl, _, _⟩, ⟨An, cn, rfl, _, _⟩⟩ := h
  clear hF g
  generalize hn : m.out.length = n at *
  have HN := hid hn
  clear hn
  obtain ⟨i1, hi1, hy0, hy1, hy2⟩ := info_parts infoRowL
  have HM0 : Hid (MachIn F w (.agg #[.slice Ao n co, .slice An m.next.length cn]) m) := HM.out
  have K1 : Hid (Below w.heap.size w (w.alloc (.cells #[.slice Ao n co, .slice An m.next.length cn] 24))) := (Below.refl _ _).alloc (Nat.le_refl _) _
  have HX1 : Hid ((w.alloc (.cells #[.slice Ao n co, .slice An m.next.length cn] 24)).heap[w.heap.size]? = some (.cells #[.slice Ao n co, .slice An m.next.length cn] 24 (0, 0))) := Has.new _ _
  have S0 : Hid (SInv (w.heap.size + 1) (.slice none 0 0) (setTo m 0) (w.alloc (.cells #[.slice Ao n co, .slice An m.next.length cn] 24))) := ⟨[], World.ownsRow_nil _ _ _ _, fun i hi => by simp [setTo] at hi⟩
  go_enter Tryd.func30, Tryd.ntmps30
  go_wp2_with fail
  go_loopw [3, 4] (fun ov iv wr => ∃ i : Nat, i ≤ n ∧ iv = .int .i64 i ∧ Hid (SInv (w.heap.size + 1) ov (setTo m i) wr) ∧ Hid (Below w.heap.size w wr) ∧ Hid (wr.heap[w.heap.size]? = some (.cells #[.slice Ao n co, .slice An m.next.length cn] 24 (0, 0)))) (fun _ iv _ => n - (intOf iv).toNat)
  case atStart => exact ⟨0, Nat.zero_le _, rfl, S0, K1, HX1⟩
  case round =>
    obtain ⟨i, hi, rfl, hS, hB, hX⟩ := hrel
    obtain ⟨wo, rfl⟩ : ∃ wo : World, wo = wr := ⟨_, rfl⟩
    clear S0 K1 HX1
    have lX := Has.lt hX.out
    have x0 := Has.cell hX.out 0
    simp at x0
    by_cases hlt : i < n
    · go_wp2_with fail
      clear x0
      go_loopw [3, 5] (fun ov kv wi => ∃ t : Nat, i + 1 + t ≤ n ∧ kv = .int .i64 ((i + 1 + t : Nat) : Int) ∧ Hid (SInv (w.heap.size + 1) ov (setIn m (setTo m i) i t) wi) ∧ Hid (Below w.heap.size w wi) ∧ Hid (wi.heap[w.heap.size]? = some (.cells #[.slice Ao n co, .slice An m.next.length cn] 24 (0, 0)))) (fun _ kv _ => n - (intOf kv).toNat)
      case atStart => exact ⟨0, by omega, by go_num, hS, hB, hX⟩
      case round =>
        obtain ⟨t, ht, rfl, hSi, hBi, hXi⟩ := hrel
        obtain ⟨wi, rfl⟩ : ∃ wi : World, wi = wr := ⟨_, rfl⟩
        have x0 := Has.cell hXi.out 0
        have x1 := Has.cell hXi.out 1
        simp at x0 x1
        have lXi := Has.lt hXi.out
        have lBi := hBi.out.size
        generalize hk : i + 1 + t = k at *
        have HK := hid hk
        clear hk
        by_cases hkn : k < n
        · go_wp2_with fail
          refine (apof_ok m m i k F _ _ _ (fun b hb => by have := HF.out b hb; omega) (HM0.out.keep (Same.of_below hBi.out HF.out)) (HM0.out.keep (Same.of_below hBi.out HF.out)) G.out G.out rfl (by rw [HN.out]; exact hlt) (by rw [HN.out]; exact hkn)).mono ?_
          rintro e w3 ⟨hb, hp⟩
          have B3 : Hid (Below w.heap.size w w3) := hBi.out.trans (hb.mono (by omega))
          have X3 : Hid (w3.heap[w.heap.size]? = _) := Has.below hXi.out hb lXi
          have S3 := hid (hSi.out.below hb)
          have s3 := hb.size
          have EK : i + 1 + t = k := HK.out
          have SL : (setIn m (setTo m i) i t).length ≤ 1000 := by
            have h1 := setIn_len m (setTo m i) i t
            have h2 := HS.out i (by omega)
            have h3 : 2 * n * i ≤ 12 * 6 := Nat.mul_le_mul (by omega) (by omega)
            have h4 : 0 ≤ i * i := Nat.zero_le _
            omega
          have FA := hid (fun f (hf : First m m i k f) => show setIn m (setTo m i) i (t + 1) = setAdd (setIn m (setTo m i) i t) f by
            simp only [setIn]
            rw [EK]
            unfold addW
            rw [if_pos ⟨f, hf⟩, (apart_yes hf).1])
          have FB := hid (fun (hx : XEqv m i m k) => show setIn m (setTo m i) i (t + 1) = setIn m (setTo m i) i t by
            simp only [setIn]
            rw [EK]
            unfold addW
            rw [if_neg]
            rintro ⟨f, h1, h2, _⟩
            exact h2 (hx f h1))
          have ROW := hid hSi.out.row
          generalize hll : setIn m (setTo m i) i t = ll at *
          have RL : Hid (RowsIn (fun b => b < w3.heap.size) w3 u3 ll) := by
            obtain ⟨cs, h1, h2⟩ := S3.out.row
            exact rows_of_own h1 rfl (h2.more fun b h => h.2.1) fun b _ h => h
          obtain ⟨A, c, rfl, lc, hc⟩ := RL.out
          have HC := hid hc
          clear hll EK hc
          unfold maxLen at lc
          rcases hp with ⟨r, f, rfl, hf, hr⟩ | ⟨rfl, hx⟩
          · have FF := hid (FA.out f hf)
            have HR : Hid (IntsIn .i64 (fun b => w.heap.size + 1 ≤ b ∧ b < w3.heap.size ∧ (Value.slice A ll.length c).ownBlock ≠ some b) w3 r f) := hr.more fun b hb' => ⟨by have := hb'.1; omega, hb'.2, fun e => by
              obtain ⟨cs, h1, _⟩ := ROW.out
              have := own_lt h1 _ e
              have := hb'.1
              omega⟩
            have IR := hid (HR.out.more fun b h => h.2.1)
            obtain ⟨A2, c2, rfl, _, _, _⟩ := hr
            clear hb hf x0 x1 FA FB
            go_wp2_with fail
            go_loopw [8, 9] (fun mv jv wx => ∃ (j q : Nat) (β : Bool), j ≤ ll.length ∧ jv = .int .i64 j ∧ mv = .bool β ∧ Hid (β = true ↔ f ∈ ll.take j) ∧ wx = w3.drewN q) (fun _ jv _ => ll.length - (intOf jv).toNat)
            case atStart => exact ⟨0, 0, false, Nat.zero_le _, rfl, rfl, by show _ ↔ _; simp, rfl⟩
            case round =>
              obtain ⟨j, q, β, hj, rfl, rfl, hβ, rfl⟩ := hrel
              by_cases hjl : j < ll.length
              · have AT := hid (at_take hjl)
                obtain ⟨b, off, rfl, _, R⟩ := HC.out (by omega)
                obtain ⟨rj, yj, Ij⟩ := R j hjl
                have HI := hid (Ij.more (F' := fun b => b < w3.heap.size) fun b h => h)
                obtain ⟨A3, a3, rfl, _, _, _⟩ := Ij
                have jO : (j : Int) < (ll.length : Int) := by omega
                clear R
                cases β with
                | true =>
                  have N1 : Hid (f ∈ ll.take (j + 1)) := by
                    have := hβ.out.1 rfl
                    show _ ∈ _
                    rw [AT.out]; simp [this]
                  clear yj
                  go_wp2_with fail
                  go_roundw
                  case rel => exact ⟨j + 1, _, true, by omega, by go_num, rfl, by show _ ↔ _; simp [N1.out], rfl⟩
                  case measure => simp [intOf]; omega
                | false =>
                  have N0 : Hid (f ∉ ll.take j) := fun h => by have := hβ.out.2 h; simp at this
                  have NX : Hid (f ∈ ll.take (j + 1) ↔ rowAt ll j = f) := by
                    show _ ↔ _
                    rw [AT.out, List.mem_append, List.mem_singleton]
                    constructor
                    · rintro (h | h)
                      · exact absurd h N0.out
                      · exact h.symm
                    · exact fun h => .inr h.symm
                  by_cases e1 : sltB (rowAt ll j) f = true
                  · have N2 : Hid (rowAt ll j ≠ f) := fun e => by rw [e, sltB_same] at e1; cases e1
                    go_wp2_with fail
                    refine (shorter_any (rowAt ll j) f (fun b => b < w3.heap.size) _ _ _ (HI.out.keep (w' := w3.drewN q) fun _ _ => rfl) (IR.out.keep (w' := w3.drewN q) fun _ _ => rfl)).mono ?_
                    rintro e w4 ⟨rfl, q1, rfl⟩
                    rw [e1]
                    go_wp2_with fail
                    go_roundw
                    case rel => exact ⟨j + 1, _, false, by omega, by go_num, rfl, by show _ ↔ _; rw [NX.out]; simp [N2.out], rfl⟩
                    case measure => simp [intOf]; omega
                  · have e1 : sltB (rowAt ll j) f = false := by simpa using e1
                    by_cases e2 : sltB f (rowAt ll j) = true
                    · have N2 : Hid (rowAt ll j ≠ f) := fun e => by rw [e, sltB_same] at e2; cases e2
                      go_wp2_with fail
                      refine (shorter_any (rowAt ll j) f (fun b => b < w3.heap.size) _ _ _ (HI.out.keep (w' := w3.drewN q) fun _ _ => rfl) (IR.out.keep (w' := w3.drewN q) fun _ _ => rfl)).mono ?_
                      rintro e w4 ⟨rfl, q1, rfl⟩
                      rw [e1]
                      go_wp2_with fail
                      refine (shorter_any f (rowAt ll j) (fun b => b < w3.heap.size) _ _ _ (IR.out.keep (w' := w3.drewN (q + q1)) fun _ _ => rfl) (HI.out.keep (w' := w3.drewN (q + q1)) fun _ _ => rfl)).mono ?_
                      rintro e w4 ⟨rfl, q2, rfl⟩
                      rw [e2]
                      go_wp2_with fail
                      go_roundw
                      case rel => exact ⟨j + 1, _, false, by omega, by go_num, rfl, by show _ ↔ _; rw [NX.out]; simp [N2.out], rfl⟩
                      case measure => simp [intOf]; omega
                    · have e2 : sltB f (rowAt ll j) = false := by simpa using e2
                      have N2 : Hid (rowAt ll j = f) := sltB_both.1 ⟨e1, e2⟩
                      go_wp2_with fail
                      refine (shorter_any (rowAt ll j) f (fun b => b < w3.heap.size) _ _ _ (HI.out.keep (w' := w3.drewN q) fun _ _ => rfl) (IR.out.keep (w' := w3.drewN q) fun _ _ => rfl)).mono ?_
                      rintro e w4 ⟨rfl, q1, rfl⟩
                      rw [e1]
                      go_wp2_with fail
                      refine (shorter_any f (rowAt ll j) (fun b => b < w3.heap.size) _ _ _ (IR.out.keep (w' := w3.drewN (q + q1)) fun _ _ => rfl) (HI.out.keep (w' := w3.drewN (q + q1)) fun _ _ => rfl)).mono ?_
                      rintro e w4 ⟨rfl, q2, rfl⟩
                      rw [e2]
                      go_wp2_with fail
                      go_roundw
                      case rel => exact ⟨j + 1, _, true, by omega, by go_num, rfl, by show _ ↔ _; rw [NX.out]; simp [N2.out], rfl⟩
                      case measure => simp [intOf]; omega
              · obtain rfl : j = ll.length := by omega
                have TT : Hid (ll.take ll.length = ll) := by show _ = _; simp
                rw [TT.out] at hβ
                cases β with
                | true =>
                  have SA : Hid (setAdd ll f = ll) := by show _ = _; unfold setAdd; rw [if_pos (hβ.out.1 rfl)]
                  go_wp2_with fail
                  go_roundw
                  case rel => exact ⟨t + 1, by have := HK.out; omega, by have := HK.out; subst this; go_num, by rw [FF.out, SA.out]; exact S3.out.below (below_drewN (Below.refl _ _) _), below_drewN B3.out _, X3⟩
                  case measure => simp [intOf]; omega
                | false =>
                  have SA : Hid (setAdd ll f = ll ++ [f]) := by show _ = _; unfold setAdd; rw [if_neg fun h => by have := hβ.out.2 h; simp at this]
                  obtain ⟨cs, h1, h2⟩ := S3.out.row
                  have H1 : Hid ((w3.drewN q).ownsRow (w.heap.size + 1) 25 1 (.slice A ll.length c) ll.length cs) := h1
                  have H2 : Hid (RowCells (fun b => w.heap.size + 1 ≤ b ∧ b < (w3.drewN q).heap.size ∧ (Value.slice A ll.length c).ownBlock ≠ some b) (w3.drewN q) cs ll) := h2.keep fun _ _ => rfl
                  have HR2 : Hid (IntsIn .i64 (fun b => w.heap.size + 1 ≤ b ∧ b < (w3.drewN q).heap.size ∧ (Value.slice A ll.length c).ownBlock ≠ some b) (w3.drewN q) (.slice A2 f.length c2) f) := HR.out.keep fun _ _ => rfl
                  have B4 := hid (below_drewN B3.out q)
                  have X4 : Hid ((w3.drewN q).heap[w.heap.size]? = some (.cells #[.slice Ao n co, .slice An m.next.length cn] 24 (0, 0))) := X3
                  have s4 : w3.heap.size ≤ (w3.drewN q).heap.size := by simp
                  clear h1 h2
                  generalize w3.drewN q = wq at *
                  go_wp2_with (at_builtin; refine wpList_app _ rfl _ _ 22 rfl (w.heap.size + 1) 25 i1 (.slice none 0 0) 1 24 Tryd.underlying22 hi1 hy0 hy1 hy2 rfl (by decide) _ ll.length cs rfl (H1.out.alloc _) _ _ 1 [.slice A2 f.length c2] rfl (cells_oneAt _ _ _ (by simp)) (by intro u hu; simp at hu; subst hu; rfl) (by unfold maxLen; omega) (by omega) (by simp; omega) ?_; intro v5 w5 hown5 hgrow5 hat5; have SB := hid (sinv_snoc (by omega) H1.out H2.out HR2.out hown5 hgrow5 hat5); clear hown5 hgrow5 hat5)
                  have BB := hid (B4.out.trans (SB.out.2.mono (by omega)))
                  have XX := hid (Has.below X4.out SB.out.2 (by omega))
                  go_roundw
                  case rel => exact ⟨t + 1, by have := HK.out; omega, by have := HK.out; subst this; go_num, by rw [FF.out, SA.out]; exact SB.out.1, BB, XX⟩
                  case measure => simp [intOf]; omega
          · have FF := hid (FB.out hx)
            clear hb hx x0 x1 FA FB
            go_wp2_with fail
            go_loopw [8, 9] (fun mv jv wx => ∃ (j q : Nat), j ≤ ll.length ∧ jv = .int .i64 j ∧ mv = .bool true ∧ wx = w3.drewN q) (fun _ jv _ => ll.length - (intOf jv).toNat)
            case atStart => exact ⟨0, 0, Nat.zero_le _, rfl, rfl, rfl⟩
            case round =>
              obtain ⟨j, q, hj, rfl, rfl, rfl⟩ := hrel
              by_cases hjl : j < ll.length
              · go_wp2_with fail
                go_roundw
                case rel => exact ⟨j + 1, _, by omega, by go_num, rfl, rfl⟩
                case measure => simp [intOf]; omega
              · go_wp2_with fail
                go_roundw
                case rel => exact ⟨t + 1, by have := HK.out; omega, by have := HK.out; subst this; go_num, by rw [FF.out]; exact S3.out.below (below_drewN (Below.refl _ _) _), below_drewN B3.out _, X3⟩
                case measure => simp [intOf]; omega
        · have EE : Hid (setIn m (setTo m i) i t = setTo m (i + 1)) := by
            show _ = _
            simp only [setTo]
            rw [HN.out]
            congr 1
            have := HK.out; omega
          have d1 : decide (k < n) = false := by simp; omega
          go_wp2_with fail
          go_roundw
          case rel => exact ⟨i + 1, by omega, by go_num, by rw [← EE.out]; exact hSi, hBi, hXi⟩
          case measure => simp [intOf]; omega
    · obtain rfl : i = n := by omega
      obtain ⟨cs, h1, h2⟩ := hS.out.row
      have RR := hid (rows_of_own h1 rfl (h2.more (F' := Fresh w wo) fun b k => ⟨by have := k.1; omega, k.2.1⟩) fun b k1 k2 => ⟨by omega, k2⟩)
      have EN : Hid (setTo m i = setL m) := by show _ = _; unfold setL; rw [HN.out]
      clear h1 h2
      go_wp2_with fail
      go_ret
      exact ⟨_, rfl, by rw [← EN.out]; exact RR.out, hB.out⟩
end Go.Proofs.YtfalbffpdgfepaaDoor
