/- lists, walked: how many lists a value has. Condition: at most 4 * 10^9 parts. -/
import Derived.Test.YtpljcpeofnobbaaDoorVbm
import Derived.Test.YtpljcpeofnobbaaDoorVas
import Derived.Test.YtpljcpeofnobbaaDoorGen
namespace Go.Proofs.YtpljcpeofnobbaaDoor
open Go.RowKit Go.Deep
def ListsOk (v : Va) : Prop := ∀ (F : Nat → Prop) (a b c : Value) (w : World), (∀ g, F g → g < w.heap.size) → VaIn F w v a b c → v.size ≤ 4000000000 →
  Calls Tryd.prog 8 #[.agg #[a, b, c]] w fun e w' => e = .returned (.int .i64 (v.lists : Int)) ∧ Below w.heap.size w w'
set_option maxRecDepth 100000 in
set_option maxHeartbeats 2000000 in
theorem lists_any : ∀ v, ListsOk v := Va.ind fun l n s ih F a b c w hF hx hs => by
  have HX := hid hx
  have HF := hid hF
  have IH := hid ih
  rw [Va.size] at hs
  obtain ⟨A, cp, rfl, rfl, rfl, l1, l2, h3⟩ := hx.box
  have H3 := hid h3
  obtain ⟨base, hbase⟩ : ∃ base : Nat, base = if l then 1 else 0 := ⟨_, rfl⟩
  have FIN : Hid (∀ k, k = s.length → base + listsTo s k = (Va.mk l n s).lists) := fun k hk => by subst hk; unfold listsTo; rw [List.take_length, Va.lists, hbase]
  have LT := hid (listsTo_le s)
  have VS := hid (vsize_len s)
  have sl : s.length ≤ 4000000000 := by have := VS.out; omega
  have b1 : base ≤ 1 := by rw [hbase]; split <;> omega
  have X0 := hid (Has.new w (.cells #[.bool l, .int .i64 n, .slice A s.length cp] 24))
  have B0 : Hid (Below w.heap.size w (w.alloc (.cells #[.bool l, .int .i64 n, .slice A s.length cp] 24))) := (Below.refl _ _).alloc (Nat.le_refl _) _
  have HS := hid hs
  clear hx hF h3 hs ih
  go_enter Tryd.func8, Tryd.ntmps8
  cases l
  case' false =>
    have HB := hid (show base = 0 from hbase)
    clear hbase
    have e0 : Hid ((0 : Int) = ((base + listsTo s 0 : Nat) : Int)) := by show _ = _; rw [HB.out]; simp [listsTo, Vas.lists]
    go_wp2_with fail
  case' true =>
    have HB := hid (show base = 1 from hbase)
    clear hbase
    have e0 : Hid ((1 : Int) = ((base + listsTo s 0 : Nat) : Int)) := by show _ = _; rw [HB.out]; simp [listsTo, Vas.lists]
    go_wp2_with fail
  all_goals
    go_loopw [3, 4] (fun nv iv wr => ∃ i : Nat, i ≤ s.length ∧ iv = .int .i64 i ∧ nv = .int .i64 ((base + listsTo s i : Nat) : Int) ∧ Hid (Below w.heap.size w wr) ∧ Hid (Below (w.heap.size + 1) (w.alloc (.cells #[.bool _, .int .i64 n, .slice A s.length cp] 24)) wr)) (fun _ iv _ => s.length - (intOf iv).toNat)
    case atStart => exact ⟨0, Nat.zero_le _, rfl, by rw [← e0.out], B0, Below.refl _ _⟩
    case round =>
      obtain ⟨i, hi, rfl, rfl, hB, hB2⟩ := hrel
      have X1 := Has.below X0.out hB2.out (by omega)
      have x2 := Has.cell X1 2
      simp at x2
      by_cases hlt : i < s.length
      · obtain ⟨bl, off, rfl, hbl, hv⟩ := H3.out (by omega)
        obtain ⟨a1, b1', c1, q1, q2, q3, q4⟩ := hv.at_ hlt
        have lb := HF.out bl hbl
        have k1 := (hB.out.cell (p := ⟨bl, off + i * 3, none⟩) lb).trans q1
        have k2 := (hB.out.cell (p := ⟨bl, off + i * 3 + 1, none⟩) lb).trans q2
        have k3 := (hB.out.cell (p := ⟨bl, off + i * 3 + 2, none⟩) lb).trans q3
        have i1 : (i : Int) < (s.length : Int) := by omega
        have Q4 := hid (VaIn.keep (Same.of_below hB.out HF.out) _ q4)
        have SZ : Hid (s[i].size ≤ 4000000000) := by have := vsize_mem (List.getElem_mem hlt); have := HS.out; show _ ≤ _; omega
        have NX := hid (listsTo_succ s i hlt)
        have LL := LT.out i
        have LL2 := LT.out (i + 1)
        have MM := hid (List.getElem_mem hlt)
        have sB := hB.out.size
        have sB2 := hid hB2.out.size
        obtain ⟨_, _, rfl, rfl, rfl, _, _, _⟩ : ∃ A cp, a1 = .bool s[i].l ∧ b1' = .int .i64 s[i].n ∧ c1 = .slice A s[i].s.length cp ∧ True ∧ True ∧ True := by
          have := q4
          generalize s[i] = y at this
          obtain ⟨l, n, t⟩ := y
          obtain ⟨A, cp, e1, e2, e3, _⟩ := this.box
          exact ⟨A, cp, e1, e2, e3, trivial, trivial, trivial⟩
        obtain ⟨y, hy⟩ : ∃ y, y = s[i] := ⟨_, rfl⟩
        rw [← hy] at k1 k2 k3 Q4 SZ NX MM
        have s4 := HS.out
        clear q1 q2 q3 q4 hv hbl hy X1
        go_wp2_with fail
        refine (IH.out y MM.out F _ _ _ wr (fun g h => by have := HF.out g h; omega) Q4.out SZ.out).mono ?_
        rintro e w2 ⟨rfl, hb⟩
        have e5 : ((base + listsTo s i : Nat) : Int) + (y.lists : Int) = ((base + listsTo s (i + 1) : Nat) : Int) := by have := NX.out; omega
        have B2 := hid (hB.out.trans (hb.mono sB))
        have B3 := hid (hB2.out.trans (hb.mono (by have := sB2.out; simp at this; omega)))
        clear hb
        have e6 : wrap64 (((base + listsTo s i : Nat) : Int) + (y.lists : Int)) = ((base + listsTo s (i + 1) : Nat) : Int) := by rw [e5]; unfold wrap64; omega
        have E6 := hid e6
        clear e5 LL2
        go_wp2_with fail
        go_roundw
        case rel => exact ⟨i + 1, by omega, by go_num, by rw [← E6.out]; rfl, B2, B3⟩
        case measure => simp [intOf]; omega
      · have hE := FIN.out i (by omega)
        have i1 : ¬ (i : Int) < (s.length : Int) := by omega
        have HE := hid hE
        clear hE
        go_wp2_with fail
        go_ret
        exact ⟨by rw [← HE.out]; rfl, hB.out⟩
end Go.Proofs.YtpljcpeofnobbaaDoor
