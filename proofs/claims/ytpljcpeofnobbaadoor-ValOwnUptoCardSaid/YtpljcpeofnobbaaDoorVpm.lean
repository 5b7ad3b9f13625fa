/- The value of a text as a function: what val's reader does; how long what it leaves is. No program in sight. No conditions. -/
import Derived.Test.YtpljcpeofnobbaaDoorVty
import Derived.Lib.AtoiAll
import Derived.Lib.IndexAny
import Derived.Lib.Strings
namespace Go.Proofs.YtpljcpeofnobbaaDoor
open Go.RowKit
/-- where a number ends -/
def idxL (s : List UInt8) : Nat := if Lib.indexAny s [32, 41] < 0 then s.length else (Lib.indexAny s [32, 41]).toNat
def numF (s : List UInt8) : Option (Va × List UInt8) := match Lib.atoiAll (s.take (idxL s)) with
  | .ok n => some (.mk false n [], s.drop (idxL s))
  | _ => none
def itemsG (val : List UInt8 → Option (Va × List UInt8)) : Nat → List UInt8 → List Va → Option (Va × List UInt8)
  | 0, _, _ => none
  | f + 1, s, acc => if Lib.hasPrefix s [41] then some (.mk true 0 acc, s.tail) else if acc.length ≠ 0 ∧ Lib.hasPrefix s [32] = false then none else match val (if acc.length = 0 then s else s.tail) with
    | none => none
    | some (x, r) => itemsG val f r (acc ++ [x])
/-- the value that a text begins with, and what stands behind it -/
def valF : Nat → List UInt8 → Option (Va × List UInt8)
  | 0, _ => none
  | n + 1, s => if Lib.hasPrefix s [40] then itemsG (valF n) s.length s.tail [] else numF s
def parseB (s : List UInt8) (v : Va) (r : List UInt8) : Bool := decide (r = []) && decide (chkV v = 0) && decide (v.text = s)
def parseF (s : List UInt8) : Option Va := match valF 7 s with
  | some (v, r) => if parseB s v r then some v else none
  | none => none
theorem pref_len {s : List UInt8} {c : UInt8} (h : Lib.hasPrefix s [c] = true) : 1 ≤ s.length := by
  cases s with
  | nil => simp [Lib.hasPrefix] at h
  | cons b r => simp
theorem atoi_bounds {l : List UInt8} {v : Int} (h : Lib.atoiAll l = .ok v) : -9223372036854775808 ≤ v ∧ v ≤ 9223372036854775807 := by
  unfold Lib.atoiAll at h
  match l, h with
  | c :: r, h =>
    simp only at h
    split at h
    · cases h
    · cases h
    · rename_i u hu
      split at h
      · cases h
      · split at h
        · cases h
        · injection h with h
          split at h <;> omega
theorem idx_le (s : List UInt8) : idxL s ≤ s.length := by
  unfold idxL
  split
  · exact Nat.le_refl _
  · have : ∀ l : List UInt8, Lib.indexAny l [32, 41] ≤ (l.length : Int) := by
      intro l
      induction l with
      | nil => simp [Lib.indexAny]
      | cons b r ih =>
        unfold Lib.indexAny
        rw [List.length_cons]
        split
        · omega
        · split
          · omega
          · omega
    have := this s
    omega
theorem numF_some {s r : List UInt8} {x : Va} (h : numF s = some (x, r)) : ∃ n, Lib.atoiAll (s.take (idxL s)) = .ok n ∧ x = .mk false n [] ∧ r = s.drop (idxL s) ∧ 1 ≤ idxL s := by
  unfold numF at h
  split at h
  · rename_i n hn
    injection h with h
    injection h with h1 h2
    refine ⟨n, hn, h1.symm, h2.symm, ?_⟩
    rcases Nat.eq_zero_or_pos (idxL s) with h0 | h0
    · rw [h0] at hn; simp [Lib.atoiAll] at hn
    · exact h0
  · cases h
theorem vas_app : ∀ (l : List Va) (x : Va), Vas.size (l ++ [x]) = Vas.size l + x.size
  | [], x => by simp [Vas.size]
  | y :: r, x => by rw [List.cons_append, Vas.size, Vas.size, vas_app r x]; omega
theorem vwf_app : ∀ {l : List Va} {x : Va}, Vas.wf l → x.wf → Vas.wf (l ++ [x])
  | [], x, _, h => by rw [List.nil_append, Vas.wf]; exact ⟨h, by rw [Vas.wf]; trivial⟩
  | y :: r, x, h, h2 => by rw [Vas.wf] at h; rw [List.cons_append, Vas.wf]; exact ⟨h.1, vwf_app h.2 h2⟩
/-- a reader that consumes something and makes no more than it consumes -/
def Eats (val : List UInt8 → Option (Va × List UInt8)) : Prop := ∀ s x r, val s = some (x, r) → x.size + r.length ≤ s.length ∧ x.wf
theorem items_eats {val : List UInt8 → Option (Va × List UInt8)} (hv : Eats val) : ∀ (f : Nat) (s : List UInt8) (acc : List Va) (x : Va) (r : List UInt8), Vas.wf acc → itemsG val f s acc = some (x, r) → x.size + r.length ≤ Vas.size acc + s.length ∧ x.wf
  | 0, s, acc, x, r, _, h => by rw [itemsG] at h; cases h
  | f + 1, s, acc, x, r, hw, h => by
    rw [itemsG] at h
    split at h
    · rename_i hp
      have := pref_len hp
      injection h with h
      injection h with h1 h2
      subst h1 h2
      rw [Va.size, List.length_tail]
      exact ⟨by omega, by rw [Va.wf]; exact ⟨by omega, hw⟩⟩
    · split at h
      · cases h
      · split at h
        · cases h
        · rename_i y t hy
          obtain ⟨h1, h2⟩ := hv _ _ _ hy
          obtain ⟨h3, h4⟩ := items_eats hv f t (acc ++ [y]) x r (vwf_app hw h2) h
          rw [vas_app] at h3
          refine ⟨?_, h4⟩
          split at h1
          · omega
          · rw [List.length_tail] at h1; omega
theorem valF_eats : ∀ n, Eats (valF n)
  | 0, s, x, r, h => by rw [valF] at h; cases h
  | n + 1, s, x, r, h => by
    rw [valF] at h
    split at h
    · rename_i hp
      have := pref_len hp
      have h1 := items_eats (valF_eats n) _ _ _ _ _ (by rw [Vas.wf]; trivial) h
      rw [Vas.size, List.length_tail] at h1
      exact ⟨by omega, h1.2⟩
    · obtain ⟨n, h1, rfl, rfl, h2⟩ := numF_some h
      have := idx_le s
      have hb := atoi_bounds h1
      rw [Va.size, Vas.size, List.length_drop]
      exact ⟨by omega, by rw [Va.wf]; exact ⟨hb, by rw [Vas.wf]; trivial⟩⟩
theorem eats_pos {val : List UInt8 → Option (Va × List UInt8)} (hv : Eats val) {s r : List UInt8} {x : Va} (h : val s = some (x, r)) : r.length < s.length := by
  have h1 := (hv s x r h).1
  have h2 := vsize_pos x
  omega
def Drops (val : List UInt8 → Option (Va × List UInt8)) : Prop := ∀ s x r, val s = some (x, r) → ∃ k, r = s.drop k
theorem items_drop {val : List UInt8 → Option (Va × List UInt8)} (hv : Drops val) : ∀ (f : Nat) (s : List UInt8) (acc : List Va) (x : Va) (r : List UInt8), itemsG val f s acc = some (x, r) → ∃ k, r = s.drop k
  | 0, s, acc, x, r, h => by rw [itemsG] at h; cases h
  | f + 1, s, acc, x, r, h => by
    rw [itemsG] at h
    split at h
    · injection h with h
      injection h with h1 h2
      exact ⟨1, by rw [← h2, List.drop_one]⟩
    · split at h
      · cases h
      · split at h
        · cases h
        · rename_i y t hy
          obtain ⟨k, hk⟩ := hv _ _ _ hy
          obtain ⟨k2, hk2⟩ := items_drop hv f t (acc ++ [y]) x r h
          split at hk
          · exact ⟨k + k2, by rw [hk2, hk, List.drop_drop]⟩
          · exact ⟨1 + (k + k2), by rw [hk2, hk, List.drop_drop, ← List.drop_one, List.drop_drop]⟩
theorem valF_drop : ∀ n, Drops (valF n)
  | 0, s, x, r, h => by rw [valF] at h; cases h
  | n + 1, s, x, r, h => by
    rw [valF] at h
    split at h
    · obtain ⟨k, hk⟩ := items_drop (valF_drop n) _ _ _ _ _ h
      exact ⟨1 + k, by rw [hk, ← List.drop_one, List.drop_drop]⟩
    · obtain ⟨_, _, _, h2, _⟩ := numF_some h
      exact ⟨_, h2⟩
theorem parse_some {s : List UInt8} {v : Va} (h : parseF s = some v) : chkV v = 0 ∧ v.text = s ∧ v.size ≤ s.length ∧ v.wf := by
  unfold parseF at h
  split at h
  · rename_i x r hx
    split at h
    · rename_i hb
      injection h with h
      subst h
      unfold parseB at hb
      simp only [Bool.and_eq_true, decide_eq_true_eq] at hb
      obtain ⟨h1, h2⟩ := valF_eats 7 _ _ _ hx
      exact ⟨hb.1.2, hb.2, by omega, h2⟩
    · cases h
  · cases h
end Go.Proofs.YtpljcpeofnobbaaDoor
