/- What expr.told returns of an expression without fault and a value, or that it panics. No conditions. -/
import Derived.Test.YtopehfmppfibhaaDoorEvk
namespace Go.Proofs.YtopehfmppfibhaaDoor
open Go.RowKit
def truthI (b : Bool) : Int := if b then 1 else 0
def notM : Option Int → Option Int
  | none => none
  | some a => some (truthI (decide (a = 0)))
def finM (k a b : Int) : Option Int :=
  if k = 10 ∨ k = 11 then some b else if k = 5 then some (wrap64 (a + b)) else if k = 7 then some (truthI (decide (a < b))) else if k = 8 then some (truthI (decide (a = b))) else if b = 0 then none else some (a.tmod b)
def twoN (k a : Int) : Option Int → Option Int
  | none => none
  | some b => finM k a b
def twoM (k : Int) : Option Int → Option Int → Option Int
  | none, _ => none
  | some a, r => if (k = 10 ∧ a = 0) ∨ (k = 11 ∧ a ≠ 0) then some a else
    twoN k a r
def opM (v : Va) (k n : Int) (l : List (Option Int)) : Option Int :=
  if k = 1 then some n else if k = 2 then some (sumW v.nums) else if k = 3 then some (topP v.nums).2 else if k = 4 then some v.s.length else
  if k = 9 then notM (l.getD 0 none) else twoM k (l.getD 0 none) (l.getD 1 none)
mutual
def Ex.ev (v : Va) : Ex → Option Int
  | .mk k n s => opM v k n (Exs.ev v s)
def Exs.ev (v : Va) : List Ex → List (Option Int)
  | [] => []
  | y :: r => y.ev v :: Exs.ev v r
end
theorem Exs.ev_getD (v : Va) : ∀ (s : List Ex) (i : Nat) (h : i < s.length), (Exs.ev v s).getD i none = s[i].ev v
  | [], _, h => by simp at h
  | y :: r, 0, _ => by simp [Exs.ev]
  | y :: r, i + 1, h => by simpa [Exs.ev] using Exs.ev_getD v r i (by simpa using h)
/-- what told does: the number, or a panic with ErrZero -/
def ToldPost (r : Option Int) (w : World) (e : Ending) (w' : World) : Prop :=
  Below w.heap.size w w' ∧ match r with
    | some n => e = .returned (.int .i64 n)
    | none => e = .panicked [{ v := .iface 60 (.int .i64 6), recovered := false }]
def ToldOk (x : Ex) : Prop := ∀ (v : Va) (F : Nat → Prop) (a b c a' b' c' : Value) (w : World), x.err = 0 → (∀ g, F g → g < w.heap.size) → ExIn F w x a b c → VaIn F w v a' b' c' →
  Calls Tryd.prog 48 #[.agg #[a, b, c], .agg #[a', b', c']] w (ToldPost (x.ev v) w)
set_option maxHeartbeats 400000 in
theorem truth_any (b : Bool) (w : World) : Calls Tryd.prog 68 #[.bool b] w fun e w' => e = .returned (.int .i64 (truthI b)) ∧ w' = w := by
  cases b
  · go_enter Tryd.func68, Tryd.ntmps68
    go_wp2_with fail
    go_ret
    exact ⟨rfl, rfl⟩
  · go_enter Tryd.func68, Tryd.ntmps68
    go_wp2_with fail
    go_ret
    exact ⟨rfl, rfl⟩
set_option maxRecDepth 100000 in
set_option maxHeartbeats 1000000 in
theorem told_lit (n : Int) (s : List Ex) (v : Va) (F : Nat → Prop) (a b c a' b' c' : Value) (w : World) (hx : ExIn F w (.mk 1 n s) a b c) (hv : VaIn F w v a' b' c') :
    Calls Tryd.prog 48 #[.agg #[a, b, c], .agg #[a', b', c']] w (ToldPost (some n) w) := by
  obtain ⟨k', n', s'⟩ := v
  obtain ⟨A, cp, rfl, rfl, rfl, _, _, _⟩ := hx.box
  obtain ⟨A', cp', rfl, rfl, rfl, _, _, _⟩ := hv.box
  clear hx hv
  go_enter Tryd.func48, Tryd.ntmps48
  go_wp2_with fail
  go_ret
  exact ⟨((Below.refl _ _).alloc (Nat.le_refl _) _).alloc (by simp) _, rfl⟩
set_option maxRecDepth 100000 in
set_option maxHeartbeats 1000000 in
theorem told_len (n : Int) (s : List Ex) (v : Va) (F : Nat → Prop) (a b c a' b' c' : Value) (w : World) (hx : ExIn F w (.mk 4 n s) a b c) (hv : VaIn F w v a' b' c') :
    Calls Tryd.prog 48 #[.agg #[a, b, c], .agg #[a', b', c']] w (ToldPost (some v.s.length) w) := by
  obtain ⟨k', n', s'⟩ := v
  obtain ⟨A, cp, rfl, rfl, rfl, _, _, _⟩ := hx.box
  obtain ⟨A', cp', rfl, rfl, rfl, _, _, _⟩ := hv.box
  clear hx hv
  go_enter Tryd.func48, Tryd.ntmps48
  go_wp2_with fail
  go_ret
  exact ⟨((Below.refl _ _).alloc (Nat.le_refl _) _).alloc (by simp) _, rfl⟩
set_option maxRecDepth 100000 in
set_option maxHeartbeats 1000000 in
theorem told_sum (n : Int) (s : List Ex) (v : Va) (F : Nat → Prop) (a b c a' b' c' : Value) (w : World) (hF : ∀ g, F g → g < w.heap.size) (hx : ExIn F w (.mk 2 n s) a b c) (hv : VaIn F w v a' b' c') :
    Calls Tryd.prog 48 #[.agg #[a, b, c], .agg #[a', b', c']] w (ToldPost (some (sumW v.nums)) w) := by
  have HF := hid hF
  have HV := hid hv
  obtain ⟨k', n', s'⟩ := v
  obtain ⟨A, cp, rfl, rfl, rfl, _, _, _⟩ := hx.box
  obtain ⟨A', cp', rfl, rfl, rfl, _, _, _⟩ := hv.box
  clear hx hv hF
  go_enter Tryd.func48, Tryd.ntmps48
  go_wp2_with fail
  refine (num_any (.mk k' n' s') _ _ _ _ [] F _ _ _ _ enter_sum (takes_sum _) (fun g hg => by have := HF.out g hg; simp; omega)
    (VaIn.keep (Same.of_below ((((Below.refl _ _).alloc (Nat.le_refl _) _).alloc (by simp) _).alloc (by simp; omega) _) HF.out) _ HV.out) (Has.newAt _ _ (by simp))).mono ?_
  rintro e w1 ⟨rfl, hr, ho⟩
  have B1 : Hid (Below w.heap.size w w1) := ((((Below.refl _ _).alloc (Nat.le_refl _) _).alloc (by simp) _).alloc (by simp; omega) _).trans (ho.below (by simp; omega) fun b hb => by omega)
  have c0 : w1.cell? ⟨w.heap.size + 1 + 1, 0, none⟩ = some (.int .i64 (sumW (Va.mk k' n' s').nums)) := (Has.cell hr 0).trans rfl
  clear hr ho
  go_wp2_with fail
  go_ret
  exact ⟨B1.out, rfl⟩
set_option maxRecDepth 100000 in
set_option maxHeartbeats 1000000 in
theorem told_top (n : Int) (s : List Ex) (v : Va) (F : Nat → Prop) (a b c a' b' c' : Value) (w : World) (hF : ∀ g, F g → g < w.heap.size) (hx : ExIn F w (.mk 3 n s) a b c) (hv : VaIn F w v a' b' c') :
    Calls Tryd.prog 48 #[.agg #[a, b, c], .agg #[a', b', c']] w (ToldPost (some (topP v.nums).2) w) := by
  have HF := hid hF
  have HV := hid hv
  obtain ⟨k', n', s'⟩ := v
  obtain ⟨A, cp, rfl, rfl, rfl, _, _, _⟩ := hx.box
  obtain ⟨A', cp', rfl, rfl, rfl, _, _, _⟩ := hv.box
  clear hx hv hF
  go_enter Tryd.func48, Tryd.ntmps48
  go_wp2_with fail
  refine (num_any (.mk k' n' s') _ _ _ _ [] F _ _ _ _ enter_top (takes_top _ _ (by omega)) (fun g hg => by have := HF.out g hg; simp; omega)
    (VaIn.keep (Same.of_below (((((Below.refl _ _).alloc (Nat.le_refl _) _).alloc (by simp) _).alloc (by simp; omega) _).alloc (by simp; omega) _) HF.out) _ HV.out) ⟨Has.newAt _ _ (by simp), Has.alloc (Has.newAt _ _ (by simp)) _⟩).mono ?_
  rintro e w1 ⟨rfl, hr, ho⟩
  have B1 : Hid (Below w.heap.size w w1) := (((((Below.refl _ _).alloc (Nat.le_refl _) _).alloc (by simp) _).alloc (by simp; omega) _).alloc (by simp; omega) _).trans (ho.below (by simp; omega) fun b hb => by omega)
  have c0 : w1.cell? ⟨w.heap.size + 1 + 1, 0, none⟩ = some (.int .i64 (topP (Va.mk k' n' s').nums).2) := (Has.cell hr.2 0).trans rfl
  clear hr ho
  go_wp2_with fail
  go_ret
  exact ⟨B1.out, rfl⟩
end Go.Proofs.YtopehfmppfibhaaDoor
