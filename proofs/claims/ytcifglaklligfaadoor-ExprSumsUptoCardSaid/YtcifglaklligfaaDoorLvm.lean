/- Values' leaves, and what ExprSums says of them: the sum and the greatest of a list, item by item. No program in sight. No conditions. -/
import Derived.Test.YtcifglaklligfaaDoorEpl
namespace Go.Proofs.YtcifglaklligfaaDoor
open Go.RowKit
mutual
def Va.nodes : Va → Nat
  | .mk _ _ s => Vas.nodes s + 1
def Vas.nodes : List Va → Nat
  | [] => 0
  | y :: r => y.nodes + Vas.nodes r
end
mutual
/-- the reference's leaves: a number is one, a list has those of its items -/
def Va.lvs : Va → List Int
  | .mk l n s => if l then Vas.lvs s else [n]
def Vas.lvs : List Va → List Int
  | [] => []
  | y :: r => y.lvs ++ Vas.lvs r
end
theorem Vas.lvs_app : ∀ a b : List Va, Vas.lvs (a ++ b) = Vas.lvs a ++ Vas.lvs b
  | [], b => by simp [Vas.lvs]
  | y :: r, b => by simp [Vas.lvs, Vas.lvs_app r b]
theorem Vas.nums_app : ∀ a b : List Va, Vas.nums (a ++ b) = Vas.nums a ++ Vas.nums b
  | [], b => by simp [Vas.nums]
  | y :: r, b => by simp [Vas.nums, Vas.nums_app r b]
theorem Vas.nodes_app : ∀ a b : List Va, Vas.nodes (a ++ b) = Vas.nodes a + Vas.nodes b
  | [], b => by simp [Vas.nodes]
  | y :: r, b => by simp [Vas.nodes, Vas.nodes_app r b]; omega
theorem vtake_succ {s : List Va} {i : Nat} (h : i < s.length) : s.take (i + 1) = s.take i ++ [s[i]] := by rw [List.take_succ_eq_append_getElem h]
theorem lvs_succ {s : List Va} {i : Nat} (h : i < s.length) : Vas.lvs (s.take (i + 1)) = Vas.lvs (s.take i) ++ s[i].lvs := by
  rw [vtake_succ h, Vas.lvs_app]; simp [Vas.lvs]
theorem nums_succ {s : List Va} {i : Nat} (h : i < s.length) : Vas.nums (s.take (i + 1)) = Vas.nums (s.take i) ++ s[i].nums := by
  rw [vtake_succ h, Vas.nums_app]; simp [Vas.nums]
theorem nodes_take (s : List Va) (i : Nat) : Vas.nodes (s.take i) ≤ Vas.nodes s := by
  have := Vas.nodes_app (s.take i) (s.drop i)
  rw [List.take_append_drop] at this; omega
theorem nodes_mem : ∀ {s : List Va} {y : Va}, y ∈ s → y.nodes ≤ Vas.nodes s
  | [], _, h => by cases h
  | x :: r, y, h => by
    rw [Vas.nodes]
    rcases List.mem_cons.1 h with rfl | h
    · omega
    · have := nodes_mem h; omega
mutual
theorem Va.lvs_len : ∀ x : Va, x.lvs.length ≤ x.nodes
  | .mk l n s => by
    rw [Va.lvs, Va.nodes]
    have := Vas.lvs_len s
    split
    · omega
    · simp
theorem Vas.lvs_len : ∀ s : List Va, (Vas.lvs s).length ≤ Vas.nodes s
  | [] => by simp [Vas.lvs]
  | y :: r => by
    rw [Vas.lvs, Vas.nodes, List.length_append]
    have := Va.lvs_len y
    have := Vas.lvs_len r
    omega
end
mutual
theorem Va.err_mono : ∀ (x : Va) (d e : Nat), e ≤ d → x.err d = 0 → x.err e = 0
  | .mk l n s, d, e, h, hx => by
    rw [Va.err] at hx ⊢
    split at hx
    · omega
    · split at hx
      · omega
      · rw [if_neg (by assumption), if_neg (by omega)]
        exact Vas.err_mono s (d + 1) (e + 1) (by omega) hx
theorem Vas.err_mono : ∀ (s : List Va) (d e : Nat), e ≤ d → Vas.err s d = 0 → Vas.err s e = 0
  | [], _, _, _, _ => by rw [Vas.err]
  | y :: r, d, e, h, hx => by
    rw [Vas.err] at hx ⊢
    split at hx
    · rename_i hy; exact absurd hx hy
    · rename_i hy
      rw [if_neg (by simp [Va.err_mono y d e h (by omega)])]
      exact Vas.err_mono r d e h hx
end
theorem Vas.err_mem : ∀ {s : List Va} {d : Nat}, Vas.err s d = 0 → ∀ y ∈ s, y.err d = 0
  | [], _, _, _, h => by cases h
  | x :: r, d, hx, y, h => by
    rw [Vas.err] at hx
    split at hx
    · rename_i hy; exact absurd hx hy
    · rename_i hy
      rcases List.mem_cons.1 h with rfl | h
      · omega
      · exact Vas.err_mem hx y h
mutual
theorem Va.lvs_nums : ∀ (x : Va) (d : Nat), x.err d = 0 → x.lvs = x.nums
  | .mk l n s, d, hx => by
    rw [Va.err] at hx
    split at hx
    · omega
    · rename_i hb
      split at hx
      · omega
      · rw [Va.lvs, Va.nums, ← Vas.lvs_nums s (d + 1) hx]
        cases l with
        | true => simp
        | false =>
          have : s = [] := by simpa [badV] using hb
          subst this
          simp [Vas.lvs]
theorem Vas.lvs_nums : ∀ (s : List Va) (d : Nat), Vas.err s d = 0 → Vas.lvs s = Vas.nums s
  | [], _, _ => by rw [Vas.lvs, Vas.nums]
  | y :: r, d, hx => by
    rw [Vas.err] at hx
    split at hx
    · rename_i hy; exact absurd hx hy
    · rename_i hy
      rw [Vas.lvs, Vas.nums, Va.lvs_nums y d (by omega), Vas.lvs_nums r d hx]
end
mutual
theorem Va.lvs_ok : ∀ (x : Va), x.fit → ∀ n ∈ x.lvs, Ok64 n
  | .mk k n s, h, m, hm => by
    rw [Va.fit] at h
    rw [Va.lvs] at hm
    split at hm
    · exact Vas.lvs_ok s h.2.2 m hm
    · simp at hm; subst hm; exact h.1
theorem Vas.lvs_ok : ∀ (s : List Va), Vas.fit s → ∀ n ∈ Vas.lvs s, Ok64 n
  | [], _, m, hm => by rw [Vas.lvs] at hm; cases hm
  | y :: r, h, m, hm => by
    rw [Vas.fit] at h
    rw [Vas.lvs] at hm
    rcases List.mem_append.1 hm with hm | hm
    · exact Va.lvs_ok y h.1 m hm
    · exact Vas.lvs_ok r h.2 m hm
end
theorem fold_sum (ks : List Int) : ∀ a, Ok64 a → ks.foldl (fun a k => wrap64 (a + k)) a = wrap64 (a + ks.sum) := by
  induction ks with
  | nil => intro a h; simp [wrap_id h]
  | cons k r ih => intro a h; rw [List.foldl_cons, ih _ (wrap_ok _), List.sum_cons, wrap_add_l]; congr 1; omega
theorem sumW_eq (ks : List Int) : sumW ks = wrap64 ks.sum := by
  unfold sumW; rw [fold_sum ks 0 ok_zero]; simp
theorem sumW_app (a b : List Int) : sumW (a ++ b) = wrap64 (sumW a + sumW b) := by
  rw [sumW_eq, sumW_eq, sumW_eq, List.sum_append, wrap_add_l, wrap_add_r]
def topS (p : Bool × Int) (k : Int) : Bool × Int := if !p.1 || decide (p.2 < k) then (true, k) else p
theorem topP_def (ks : List Int) : topP ks = ks.foldl topS (false, 0) := rfl
theorem topS_true (t k : Int) : topS (true, t) k = (true, max t k) := by
  unfold topS
  by_cases h : t < k
  · simp [h]; omega
  · simp [h]; omega
theorem topS_false (t k : Int) : topS (false, t) k = (true, k) := by simp [topS]
theorem fold_true (ks : List Int) : ∀ t, ks.foldl topS (true, t) = (true, ks.foldl max t) := by
  induction ks with
  | nil => intro t; rfl
  | cons k r ih => intro t; rw [List.foldl_cons, topS_true, ih]; rfl
theorem fold_max (ks : List Int) : ∀ a b, ks.foldl max (max a b) = max a (ks.foldl max b) := by
  induction ks with
  | nil => intro a b; rfl
  | cons k r ih => intro a b; rw [List.foldl_cons, List.foldl_cons, ← ih a (max b k)]; congr 1; omega
/-- what the law does with one item's greatest -/
def topT (p : Bool × Int) (ks : List Int) : Bool × Int := if decide (0 < ks.length) && (!p.1 || decide (p.2 < (topP ks).2)) then (true, (topP ks).2) else p
theorem topP_app (a b : List Int) : topP (a ++ b) = topT (topP a) b := by
  rw [topP_def, List.foldl_append, ← topP_def]
  generalize topP a = p
  obtain ⟨s, t⟩ := p
  cases b with
  | nil => simp [topT]
  | cons k r =>
    have e : topP (k :: r) = (true, r.foldl max k) := by rw [topP_def, List.foldl_cons, topS_false, fold_true]
    unfold topT
    rw [e]
    cases s with
    | false => rw [List.foldl_cons, topS_false, fold_true]; simp
    | true =>
      rw [List.foldl_cons, topS_true, fold_true, fold_max]
      by_cases h : t < r.foldl max k
      · simp [h]; omega
      · simp [h]; omega
theorem leaf_chk (k : Int) (hk : k = 2 ∨ k = 3 ∨ k = 4) : chkE (.mk k 0 []) = 0 := by rcases hk with rfl | rfl | rfl <;> decide
theorem eval_leaf_bad {k : Int} (hk : k = 2 ∨ k = 3 ∨ k = 4) {v : Va} (h : chkV v ≠ 0) : evalR (.mk k 0 []) v = (0, chkV v) := by
  unfold evalR; rw [if_neg (by simp [leaf_chk k hk]), if_pos h]
theorem eval_sum {v : Va} (h : chkV v = 0) : evalR (.mk 2 0 []) v = (sumW v.nums, 0) := by
  unfold evalR; rw [if_neg (by simp [leaf_chk 2 (by simp)]), if_neg (by simp [h])]; simp [Ex.ev, opM, evN]
theorem eval_top {v : Va} (h : chkV v = 0) : evalR (.mk 3 0 []) v = ((topP v.nums).2, 0) := by
  unfold evalR; rw [if_neg (by simp [leaf_chk 3 (by simp)]), if_neg (by simp [h])]; simp [Ex.ev, opM, evN]
theorem eval_len {v : Va} (h : chkV v = 0) : evalR (.mk 4 0 []) v = ((v.s.length : Int), 0) := by
  unfold evalR; rw [if_neg (by simp [leaf_chk 4 (by simp)]), if_neg (by simp [h])]; simp [Ex.ev, opM, evN]
theorem item_ok {l : List Va} (h : chkV (.mk true 0 l) = 0) : ∀ y ∈ l, chkV y = 0 ∧ y.lvs = y.nums := fun y hy => by
  unfold chkV at h ⊢
  rw [Va.err] at h
  split at h
  · omega
  · split at h
    · omega
    · have := Vas.err_mem h y hy
      exact ⟨Va.err_mono y 1 0 (by omega) this, Va.lvs_nums y _ this⟩
theorem list_nums (l : List Va) : (Va.mk true 0 l).nums = Vas.nums l := by rw [Va.nums]; simp
theorem zero_nums (l : List Va) : Vas.nums (l.take 0) = [] := by simp [Vas.nums]
end Go.Proofs.YtcifglaklligfaaDoor
