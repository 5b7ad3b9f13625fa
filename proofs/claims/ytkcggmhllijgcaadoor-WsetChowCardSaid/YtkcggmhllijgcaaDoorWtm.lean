/- What wset.times returns: each word of some and each of others behind it, each once. Condition: letters are bytes, words of at most 500 letters, at most 100000 of them. -/
import Derived.Test.YtkcggmhllijgcaaDoorWnm
import Derived.Test.YtkcggmhllijgcaaDoorLqr
import Derived.Test.YtkcggmhllijgcaaDoorQue
namespace Go.Proofs.YtkcggmhllijgcaaDoor
open Go.RowKit Go.Maps Go.WideMaps
def tIn (x : List Int) (b : List (List Int)) (out : List (List Int)) : List (List Int) := b.foldl (fun o y => setAdd o (x ++ y)) out
def timesL (a b : List (List Int)) : List (List Int) := a.foldl (fun o x => tIn x b o) []
theorem mem_sadd {ll : List (List Int)} {r y : List Int} : y ∈ setAdd ll r ↔ y ∈ ll ∨ y = r := by
  unfold setAdd
  split
  · rename_i h
    exact ⟨.inl, fun h' => h'.elim id fun e => e ▸ h⟩
  · simp
theorem sadd_len (ll : List (List Int)) (r : List Int) : (setAdd ll r).length ≤ ll.length + 1 := by unfold setAdd; split <;> simp
theorem mem_tIn {x : List Int} {y : List Int} : ∀ (b out : List (List Int)), y ∈ tIn x b out ↔ y ∈ out ∨ ∃ z ∈ b, y = x ++ z
  | [], out => by simp [tIn]
  | z :: b, out => by
    have h := mem_tIn (x := x) (y := y) b (setAdd out (x ++ z))
    show y ∈ tIn x b (setAdd out (x ++ z)) ↔ _
    rw [h, mem_sadd]
    simp only [List.mem_cons, exists_eq_or_imp]
    exact or_assoc
theorem tIn_len (x : List Int) : ∀ (b out : List (List Int)), (tIn x b out).length ≤ out.length + b.length
  | [], out => by simp [tIn]
  | z :: b, out => by
    have h := tIn_len x b (setAdd out (x ++ z))
    have h2 := sadd_len out (x ++ z)
    show (tIn x b (setAdd out (x ++ z))).length ≤ _
    simp only [List.length_cons]; omega
theorem mem_timesTo {b : List (List Int)} {y : List Int} : ∀ (a out : List (List Int)), y ∈ a.foldl (fun o x => tIn x b o) out ↔ y ∈ out ∨ ∃ x ∈ a, ∃ z ∈ b, y = x ++ z
  | [], out => by simp
  | x :: a, out => by
    rw [List.foldl_cons, mem_timesTo a, mem_tIn]
    simp only [List.mem_cons, exists_eq_or_imp]
    exact or_assoc
theorem mem_times {a b : List (List Int)} {y : List Int} : y ∈ timesL a b ↔ ∃ x ∈ a, ∃ z ∈ b, y = x ++ z := by
  unfold timesL; rw [mem_timesTo]; simp
theorem timesTo_len (b : List (List Int)) : ∀ (a out : List (List Int)), (a.foldl (fun o x => tIn x b o) out).length ≤ out.length + a.length * b.length
  | [], out => by simp
  | x :: a, out => by
    have h := timesTo_len b a (tIn x b out)
    have h2 := tIn_len x b out
    rw [List.foldl_cons]
    simp only [List.length_cons, Nat.succ_mul]; omega
theorem times_len (a b : List (List Int)) : (timesL a b).length ≤ a.length * b.length := by
  have := timesTo_len b a []; simpa [timesL] using this
theorem times_take (a b : List (List Int)) {i : Nat} (hi : i < a.length) : timesL (a.take (i + 1)) b = tIn (rowAt a i) b (timesL (a.take i) b) := by
  unfold timesL rowAt
  rw [List.take_succ_eq_append_getElem hi, List.foldl_append, List.getD_eq_getElem?_getD, List.getElem?_eq_getElem hi]; rfl
theorem tIn_take (x : List Int) (b out : List (List Int)) {j : Nat} (hj : j < b.length) : tIn x (b.take (j + 1)) out = setAdd (tIn x (b.take j) out) (x ++ rowAt b j) := by
  unfold tIn rowAt
  rw [List.take_succ_eq_append_getElem hj, List.foldl_append, List.getD_eq_getElem?_getD, List.getElem?_eq_getElem hj]; rfl
-- names as keys
def keyW (ws : List Int) : Lit := .string (strOfNums ws).data.toList
theorem lawW : Keyed Tryd.prog 9 := Keyed.of_law (string_law Tryd.underlying9)
theorem keyOf_word (ws : List Int) (hz : ws.length ≤ 1000) : keyOf Tryd.prog 9 (.string (strOfNums ws)) = some (keyW ws) :=
  keyOf_string_mk Tryd.underlying9 (by rw [strOfNums_size]; unfold maxLen; omega)
theorem keyW_is (ws : List Int) : WideAt.IsKeyLit (keyW ws) := trivial
theorem byte_inj {x y : Int} (hx : 0 ≤ x ∧ x < 256) (hy : 0 ≤ y ∧ y < 256) (h : UInt8.ofNat x.toNat = UInt8.ofNat y.toNat) : x = y := by
  have := congrArg UInt8.toNat h
  simp only [UInt8.toNat_ofNat'] at this
  omega
theorem bytes_inj : ∀ {p q : List Int}, Bytes p → Bytes q → p.map (fun n => UInt8.ofNat n.toNat) = q.map (fun n => UInt8.ofNat n.toNat) → p = q
  | [], [], _, _, _ => rfl
  | [], _ :: _, _, _, h => by simp at h
  | _ :: _, [], _, _, h => by simp at h
  | x :: p, y :: q, hp, hq, h => by
    rw [List.map_cons, List.map_cons] at h
    injection h with h1 h2
    rw [byte_inj (hp x (by simp)) (hq y (by simp)) h1, bytes_inj (fun z hz => hp z (by simp [hz])) (fun z hz => hq z (by simp [hz])) h2]
theorem keyW_inj {p q : List Int} (hp : Bytes p) (hq : Bytes q) (h : keyW p = keyW q) : p = q := by
  unfold keyW at h
  injection h with h
  rw [strOfNums_data, strOfNums_data] at h
  exact bytes_inj hp hq h
theorem hasW {ps : List (List Int)} (hps : ∀ p ∈ ps, Bytes p) {q : List Int} (hq : Bytes q) : Maps.has (setOf (H := Unit) (.agg []) (ps.map keyW)) (keyW q) = decide (q ∈ ps) := by
  rw [has_setOf _ _ _ (fun x hx => by simp only [List.mem_map] at hx; obtain ⟨p, _, rfl⟩ := hx; exact keyW_is p)]
  by_cases h : q ∈ ps
  · rw [decide_eq_true h, List.any_eq_true]
    exact ⟨keyW q, List.mem_map_of_mem h, WideAt.sameKey_self (keyW_is q)⟩
  · rw [decide_eq_false h, List.any_eq_false]
    intro x hx
    simp only [List.mem_map] at hx
    obtain ⟨p, hp, rfl⟩ := hx
    have hne : keyW p ≠ keyW q := fun e => by
      have := keyW_inj (hps p hp) hq e
      subst this; exact h hp
    rw [sameKey_ne hne]; simp
/-- the set of the names of some words, in block b -/
def TSet (w : World) (b : Nat) (ps : List (List Int)) : Prop := ∃ n, n ≤ ps.length ∧ w.ownsMap (H := Unit) Tryd.prog 9 unitElem b n (setOf (.agg []) (ps.map keyW))
theorem TSet.lt {w : World} {b : Nat} {M : List (List Int)} (h : TSet w b M) : b < w.heap.size := by
  obtain ⟨n, _, hm⟩ := h; exact hm.lt
theorem TSet.keep {w w' : World} {b : Nat} {M : List (List Int)} (h : TSet w b M) (hk : w'.heap[b]? = w.heap[b]?) : TSet w' b M := by
  obtain ⟨n, hn, es, clock, h1, h2⟩ := h
  exact ⟨n, hn, es, clock, hk.trans h1, h2⟩
theorem TSet.put {w : World} {b nm : Nat} {M : List (List Int)} {q : List Int} (hn : nm ≤ M.length) (h : w.ownsMap (H := Unit) Tryd.prog 9 unitElem b (nm + 1) ((setOf (.agg []) (M.map keyW)).put (keyW q) (.agg []))) : TSet w b (M ++ [q]) :=
  ⟨nm + 1, by simp; omega, by rw [List.map_append, List.map_cons, List.map_nil, setOf_snoc]; exact h⟩
theorem zeroUW (w : World) : (zeroValue 78).run Tryd.prog w = .ok (.agg #[]) w := by kernel_rfl
theorem byte_wf {z : Int} (h : 0 ≤ z ∧ z < 256) : (Lit.int .i64 z).wf = true := by
  simp [Lit.wf, IntKind.min, IntKind.max, IntKind.signed, IntKind.bits]; omega
end Go.Proofs.YtkcggmhllijgcaaDoor
