/- Rules that the call builds for TableAll, each row in a block of its own; what is said of them. No conditions. -/
import Derived.Test.YtkiljnggphlomaaDoorTho
import Derived.Test.YtkiljnggphlomaaDoorTcl
import Derived.Test.YtkiljnggphlomaaDoorRin
namespace Go.Proofs.YtkiljnggphlomaaDoor
open Go.RowKit Go.Deep
theorem infoRule : (Tryd.prog.info? 51).map (fun i => (i.zero, i.size, i.bytes)) = some (some (.agg #[.slice none 0 0, .int .i64 0]), 2, 32) := by kernel_rfl
abbrev RuV := List (Value × Nat)
def rcells (l : RuV) : List Value := l.flatMap fun e => [e.1, .int .i64 (e.2 : Int)]
theorem rcells_len (l : RuV) : (rcells l).length = l.length * 2 := by
  induction l with
  | nil => rfl
  | cons x l ih => simp only [rcells, List.flatMap_cons, List.length_append, List.length_cons, List.length_nil] at *; omega
theorem rcells_append (a b : RuV) : rcells (a ++ b) = rcells a ++ rcells b := by unfold rcells; rw [List.flatMap_append]
theorem rcells_at : ∀ (l : RuV) (i : Nat) (h : i < l.length), (rcells l)[i * 2]? = some l[i].1 ∧ (rcells l)[i * 2 + 1]? = some (.int .i64 (l[i].2 : Int))
  | [], i, h => by simp at h
  | x :: l, 0, _ => ⟨rfl, rfl⟩
  | x :: l, i + 1, h => by
    have := rcells_at l i (by simpa using h)
    have e1 : (i + 1) * 2 = i * 2 + 1 + 1 := by omega
    have e2 : rcells (x :: l) = x.1 :: .int .i64 (x.2 : Int) :: rcells l := rfl
    rw [e1, e2]
    simpa using this
def rOf (rs : RuV) : RuleL := rs.map fun r => (r.2, (r.2 : Int))
theorem rOf_len (rs : RuV) : (rOf rs).length = rs.length := by simp [rOf]
theorem rOf_at {rs : RuV} {i : Nat} (h : i < rs.length) : ruAt (rOf rs) i = (rs[i].2, (rs[i].2 : Int)) := by
  rw [ruAt_get (by rw [rOf_len]; exact h)]; simp [rOf]
structure RuMem (n B : Nat) (w : World) (v : Value) (rs : RuV) : Prop where
  own : w.ownsRow B 51 2 v rs.length (rcells rs)
  row : ∀ r ∈ rs, IntsIn .i64 (fun b => b < w.heap.size ∧ v.ownBlock ≠ some b) w r.1 (bitsR n r.2)
theorem RuMem.nil (n B : Nat) (w : World) : RuMem n B w (.slice none 0 0) [] := ⟨World.ownsRow_nil _ _ _ _, fun r h => by simp at h⟩
theorem RuMem.below {n B : Nat} {w w' : World} {v : Value} {rs : RuV} (h : RuMem n B w v rs) (hb : Below w.heap.size w w') : RuMem n B w' v rs :=
  ⟨own_below h.own hb, fun r hr => ((h.row r hr).keep fun b hb' => hb.block b hb'.1).more fun _ hb' => ⟨Nat.lt_of_lt_of_le hb'.1 hb.size, hb'.2⟩⟩
theorem RuMem.rules {n B : Nat} {w : World} {v : Value} {rs : RuV} (h : RuMem n B w v rs) : RulesIn n (fun b => b < w.heap.size) w v (rOf rs) := by
  unfold RulesIn
  rw [rOf_len]
  by_cases hn : 0 < rs.length
  · obtain ⟨g, cap, rfl, hb, hlt, hc1, hc2, hc⟩ := own_open h.own hn
    refine ⟨_, cap, rfl, ⟨hc1, hc2⟩, fun _ => ⟨g, 0, rfl, hlt, fun i hi => ?_⟩⟩
    have := rcells_at rs i hi
    rw [Nat.zero_add, hc (i * 2) (by omega), hc (i * 2 + 1) (by omega), rOf_at hi]
    exact ⟨_, this.1, (h.row _ (List.getElem_mem hi)).more fun _ hb => hb.1, this.2⟩
  · rcases h.own.2 with ⟨rfl, h0⟩ | ⟨g, cap, cur, rfl, hb, hh, hc1, hc2, _⟩
    · exact ⟨none, 0, by simp; omega, by unfold maxLen; omega, fun h => absurd h hn⟩
    · exact ⟨_, cap, rfl, ⟨hc1, hc2⟩, fun h => absurd h hn⟩
theorem RuMem.push {n B : Nat} {w w1 w2 : World} {v v2 u : Value} {t : Nat} {rs : RuV} (h : RuMem n B w v rs) (hu : IntsIn .i64 (fun b => b < w.heap.size ∧ v.ownBlock ≠ some b) w u (bitsR n t)) (h1 : Below w.heap.size w w1)
    (hown : w2.ownsRow B 51 2 v2 (rs.length + 1) (rcells rs ++ [u, .int .i64 (t : Int)])) (hg : w1.grownBy w2 v.ownBlock) (hat : v2.ownBlock = v.ownBlock ∨ v2.ownBlock = some w1.heap.size) : RuMem n B w2 v2 (rs ++ [(u, t)]) := by
  have sz := h1.size
  have sz2 := hg.size
  have K : ∀ (x : Value) (l : List Int), IntsIn .i64 (fun b => b < w.heap.size ∧ v.ownBlock ≠ some b) w x l → IntsIn .i64 (fun b => b < w2.heap.size ∧ v2.ownBlock ≠ some b) w2 x l := fun x l hx =>
    (hx.keep (w' := w2) fun b hb => (hg.block b (by omega) (fun e => hb.2 e.symm)).trans (h1.block b hb.1)).more fun b hb => ⟨by omega, fun e => by
      rcases hat with e1 | e1
      · exact hb.2 (e1 ▸ e)
      · rw [e1] at e; injection e with e; omega⟩
  refine ⟨by rw [rcells_append]; simpa [rcells] using hown, fun r hr => ?_⟩
  rcases List.mem_append.1 hr with hr | hr
  · exact K _ _ (h.row r hr)
  · simp at hr; subst hr; exact K _ _ hu
/-- the rules say just the tests -/
structure RuSays (n : Nat) (zs : List Int) (rs : RuV) : Prop where
  eq : rs.map (fun r => (r.2 : Int)) = zs
  lt : ∀ r ∈ rs, r.2 < 2 ^ n
theorem RuSays.nil (n : Nat) : RuSays n [] [] := ⟨rfl, fun r h => by simp at h⟩
theorem RuSays.push {n t : Nat} {zs : List Int} {rs : RuV} {u : Value} (h : RuSays n zs rs) (ht : t < 2 ^ n) : RuSays n (zs ++ [(t : Int)]) (rs ++ [(u, t)]) :=
  ⟨by simp [h.eq], fun r hr => by
    rcases List.mem_append.1 hr with hr | hr
    · exact h.lt r hr
    · simp at hr; subst hr; exact ht⟩
theorem RuSays.mem {n t : Nat} {zs : List Int} {rs : RuV} (h : RuSays n zs rs) : (t : Int) ∈ zs ↔ ∃ r ∈ rs, r.2 = t := by
  rw [← h.eq, List.mem_map]
  constructor
  · rintro ⟨r, hr, e⟩; exact ⟨r, hr, by omega⟩
  · rintro ⟨r, hr, e⟩; exact ⟨r, hr, by omega⟩
theorem RuSays.any {n t : Nat} {zs : List Int} {rs : RuV} (h : RuSays n zs rs) (ht : t < 2 ^ n) : ((rOf rs).any fun r => fitB n r.1 t) = decide ((t : Int) ∈ zs) := by
  rw [Bool.eq_iff_iff, List.any_eq_true, decide_eq_true_eq, h.mem]
  constructor
  · rintro ⟨r, hr, e⟩
    simp only [rOf, List.mem_map] at hr
    obtain ⟨q, hq, rfl⟩ := hr
    rw [fitB_eq (h.lt q hq) ht, decide_eq_true_eq] at e
    exact ⟨q, hq, e.symm⟩
  · rintro ⟨q, hq, e⟩
    refine ⟨(q.2, (q.2 : Int)), by simp only [rOf, List.mem_map]; exact ⟨q, hq, rfl⟩, ?_⟩
    rw [fitB_eq (h.lt q hq) ht, decide_eq_true_eq]
    exact e.symm
theorem RuSays.whichC {n t : Nat} {zs : List Int} {rs : RuV} (h : RuSays n zs rs) (ht : t < 2 ^ n) : whichC n t (rOf rs) = if (t : Int) ∈ zs then 0 else 2 := by
  unfold Go.Proofs.YtkiljnggphlomaaDoor.whichC
  rw [h.any ht]
  by_cases hm : (t : Int) ∈ zs <;> simp [hm]
theorem RuSays.whichD {n t : Nat} {zs : List Int} {rs : RuV} (h : RuSays n zs rs) (ht : t < 2 ^ n) (hm : (t : Int) ∈ zs) : whichD n t (rOf rs) = t := by
  unfold Go.Proofs.YtkiljnggphlomaaDoor.whichD
  cases hf : (rOf rs).find? (fun r => fitB n r.1 t) with
  | none =>
    rw [List.find?_eq_none] at hf
    have : ((rOf rs).any fun r => fitB n r.1 t) = true := by rw [h.any ht]; exact decide_eq_true hm
    rw [List.any_eq_true] at this
    obtain ⟨r, hr, e⟩ := this
    exact absurd e (hf r hr)
  | some r =>
    have e := List.find?_some hf
    have hr := List.mem_of_find?_eq_some hf
    simp only [rOf, List.mem_map] at hr
    obtain ⟨q, hq, rfl⟩ := hr
    rw [fitB_eq (h.lt q hq) ht, decide_eq_true_eq] at e
    simp [e]
theorem RuSays.holes {n t : Nat} {zs : List Int} {rs : RuV} (h : RuSays n zs rs) (ht : t < 2 ^ n) : decide ((t : Int) ∈ holesL n (rOf rs)) = !decide ((t : Int) ∈ zs) := by
  have : (t : Int) ∈ holesL n (rOf rs) ↔ noneFits n (rOf rs) t = true := by
    unfold holesL filtI
    simp only [List.mem_map, List.mem_filter, List.mem_range]
    constructor
    · rintro ⟨a, ⟨_, h2⟩, e⟩
      have : a = t := by have e2 : (a : Int) = t := e; omega
      subst this; exact h2
    · intro h2; exact ⟨t, ⟨ht, h2⟩, rfl⟩
  rw [Bool.eq_iff_iff, decide_eq_true_eq, this]
  unfold noneFits
  rw [h.any ht]
theorem RuSays.clash {n : Nat} {zs : List Int} {rs : RuV} (h : RuSays n zs rs) : noClash n (rOf rs) := by
  intro i k hi hk hd
  rw [rOf_len] at hi hk
  rw [rOf_at hi, rOf_at hk] at hd ⊢
  simp only [] at hd ⊢
  rw [fitB_eq (h.lt _ (List.getElem_mem hi)) (h.lt _ (List.getElem_mem hk)), decide_eq_false_iff_not]
  intro e
  exact hd (by rw [e])
theorem RuSays.len {n : Nat} {zs : List Int} {rs : RuV} (h : RuSays n zs rs) : rs.length = zs.length := by rw [← h.eq]; simp
theorem rin_quiet (zs : List Int) (x : Int) (F : Nat → Prop) (v : Value) (w : World) (hv : IntsIn .i64 F w v zs) :
    Calls Tryd.prog 28 #[v, .int .i64 x] w (Quiet w (.bool (decide (x ∈ zs)))) :=
  (rin_any zs x F v w hv).mono fun _ _ h => ⟨h.1, 0, h.2.symm⟩
/-- the bits, one by one -/
theorem bitsR_succ (n t : Nat) : bitsR (n + 1) t = bitsR n t ++ [((bt t n : Nat) : Int)] := by unfold bitsR; rw [List.range_succ]; simp
end Go.Proofs.YtkiljnggphlomaaDoor
