/- Which words a grammar makes: the table of pieces as a function, and gram.Has. No conditions. -/
import Derived.Test.YtbnannlpebggjaaDoorGre
namespace Go.Proofs.YtbnannlpebggjaaDoor
open Go.RowKit Go.Deep
abbrev St := List Bool × Bool
def mark1 (st : St) (a f k : Nat) : St := (st.1.set (a * 81 + f * 9 + k) true, st.2 || !tabAt st.1 a f k)
def tL (a f : Nat) (tos : List Int) (st : St) : Nat → St
  | 0 => st
  | m + 1 => mark1 (tL a f tos st m) a f (at0 tos m).toNat
def fL (word r : List Int) (a : Nat) (st : St) : Nat → St
  | 0 => st
  | m + 1 => tL a m (endsF (fL word r a st m).1 word r m) (fL word r a st m) (endsF (fL word r a st m).1 word r m).length
def rL (word : List Int) (rules : List (List Int)) (a : Nat) (st : St) : Nat → St
  | 0 => st
  | m + 1 => fL word (rowAt rules m) a (rL word rules a st m) (word.length + 1)
def gL (g : Gr) (word : List Int) (st : St) : Nat → St
  | 0 => st
  | m + 1 => rL word (gAt g m) m (gL g word st m) (gAt g m).length
def iterF (g : Gr) (word : List Int) : Nat → List Bool → List Bool
  | 0, bs => bs
  | n + 1, bs => if (gL g word (bs, false) g.length).2 then iterF g word n (gL g word (bs, false) g.length).1 else (gL g word (bs, false) g.length).1
/-- does the name 0 make a word? -/
def hasF (g : Gr) (word : List Int) : Bool := tabAt (iterF g word (g.length * 81 + 1) (List.replicate (g.length * 81) false)) 0 0 word.length
def hasE (g : Gr) (word : List Int) : Int := if gramE g ≠ 0 then gramE g else if 8 < word.length then 4 else 0
def hasB (g : Gr) (word : List Int) : Bool := if hasE g word = 0 then hasF g word else false
def StLe (a b : St) : Prop := b.1.length = a.1.length ∧ b.1.count false ≤ a.1.count false ∧ (b.2 = true → a.2 = true ∨ b.1.count false < a.1.count false)
theorem StLe.refl (a : St) : StLe a a := ⟨rfl, Nat.le_refl _, fun h => .inl h⟩
theorem StLe.trans {a b c : St} (h : StLe a b) (k : StLe b c) : StLe a c := ⟨k.1.trans h.1, Nat.le_trans k.2.1 h.2.1, fun e => by
  have h2 := h.2.1
  have k2 := k.2.1
  rcases k.2.2 e with e | e
  · rcases h.2.2 e with e | e
    · exact .inl e
    · exact .inr (by omega)
  · exact .inr (by omega)⟩
theorem set_cnt : ∀ (o : List Bool) (i : Nat), o[i]? = some false → (o.set i true).count false + 1 = o.count false
  | [], i, h => by simp at h
  | b :: r, 0, h => by simp at h; subst h; simp
  | b :: r, i + 1, h => by
    have := set_cnt r i (by simpa using h)
    rw [List.set_cons_succ, List.count_cons, List.count_cons]
    omega
theorem set_had : ∀ (o : List Bool) (i : Nat), o[i]? = some true → o.set i true = o
  | [], i, h => by simp at h
  | b :: r, 0, h => by simp at h; subst h; simp
  | b :: r, i + 1, h => by rw [List.set_cons_succ, set_had r i (by simpa using h)]
theorem mark1_le {st : St} {a f k : Nat} (h : a * 81 + f * 9 + k < st.1.length) : StLe st (mark1 st a f k) := by
  have e : st.1[a * 81 + f * 9 + k]? = some (tabAt st.1 a f k) := by unfold tabAt; rw [List.getD_eq_getElem?_getD, List.getElem?_eq_getElem h]; rfl
  unfold mark1
  refine ⟨by simp, ?_, fun hh => ?_⟩
  · cases hb : tabAt st.1 a f k with
    | true => rw [hb] at e; simp only; rw [set_had _ _ e]; exact Nat.le_refl _
    | false => rw [hb] at e; have := set_cnt _ _ e; simp only; omega
  · simp only at hh ⊢
    cases hb : tabAt st.1 a f k with
    | true => rw [hb] at hh; simp at hh; exact .inl hh
    | false => rw [hb] at e; have := set_cnt _ _ e; exact .inr (by omega)
theorem tL_le {n a f : Nat} {tos : List Int} {st : St} (hn : st.1.length = n * 81) (ha : a < n) (hf : f ≤ 8) (ht : ∀ z ∈ tos, 0 ≤ z ∧ z ≤ 8) : ∀ m, m ≤ tos.length → StLe st (tL a f tos st m)
  | 0, _ => StLe.refl _
  | m + 1, hm => by
    have h1 := tL_le hn ha hf ht m (by omega)
    have h2 := ht _ (mem_at (l := tos) (i := m) (by omega))
    have h3 : (a + 1) * 81 ≤ n * 81 := Nat.mul_le_mul_right _ ha
    exact h1.trans (mark1_le (by rw [h1.1, hn]; omega))
theorem fL_le {n a : Nat} {word r : List Int} {st : St} (hn : st.1.length = n * 81) (ha : a < n) (hw : word.length ≤ 8) (hr : r.length ≤ 4) : ∀ m, m ≤ word.length + 1 → StLe st (fL word r a st m)
  | 0, _ => StLe.refl _
  | m + 1, hm => by
    have h1 := fL_le hn ha hw hr m (by omega)
    have h2 := (ends_facts (bs := (fL word r a st m).1) (things := r) (from_ := m) hw hr (by omega)).2
    exact h1.trans (tL_le (h1.1.trans hn) ha (by omega) (fun z hz => by have := h2 z hz; omega) _ (Nat.le_refl _))
theorem rL_le {n a : Nat} {word : List Int} {rules : List (List Int)} {st : St} (hn : st.1.length = n * 81) (ha : a < n) (hw : word.length ≤ 8) (hr : ∀ k, k < rules.length → (rowAt rules k).length ≤ 4) : ∀ m, m ≤ rules.length → StLe st (rL word rules a st m)
  | 0, _ => StLe.refl _
  | m + 1, hm => by
    have h1 := rL_le hn ha hw hr m (by omega)
    exact h1.trans (fL_le (h1.1.trans hn) ha hw (hr m (by omega)) _ (Nat.le_refl _))
theorem gL_le {g : Gr} {word : List Int} {st : St} (hg : GramOk g) (hn : st.1.length = g.length * 81) (hw : word.length ≤ 8) : ∀ m, m ≤ g.length → StLe st (gL g word st m)
  | 0, _ => StLe.refl _
  | m + 1, hm => by
    have h1 := gL_le hg hn hw m (by omega)
    exact h1.trans (rL_le (n := g.length) (h1.1.trans hn) (by omega) hw (hg.len m (by omega)) _ (Nat.le_refl _))
/-- where the search stands: the table, whether it is to be gone over again; fin: the table in the end -/
def HasInv (g : Gr) (word : List Int) (fin bs : List Bool) (ch : Bool) : Prop := bs.length = g.length * 81 ∧ if ch then ∃ f, bs.count false < f ∧ fin = iterF g word f bs else fin = bs
theorem hasInv_start (g : Gr) (word : List Int) : HasInv g word (iterF g word (g.length * 81 + 1) (List.replicate (g.length * 81) false)) (List.replicate (g.length * 81) false) true :=
  ⟨by simp, by rw [if_pos rfl]; exact ⟨_, by simp, rfl⟩⟩
theorem hasInv_step {g : Gr} {word : List Int} {fin bs : List Bool} (hg : GramOk g) (hw : word.length ≤ 8) (h : HasInv g word fin bs true) : HasInv g word fin (gL g word (bs, false) g.length).1 (gL g word (bs, false) g.length).2 ∧ ((gL g word (bs, false) g.length).2 = true → (gL g word (bs, false) g.length).1.count false < bs.count false) := by
  obtain ⟨h1, h2⟩ := h
  rw [if_pos rfl] at h2
  obtain ⟨f, h3, h4⟩ := h2
  have L := gL_le (st := (bs, false)) hg h1 hw g.length (Nat.le_refl _)
  have L3 : (gL g word (bs, false) g.length).2 = true → (gL g word (bs, false) g.length).1.count false < bs.count false := fun e => by
    rcases L.2.2 e with e | e
    · cases e
    · exact e
  refine ⟨⟨L.1.trans h1, ?_⟩, L3⟩
  match f, h3, h4 with
  | f + 1, h3, h4 =>
    rw [iterF] at h4
    cases hc : (gL g word (bs, false) g.length).2 with
    | true =>
      rw [hc, if_pos rfl] at h4
      rw [if_pos rfl]
      exact ⟨f, by have := L3 hc; omega, h4⟩
    | false =>
      rw [hc] at h4
      simpa using h4
def falseV : Value → Bool
  | .bool false => true
  | _ => false
/-- how many entries are not yet set, through the memory -/
noncomputable def openAt (sb : Nat) (w : World) : Nat := match w.heap[sb]? with
  | some (.cells cs _ _) => cs.toList.countP falseV
  | _ => 0
theorem openAt_eq {w : World} {v : Value} {sb n : Nat} {bs : List Bool} (h : TabIn w v sb n bs) : openAt sb w = bs.count false := by
  unfold openAt
  rw [h.2.2]
  simp only
  have : ∀ l : List Bool, (l.map Value.bool).countP falseV = l.count false := by
    intro l
    induction l with
    | nil => rfl
    | cons b r ih => cases b <;> simp [List.countP_cons, falseV, ih]
  exact this bs
theorem TabIn.set {w : World} {v : Value} {sb n : Nat} {bs : List Bool} (h : TabIn w v sb n bs) (i : Nat) : TabIn (w.setCell ⟨sb, i, none⟩ (.bool true)) v sb n (bs.set i true) := by
  refine ⟨h.1, by rw [List.length_set]; exact h.2.1, ?_⟩
  rw [Has.set h.2.2]
  simp
theorem madeT_list (n : Nat) : madeCells (Array.replicate 81 (Value.bool false)) (n * 81) = ((List.replicate (n * 81) false).map Value.bool).toArray := by
  apply Array.ext
  · simp [madeCells]
  · intro i h1 h2
    have : i % 81 < 81 := Nat.mod_lt _ (by decide)
    simp [madeCells, this]
theorem infoTab : (Tryd.prog.info? 50).map (fun i => (i.zero.map Value.cells, i.size, i.bytes)) = some (some (Array.replicate 81 (.bool false)), 81, 81) := by kernel_rfl
theorem run_make_tab (n : Nat) (hn : n ≤ 5) (w : World) : (Instr.makeSlice 47 (.int .i64 (n : Int)) (.int .i64 (n : Int))).run Tryd.prog w = .ok (.slice (some ⟨w.heap.size, 0, none⟩) n n) (w.alloc (.cells ((List.replicate (n * 81) false).map Value.bool).toArray 50)) := by
  obtain ⟨i, hi, hzz⟩ := Option.map_eq_some_iff.1 infoTab
  simp only [Prod.mk.injEq] at hzz
  obtain ⟨hz, hs, hb⟩ := hzz
  obtain ⟨z, hz1, hz2⟩ := Option.map_eq_some_iff.1 hz
  have hr := run_make (P := Tryd.prog) w 47 50 i z Tryd.underlying47 hi hz1 .i64 .i64 n n (by omega) (Int.le_refl _) (by rw [hb]; omega) (by omega)
  rw [Int.toNat_natCast, hs, hz2, madeT_list] at hr
  exact hr
end Go.Proofs.YtbnannlpebggjaaDoor
