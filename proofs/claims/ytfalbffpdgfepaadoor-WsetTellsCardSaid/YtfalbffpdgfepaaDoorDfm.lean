/- Tables of bools in memory, and for which states a word of so many letters tells two machines apart. No program's walk in sight. No conditions. -/
import Derived.Test.YtfalbffpdgfepaaDoorBtm
import Derived.Test.YtfalbffpdgfepaaDoorLsi
namespace Go.Proofs.YtfalbffpdgfepaaDoor
open Go.RowKit
/-- is there a word of at most n letters -/
def df (a b : MachD) : Nat → Nat → Nat → Bool
  | 0, _, _ => false
  | n + 1, i, k => (List.range (ins a)).any fun x => (outAt a i x != outAt b k x) || df a b n (nextAt a i x) (nextAt b k x)
def dfx (a b : MachD) (n i k x : Nat) : Bool := (List.range x).any fun x => (outAt a i x != outAt b k x) || df a b n (nextAt a i x) (nextAt b k x)
theorem dfx_zero (a b : MachD) (n i k : Nat) : dfx a b n i k 0 = false := rfl
theorem dfx_succ (a b : MachD) (n i k x : Nat) : dfx a b n i k (x + 1) = (dfx a b n i k x || ((outAt a i x != outAt b k x) || df a b n (nextAt a i x) (nextAt b k x))) := by
  unfold dfx; rw [List.range_succ, List.any_append]; simp
theorem dfx_all (a b : MachD) (n i k : Nat) : dfx a b n i k (ins a) = df a b (n + 1) i k := rfl
theorem df_iff {a b : MachD} : ∀ (n i k : Nat), df a b n i k = true ↔ ∃ w, word a w ∧ w.length ≤ n ∧ tells a i w ≠ tells b k w
  | 0, i, k => by
    constructor
    · intro h; simp [df] at h
    · rintro ⟨w, _, h2, h3⟩
      have : w = [] := List.eq_nil_of_length_eq_zero (by omega)
      subst this
      exact absurd rfl h3
  | n + 1, i, k => by
    simp only [df, List.any_eq_true, List.mem_range, Bool.or_eq_true, bne_iff_ne]
    constructor
    · rintro ⟨x, hx, h⟩
      have hl : letter a (x : Int) := ⟨by omega, by omega⟩
      by_cases ho : outAt a i x = outAt b k x
      · obtain ⟨w, h1, h2, h3⟩ := (df_iff n _ _).1 (h.resolve_left fun h => h ho)
        refine ⟨(x : Int) :: w, fun y hy => ?_, by simp; omega, fun e => h3 ?_⟩
        · rcases List.mem_cons.1 hy with rfl | hy
          · exact hl
          · exact h1 y hy
        · simp only [tells] at e
          injection e
      · refine ⟨[(x : Int)], fun y hy => ?_, by simp, fun e => ho ?_⟩
        · simp at hy; subst hy; exact hl
        · simpa [tells] using e
    · rintro ⟨w, h1, h2, h3⟩
      match w with
      | [] => exact absurd rfl h3
      | y :: w =>
        have hy := h1 y (by simp)
        obtain ⟨x, rfl⟩ : ∃ x : Nat, y = (x : Int) := ⟨y.toNat, by have := hy.1; omega⟩
        refine ⟨x, by have := hy.2; omega, ?_⟩
        by_cases ho : outAt a i x = outAt b k x
        · refine .inr ((df_iff n _ _).2 ⟨w, fun z hz => h1 z (by simp [hz]), by simp at h2; omega, fun e => h3 ?_⟩)
          simp only [tells, ho]
          rw [e]
        · exact .inl ho
def BRow (F : Nat → Prop) (w : World) (v : Value) (f : Nat → Bool) (m : Nat) : Prop :=
  ∃ A c, v = .slice A m c ∧ (m ≤ c ∧ c ≤ maxLen) ∧ (0 < m → ∃ b off, A = some ⟨b, off, none⟩ ∧ F b ∧ ∀ k, k < m → w.cell? ⟨b, off + k, none⟩ = some (.bool (f k)))
def BMat (F : Nat → Prop) (w : World) (v : Value) (d : Nat → Nat → Bool) (n m : Nat) : Prop :=
  ∃ A c, v = .slice A n c ∧ (n ≤ c ∧ c ≤ maxLen) ∧ (0 < n → ∃ b off, A = some ⟨b, off, none⟩ ∧ F b ∧ ∀ i, i < n → ∃ r, w.cell? ⟨b, off + i, none⟩ = some r ∧ BRow F w r (d i) m)
section
variable {F F' : Nat → Prop} {w w' : World} {v : Value} {f f' : Nat → Bool} {d d' : Nat → Nat → Bool} {n m : Nat}
theorem BRow.keep (h : BRow F w v f m) (hs : Same F w w') : BRow F w' v f m := by
  obtain ⟨A, c, h1, h2, h3⟩ := h
  refine ⟨A, c, h1, h2, fun h0 => ?_⟩
  obtain ⟨b, off, k1, k2, k3⟩ := h3 h0
  exact ⟨b, off, k1, k2, fun k hk => (Same.cell hs k2).trans (k3 k hk)⟩
theorem BRow.more (h : BRow F w v f m) (hF : ∀ b, F b → F' b) : BRow F' w v f m := by
  obtain ⟨A, c, h1, h2, h3⟩ := h
  refine ⟨A, c, h1, h2, fun h0 => ?_⟩
  obtain ⟨b, off, k1, k2, k3⟩ := h3 h0
  exact ⟨b, off, k1, hF _ k2, k3⟩
theorem BRow.as (h : BRow F w v f m) (he : ∀ k, k < m → f k = f' k) : BRow F w v f' m := by
  obtain ⟨A, c, h1, h2, h3⟩ := h
  refine ⟨A, c, h1, h2, fun h0 => ?_⟩
  obtain ⟨b, off, k1, k2, k3⟩ := h3 h0
  exact ⟨b, off, k1, k2, fun k hk => by rw [k3 k hk, he k hk]⟩
theorem BMat.keep (h : BMat F w v d n m) (hs : Same F w w') : BMat F w' v d n m := by
  obtain ⟨A, c, h1, h2, h3⟩ := h
  refine ⟨A, c, h1, h2, fun h0 => ?_⟩
  obtain ⟨b, off, k1, k2, k3⟩ := h3 h0
  refine ⟨b, off, k1, k2, fun i hi => ?_⟩
  obtain ⟨r, r1, r2⟩ := k3 i hi
  exact ⟨r, (Same.cell hs k2).trans r1, r2.keep hs⟩
theorem BMat.more (h : BMat F w v d n m) (hF : ∀ b, F b → F' b) : BMat F' w v d n m := by
  obtain ⟨A, c, h1, h2, h3⟩ := h
  refine ⟨A, c, h1, h2, fun h0 => ?_⟩
  obtain ⟨b, off, k1, k2, k3⟩ := h3 h0
  refine ⟨b, off, k1, hF _ k2, fun i hi => ?_⟩
  obtain ⟨r, r1, r2⟩ := k3 i hi
  exact ⟨r, r1, r2.more hF⟩
theorem BMat.as (h : BMat F w v d n m) (he : ∀ i k, i < n → k < m → d i k = d' i k) : BMat F w v d' n m := by
  obtain ⟨A, c, h1, h2, h3⟩ := h
  refine ⟨A, c, h1, h2, fun h0 => ?_⟩
  obtain ⟨b, off, k1, k2, k3⟩ := h3 h0
  refine ⟨b, off, k1, k2, fun i hi => ?_⟩
  obtain ⟨r, r1, r2⟩ := k3 i hi
  exact ⟨r, r1, r2.as fun k hk => he i k hi hk⟩
/-- an entry of a table, as the walk reads it -/
theorem BMat.entry (h : BMat F w v d n m) {i k : Nat} (hi : i < n) (hk : k < m) : ∃ b off c b2 o2 c2, v = .slice (some ⟨b, off, none⟩) n c ∧ F b ∧ w.cell? ⟨b, off + i, none⟩ = some (.slice (some ⟨b2, o2, none⟩) m c2) ∧ F b2 ∧ w.cell? ⟨b2, o2 + k, none⟩ = some (.bool (d i k)) := by
  obtain ⟨A, c, rfl, _, h3⟩ := h
  obtain ⟨b, off, rfl, k2, k3⟩ := h3 (by omega)
  obtain ⟨r, r1, ⟨A2, c2, rfl, _, r3⟩⟩ := k3 i hi
  obtain ⟨b2, o2, rfl, s2, s3⟩ := r3 (by omega)
  exact ⟨b, off, c, b2, o2, c2, rfl, k2, r1, s2, s3 k hk⟩
end
def bools (f : Nat → Bool) (n : Nat) : List Value := (List.range n).map fun k => .bool (f k)
theorem bools_succ (f : Nat → Bool) (n : Nat) : bools f (n + 1) = bools f n ++ [.bool (f n)] := by unfold bools; rw [List.range_succ, List.map_append]; rfl
theorem bools_as {f f' : Nat → Bool} {n : Nat} (h : ∀ k, k < n → f k = f' k) : bools f n = bools f' n := by
  unfold bools; exact List.map_congr_left fun k hk => by rw [h k (List.mem_range.1 hk)]
theorem brow_of_own {w : World} {base n : Nat} {e : TypeId} {v : Value} {f : Nat → Bool} (h : w.ownsRow base e 1 v n (bools f n)) : BRow (fun b => base ≤ b ∧ b < w.heap.size ∧ v.ownBlock = some b) w v f n := by
  by_cases hn : 0 < n
  · obtain ⟨g, cap, rfl, hb, hlt, hc1, hc2, hc⟩ := own_open h hn
    refine ⟨_, cap, rfl, by omega, fun _ => ⟨g, 0, rfl, ⟨hb, hlt, rfl⟩, fun i hi => ?_⟩⟩
    rw [Nat.zero_add, hc i (by omega)]
    simp [bools, hi]
  · rcases h.2 with ⟨rfl, h0⟩ | ⟨g, cap, cur, rfl, hb, hh, hc1, hc2, _⟩
    · obtain rfl : n = 0 := by omega
      exact ⟨none, 0, rfl, by unfold maxLen; omega, fun h => absurd h hn⟩
    · exact ⟨_, cap, rfl, by omega, fun h => absurd h hn⟩
/-- a table under way: its own row of rows -/
structure DInv (B : Nat) (lv : Value) (d : Nat → Nat → Bool) (n m : Nat) (w : World) : Prop where
  row : ∃ cs, w.ownsRow B 64 1 lv n cs ∧ ∀ i, i < n → ∃ r, cs[i]? = some r ∧ BRow (fun b => B ≤ b ∧ b < w.heap.size ∧ lv.ownBlock ≠ some b) w r (d i) m
section
variable {B : Nat} {lv : Value} {d : Nat → Nat → Bool} {n m : Nat} {w w' : World}
theorem DInv.zero : DInv B (.slice none 0 0) d 0 m w := ⟨[], World.ownsRow_nil _ _ _ _, fun i hi => by omega⟩
theorem DInv.below (h : DInv B lv d n m w) (hb : Below w.heap.size w w') : DInv B lv d n m w' := by
  obtain ⟨cs, h1, h2⟩ := h.row
  have hs := hb.size
  refine ⟨cs, own_below h1 hb, fun i hi => ?_⟩
  obtain ⟨r, r1, r2⟩ := h2 i hi
  exact ⟨r, r1, (r2.keep (Same.of_below hb fun b k => k.2.1)).more fun b k => ⟨k.1, by have := k.2.1; omega, k.2.2⟩⟩
theorem DInv.at_lt (h : DInv B lv d n m w) : ∀ k, lv.ownBlock = some k → B ≤ k ∧ k < w.heap.size := fun k hk => by
  obtain ⟨cs, h1, _⟩ := h.row
  exact ⟨own_ge h1 k hk, own_lt h1 k hk⟩
/-- one row more -/
theorem DInv.push {cs : List Value} {r v' : Value} (h1 : w.ownsRow B 64 1 lv n cs) (h2 : ∀ i, i < n → ∃ r, cs[i]? = some r ∧ BRow (fun b => B ≤ b ∧ b < w.heap.size ∧ lv.ownBlock ≠ some b) w r (d i) m)
    (hr : BRow (fun b => B ≤ b ∧ b < w.heap.size ∧ lv.ownBlock ≠ some b) w r (d n) m) (hown : w'.ownsRow B 64 1 v' (n + 1) (cs ++ [r])) (hg : w.grownBy w' lv.ownBlock) (hat : v'.ownBlock = lv.ownBlock ∨ v'.ownBlock = some w.heap.size) :
    DInv B v' d (n + 1) m w' := by
  have hs := hg.size
  have lc : cs.length = n := by have := h1.1; simpa using this
  have keep : ∀ {x : Value} {f : Nat → Bool}, BRow (fun b => B ≤ b ∧ b < w.heap.size ∧ lv.ownBlock ≠ some b) w x f m → BRow (fun b => B ≤ b ∧ b < w'.heap.size ∧ v'.ownBlock ≠ some b) w' x f m := fun hx =>
    (hx.keep (w' := w') fun b k => hg.block b k.2.1 fun e => k.2.2 e.symm).more fun b k => ⟨k.1, by have := k.2.1; omega, fun e => by
      rcases hat with h | h
      · exact k.2.2 (h ▸ e)
      · rw [h] at e; injection e with e; have := k.2.1; omega⟩
  refine ⟨cs ++ [r], hown, fun i hi => ?_⟩
  by_cases hin : i = n
  · subst hin
    exact ⟨r, by rw [← lc]; simp, keep hr⟩
  · obtain ⟨x, x1, x2⟩ := h2 i (by omega)
    exact ⟨x, by rw [List.getElem?_append_left (by omega)]; exact x1, keep x2⟩
theorem DInv.mat (h : DInv B lv d n m w) : BMat (fun b => B ≤ b ∧ b < w.heap.size) w lv d n m := by
  obtain ⟨cs, h1, h2⟩ := h.row
  by_cases hn : 0 < n
  · obtain ⟨g, cap, rfl, hb, hlt, hc1, hc2, hc⟩ := own_open h1 hn
    refine ⟨_, cap, rfl, by omega, fun _ => ⟨g, 0, rfl, ⟨hb, hlt⟩, fun i hi => ?_⟩⟩
    obtain ⟨r, r1, r2⟩ := h2 i hi
    exact ⟨r, by rw [Nat.zero_add, hc i (by omega)]; exact r1, r2.more fun b k => ⟨k.1, k.2.1⟩⟩
  · rcases h1.2 with ⟨rfl, h0⟩ | ⟨g, cap, cur, rfl, hb, hh, hc1, hc2, _⟩
    · obtain rfl : n = 0 := by omega
      exact ⟨none, 0, rfl, by unfold maxLen; omega, fun h => absurd h hn⟩
    · exact ⟨_, cap, rfl, by omega, fun h => absurd h hn⟩
end
theorem infoBool : (Tryd.prog.info? 4).map (fun i => (i.zero, i.size, i.bytes)) = some (some (.bool false), 1, 1) := by kernel_rfl
theorem infoRowB : (Tryd.prog.info? 64).map (fun i => (i.zero, i.size, i.bytes)) = some (some (.slice none 0 0), 1, 24) := by kernel_rfl
end Go.Proofs.YtfalbffpdgfepaaDoor
