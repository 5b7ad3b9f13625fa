/- Counting paths by search, as a function of what is there; its memories, apart. No conditions. -/
import Derived.Test.YtkiljnggphlomaaFam
import Derived.Test.YtkiljnggphlomaaSrt
namespace Go.Proofs.Ytkiljnggphlomaa
open Go.RowKit Go.Deep
structure PSt where
  rows : List (List Int)
  pth : List Int
  opn : List Bool
def goS (c : PSt → Nat → Option PSt) : List Int → PSt → Int → Option (PSt × Int)
  | [], s, k => some (s, k)
  | j :: js, s, k => match c s j.toNat with
    | none => none
    | some s' => goS c js s' (IntKind.i64.wrap (k + at0 s'.pth j.toNat))
def enterS (s : PSt) (i : Nat) : PSt := ⟨s.rows.set i (srt (rowAt s.rows i)), s.pth, s.opn.set i true⟩
def leaveS (s : PSt) (i : Nat) (k : Int) : PSt := ⟨s.rows, s.pth.set i k, s.opn.set i false⟩
def cntS (n : Nat) : Nat → PSt → Nat → Option PSt
  | 0, _, _ => none
  | f + 1, s, i =>
    if s.opn.getD i false = true then none else if 0 ≤ at0 s.pth i then some s else
      match goS (cntS n f) (srt (rowAt s.rows i)) (enterS s i) (if i + 1 = n then 1 else 0) with
      | none => none
      | some (s', k) => some (leaveS s' i k)
theorem goS_snoc (c : PSt → Nat → Option PSt) : ∀ (a : List Int) (j : Int) (s : PSt) (k : Int), goS c (a ++ [j]) s k = (goS c a s k).bind fun p => (c p.1 j.toNat).map fun s' => (s', IntKind.i64.wrap (p.2 + at0 s'.pth j.toNat))
  | [], j, s, k => by
    simp only [List.nil_append, goS, Option.bind_some]
    cases c s j.toNat <;> rfl
  | x :: a, j, s, k => by
    simp only [List.cons_append, goS]
    cases c s x.toNat with
    | none => rfl
    | some s' => exact goS_snoc c a j s' _
theorem goS_stop (c : PSt → Nat → Option PSt) : ∀ (a b : List Int) (s : PSt) (k : Int), goS c a s k = none → goS c (a ++ b) s k = none
  | [], b, s, k, h => by simp [goS] at h
  | x :: a, b, s, k, h => by
    simp only [List.cons_append, goS] at h ⊢
    cases hc : c s x.toNat with
    | none => rfl
    | some s' => rw [hc] at h; exact goS_stop c a b s' _ h
def nOpen (l : List Bool) : Nat := (l.filter fun b => b).length
theorem nOpen_le (l : List Bool) : nOpen l ≤ l.length := List.length_filter_le _ _
theorem nOpen_set : ∀ (l : List Bool) (i : Nat), i < l.length → l.getD i false = false → nOpen (l.set i true) = nOpen l + 1
  | [], i, h, _ => by simp at h
  | b :: l, 0, _, h => by simp at h; subst h; simp [nOpen]
  | b :: l, i + 1, h, h2 => by
    have := nOpen_set l i (by simpa using h) (by simpa using h2)
    unfold nOpen at this ⊢
    rw [List.set_cons_succ, List.filter_cons, List.filter_cons]
    split <;> simp [this]
/-- lengths, and what a count leaves of what is open -/
structure Kin (n : Nat) (s s' : PSt) : Prop where
  rl : s'.rows.length = s.rows.length
  pl : s'.pth.length = s.pth.length
  ol : s'.opn = s.opn
  rk : ∀ i, s.opn.getD i false = true → rowAt s'.rows i = rowAt s.rows i
  pk : ∀ i, s.opn.getD i false = true → at0 s'.pth i = at0 s.pth i
theorem Kin.refl (n : Nat) (s : PSt) : Kin n s s := ⟨rfl, rfl, rfl, fun _ _ => rfl, fun _ _ => rfl⟩
theorem Kin.trans {n : Nat} {a b c : PSt} (h : Kin n a b) (k : Kin n b c) : Kin n a c :=
  ⟨k.rl.trans h.rl, k.pl.trans h.pl, k.ol.trans h.ol, fun i hi => (k.rk i (by rw [h.ol]; exact hi)).trans (h.rk i hi), fun i hi => (k.pk i (by rw [h.ol]; exact hi)).trans (h.pk i hi)⟩
theorem goS_kin {n : Nat} {c : PSt → Nat → Option PSt} (hc : ∀ s i s', c s i = some s' → Kin n s s') : ∀ (js : List Int) (s : PSt) (k : Int) (p : PSt × Int), goS c js s k = some p → Kin n s p.1
  | [], s, k, p, h => by simp only [goS] at h; injection h with h; subst h; exact Kin.refl n s
  | j :: js, s, k, p, h => by
    simp only [goS] at h
    cases hj : c s j.toNat with
    | none => rw [hj] at h; cases h
    | some s' => rw [hj] at h; exact (hc _ _ _ hj).trans (goS_kin hc js s' _ p h)
theorem rowAt_set' (ll : List (List Int)) (i j : Nat) (x : List Int) (h : i ≠ j) : rowAt (ll.set i x) j = rowAt ll j := by
  unfold rowAt; rw [List.getD_eq_getElem?_getD, List.getD_eq_getElem?_getD, List.getElem?_set, if_neg h]
theorem open_set (l : List Bool) (i j : Nat) (b : Bool) : (l.set i b).getD j false = if i = j ∧ j < l.length then b else l.getD j false := by
  rw [List.getD_eq_getElem?_getD, List.getD_eq_getElem?_getD, List.getElem?_set]
  by_cases e : i = j
  · subst e
    by_cases h : i < l.length
    · simp [h]
    · simp [h, List.getElem?_eq_none (by omega : l.length ≤ i)]
  · simp [e]
theorem cntS_kin (n : Nat) : ∀ (f : Nat) (s : PSt) (i : Nat) (s' : PSt), cntS n f s i = some s' → Kin n s s'
  | 0, s, i, s', h => by simp [cntS] at h
  | f + 1, s, i, s', h => by
    simp only [cntS] at h
    split at h
    · cases h
    · rename_i ho
      split at h
      · injection h with h; subst h; exact Kin.refl n s
      · cases hg : goS (cntS n f) (srt (rowAt s.rows i)) (enterS s i) (if i + 1 = n then 1 else 0) with
        | none => rw [hg] at h; cases h
        | some p =>
          rw [hg] at h
          injection h with h
          subst h
          have k := goS_kin (cntS_kin n f) _ _ _ _ hg
          have hf : s.opn.getD i false = false := by simpa using ho
          refine ⟨?_, ?_, ?_, fun j hj => ?_, fun j hj => ?_⟩
          · have := k.rl; simp only [leaveS, enterS, List.length_set] at this ⊢; exact this
          · have := k.pl; simp only [leaveS, enterS, List.length_set] at this ⊢; exact this
          · have := k.ol
            simp only [leaveS, enterS] at this ⊢
            rw [this, List.set_set]
            apply List.ext_getElem?
            intro j
            rw [List.getElem?_set]
            by_cases e : i = j
            · subst e
              rw [if_pos rfl]
              split
              · rename_i hl
                rw [List.getD_eq_getElem?_getD, List.getElem?_eq_getElem hl] at hf
                rw [List.getElem?_eq_getElem hl]
                simpa using hf.symm
              · rename_i hl; rw [List.getElem?_eq_none (by omega)]
            · rw [if_neg e]
          · have hij : i ≠ j := fun e => by subst e; rw [hf] at hj; cases hj
            have := k.rk j (by simp only [enterS]; rw [open_set, if_neg (fun h => hij h.1)]; exact hj)
            simp only [leaveS, enterS] at this ⊢
            rw [this, rowAt_set' _ _ _ _ hij]
          · have hij : i ≠ j := fun e => by subst e; rw [hf] at hj; cases hj
            have := k.pk j (by simp only [enterS]; rw [open_set, if_neg (fun h => hij h.1)]; exact hj)
            simp only [leaveS, enterS] at this ⊢
            rw [← this]
            unfold at0
            rw [List.getD_eq_getElem?_getD, List.getD_eq_getElem?_getD, List.getElem?_set, if_neg hij]
/-- blocks of the search: n's box, open's box, g's box, count's box, the graph, paths, open, next -/
structure PEnv where
  bn : Nat
  bo : Nat
  bg : Nat
  bc : Nat
  gb : Nat
  P : Nat
  O : Nat
  G : Nat
structure PEnv.Ok (B : Nat) (z : PEnv) : Prop where
  o1 : z.O ≠ z.bn
  o2 : z.O ≠ z.bo
  o3 : z.O ≠ z.bg
  o4 : z.O ≠ z.bc
  o5 : z.O ≠ z.gb
  o6 : z.O ≠ z.P
  o7 : z.O ≠ z.G
  p1 : z.P ≠ z.bn
  p2 : z.P ≠ z.bo
  p3 : z.P ≠ z.bg
  p4 : z.P ≠ z.bc
  p5 : z.P ≠ z.gb
  p7 : z.P ≠ z.G
  lo : B ≤ z.O
  lp : B ≤ z.P
def PEnv.has (z : PEnv) (b : Nat) : Prop := b = z.bn ∨ b = z.bo ∨ b = z.bg ∨ b = z.bc ∨ b = z.gb ∨ b = z.P ∨ b = z.O
structure PMem (B n : Nat) (z : PEnv) (us : List Value) (s : PSt) (w : World) : Prop where
  hn : w.heap[z.bn]? = some (.cells #[.int .i64 (n : Int)] 3 (0, 0))
  ho : w.heap[z.bo]? = some (.cells #[.slice (some ⟨z.O, 0, none⟩) n n] 50 (0, 0))
  hg : w.heap[z.bg]? = some (.cells #[.pointer (some ⟨z.gb, 0, none⟩)] 65 (0, 0))
  hc : w.heap[z.bc]? = some (.cells #[.func (Fn.func 46) #[] #[.pointer (some ⟨z.bo, 0, none⟩), .pointer (some ⟨z.bg, 0, none⟩), .pointer (some ⟨z.bn, 0, none⟩), .pointer (some ⟨z.bc, 0, none⟩)]] 46 (0, 0))
  hgb : w.heap[z.gb]? = some (.cells #[.slice (some ⟨z.G, 0, none⟩) n n, .slice (some ⟨z.P, 0, none⟩) n n] 69 (0, 0))
  hp : w.heap[z.P]? = some (.cells (s.pth.map (Value.int .i64)).toArray 3 (0, 0))
  hO : w.heap[z.O]? = some (.cells (s.opn.map Value.bool).toArray 4 (0, 0))
  fam : Fam B w z.G us s.rows
  lr : s.rows.length = n
  lp : s.pth.length = n
  lo : s.opn.length = n
  ap : ∀ u ∈ us, ∀ b, u.ownBlock = some b → ¬ z.has b
section
variable {B n : Nat} {z : PEnv} {us : List Value} {s : PSt} {w w1 : World}
theorem PMem.keepAll (h : PMem B n z us s w) (hz : ∀ b, z.has b → w1.heap[b]? = w.heap[b]?) (hf : Fam B w1 z.G us s.rows) : PMem B n z us s w1 :=
  ⟨(hz _ (.inl rfl)).trans h.hn, (hz _ (.inr (.inl rfl))).trans h.ho, (hz _ (.inr (.inr (.inl rfl)))).trans h.hg, (hz _ (.inr (.inr (.inr (.inl rfl))))).trans h.hc, (hz _ (.inr (.inr (.inr (.inr (.inl rfl)))))).trans h.hgb, (hz _ (.inr (.inr (.inr (.inr (.inr (.inl rfl))))))).trans h.hp, (hz _ (.inr (.inr (.inr (.inr (.inr (.inr rfl))))))).trans h.hO, hf, h.lr, h.lp, h.lo, h.ap⟩
theorem PMem.lt (h : PMem B n z us s w) {b : Nat} (hb : z.has b) : b < w.heap.size := by
  rcases hb with rfl | rfl | rfl | rfl | rfl | rfl | rfl
  · exact Has.lt h.hn
  · exact Has.lt h.ho
  · exact Has.lt h.hg
  · exact Has.lt h.hc
  · exact Has.lt h.hgb
  · exact Has.lt h.hp
  · exact Has.lt h.hO
theorem PMem.drew (h : PMem B n z us s w) : PMem B n z us s w.drew := h.keepAll (fun _ _ => rfl) (h.fam.keep rfl fun _ _ _ _ => rfl)
theorem PMem.below (h : PMem B n z us s w) (hb : Below w.heap.size w w1) : PMem B n z us s w1 := h.keepAll (fun b hz => hb.block b (h.lt hz)) (h.fam.below hb)
theorem PMem.setO (h : PMem B n z us s w) (ok : z.Ok B) (i : Nat) (b : Bool) : PMem B n z us ⟨s.rows, s.pth, s.opn.set i b⟩ (w.setCell ⟨z.O, i, none⟩ (.bool b)) := by
  have k : ∀ c, c ≠ z.O → (w.setCell ⟨z.O, i, none⟩ (.bool b)).heap[c]? = w.heap[c]? := fun c hc => Below.heap_setCell w ⟨z.O, i, none⟩ _ c hc
  refine ⟨(k _ ok.o1.symm).trans h.hn, (k _ ok.o2.symm).trans h.ho, (k _ ok.o3.symm).trans h.hg, (k _ ok.o4.symm).trans h.hc, (k _ ok.o5.symm).trans h.hgb, (k _ ok.o6.symm).trans h.hp, ?_, h.fam.keep (k _ ok.o7.symm) fun u hu c hc => k c (fun e => h.ap u hu c hc (by rw [e]; exact .inr (.inr (.inr (.inr (.inr (.inr rfl))))))), h.lr, h.lp, by rw [List.length_set]; exact h.lo, h.ap⟩
  rw [Has.set h.hO i (.bool b)]
  simp [List.map_set]
theorem PMem.setP (h : PMem B n z us s w) (ok : z.Ok B) (i : Nat) (x : Int) : PMem B n z us ⟨s.rows, s.pth.set i x, s.opn⟩ (w.setCell ⟨z.P, i, none⟩ (.int .i64 x)) := by
  have k : ∀ c, c ≠ z.P → (w.setCell ⟨z.P, i, none⟩ (.int .i64 x)).heap[c]? = w.heap[c]? := fun c hc => Below.heap_setCell w ⟨z.P, i, none⟩ _ c hc
  refine ⟨(k _ ok.p1.symm).trans h.hn, (k _ ok.p2.symm).trans h.ho, (k _ ok.p3.symm).trans h.hg, (k _ ok.p4.symm).trans h.hc, (k _ ok.p5.symm).trans h.hgb, ?_, (k _ ok.o6).trans h.hO, h.fam.keep (k _ ok.p7.symm) fun u hu c hc => k c (fun e => h.ap u hu c hc (by rw [e]; exact .inr (.inr (.inr (.inr (.inr (.inl rfl))))))), h.lr, by rw [List.length_set]; exact h.lp, h.lo, h.ap⟩
  rw [Has.set h.hp i (.int .i64 x)]
  simp [List.map_set]
/-- one row is written over in its own block -/
theorem PMem.over {i : Nat} {u : Value} {x : List Int} (h : PMem B n z us s w) (hi : i < s.rows.length) (hu : us[i]? = some u) (hg : w.grownBy w1 u.ownBlock) (hown : w1.ownsRow B 3 1 u x.length (x.map (Value.int .i64))) : PMem B n z us ⟨s.rows.set i x, s.pth, s.opn⟩ w1 := by
  have um := List.mem_of_getElem? hu
  have kz : ∀ b, z.has b → w1.heap[b]? = w.heap[b]? := fun b hb => hg.block b (h.lt hb) (fun e => h.ap u um b e.symm hb)
  have hG : w1.heap[z.G]? = w.heap[z.G]? := hg.block z.G h.fam.lt (fun e => h.fam.ne u um e.symm)
  have hf : Fam B w1 z.G us (s.rows.set i x) := by
    refine ⟨hG.trans h.fam.row, by rw [List.length_set]; exact h.fam.len, fun j v y hv hy => ?_, h.fam.ne, h.fam.ap⟩
    rw [List.getElem?_set] at hy
    by_cases e : i = j
    · subst e
      rw [if_pos rfl, if_pos hi] at hy
      injection hy with hy
      rw [hu] at hv
      injection hv with hv
      subst hv hy
      exact hown
    · rw [if_neg e] at hy
      exact own_keep (h.fam.own j v y hv hy) fun k hk => hg.block k (own_lt (h.fam.own j v y hv hy) k hk) (fun e2 => h.fam.ap i j u v e hu hv k e2.symm hk)
  exact ⟨(kz _ (.inl rfl)).trans h.hn, (kz _ (.inr (.inl rfl))).trans h.ho, (kz _ (.inr (.inr (.inl rfl)))).trans h.hg, (kz _ (.inr (.inr (.inr (.inl rfl))))).trans h.hc, (kz _ (.inr (.inr (.inr (.inr (.inl rfl)))))).trans h.hgb, (kz _ (.inr (.inr (.inr (.inr (.inr (.inl rfl))))))).trans h.hp, (kz _ (.inr (.inr (.inr (.inr (.inr (.inr rfl))))))).trans h.hO, hf, by rw [List.length_set]; exact h.lr, h.lp, h.lo, h.ap⟩
end
end Go.Proofs.Ytkiljnggphlomaa
