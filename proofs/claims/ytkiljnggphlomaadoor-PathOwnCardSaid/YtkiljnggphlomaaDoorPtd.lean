/- The walk of path.made: the graph, counted, or nil. Conditions: nodes and edges that flow.Check lets pass. -/
import Derived.Test.YtkiljnggphlomaaDoorPtg
import Derived.Test.YtkiljnggphlomaaDoorRpt
import Derived.Test.YtkiljnggphlomaaDoorFck
import Derived.Deep.RegionHeld3
import Derived.Test.YtkiljnggphlomaaDoorHld
import Derived.Laws.EntriesVeiled
namespace Go.Proofs.YtkiljnggphlomaaDoor
open Go.RowKit Go.Deep
def nrow (n : Nat) : Array Value := (List.replicate n (Value.slice none 0 0)).toArray
def frow (n : Nat) : Array Value := (List.replicate n (Value.bool false)).toArray
theorem infoRowP : (Tryd.prog.info? 23).map (fun i => (i.zero, i.size, i.bytes)) = some (some (.slice none 0 0), 1, 24) := by kernel_rfl
theorem infoBoolP : (Tryd.prog.info? 4).map (fun i => (i.zero, i.size, i.bytes)) = some (some (.bool false), 1, 1) := by kernel_rfl
theorem made_listP (z : Value) (n : Nat) : madeCells #[z] n = (List.replicate n z).toArray := by
  apply Array.ext
  · simp [madeCells]
  · intro i h1 h2; simp [madeCells, Nat.mod_one]
theorem hasDrew {w : World} {g : Nat} {o : Obj} (h : w.heap[g]? = some o) : w.drew.heap[g]? = some o := h
theorem absorb {p q : Prop} (h : p) (k : p → q) : q := k h
theorem below_drewP {B : Nat} {a w : World} (h : Below B a w) : Below B a w.drew := ⟨h.os, h.tape, h.output, h.size, h.block⟩
theorem sizeDrew (w : World) : w.drew.heap.size = w.heap.size := rfl
/-- the graph's blocks as made: n's box, g's box, the graph, paths, next -/
structure GMem (B n : Nat) (bn bg gb P G : Nat) (us : List Value) (ll : List (List Int)) (w : World) : Prop where
  hn : w.heap[bn]? = some (.cells #[.int .i64 (n : Int)] 3 (0, 0))
  hg : w.heap[bg]? = some (.cells #[.pointer (some ⟨gb, 0, none⟩)] 101 (0, 0))
  hgb : w.heap[gb]? = some (.cells #[.slice (some ⟨G, 0, none⟩) n n, .slice (some ⟨P, 0, none⟩) n n] 105 (0, 0))
  hp : w.heap[P]? = some (.cells ((List.replicate n (-1 : Int)).map (Value.int .i64)).toArray 3 (0, 0))
  fam : Fam B w G us ll
  ap : ∀ u ∈ us, ∀ b, u.ownBlock = some b → b ≠ bn ∧ b ≠ bg ∧ b ≠ gb ∧ b ≠ P
  p1 : P ≠ bn
  p2 : P ≠ bg
  p3 : P ≠ gb
  p4 : P ≠ G
  lo : B ≤ bn ∧ B ≤ bg ∧ B ≤ gb ∧ B ≤ P ∧ B ≤ G
  gne : G ≠ bg ∧ G ≠ gb ∧ G ≠ bn
theorem gmem_mk {B n bn bg gb P G : Nat} {w : World}
    (hg : w.heap[bg]? = some (.cells #[.pointer (some ⟨gb, 0, none⟩)] 101 (0, 0)))
    (hgb : w.heap[gb]? = some (.cells #[.slice (some ⟨G, 0, none⟩) n n, .slice (some ⟨P, 0, none⟩) n n] 105 (0, 0)))
    (hn : w.heap[bn]? = some (.cells #[.int .i64 (n : Int)] 3 (0, 0)))
    (hp : w.heap[P]? = some (.cells ((List.replicate n (-1 : Int)).map (Value.int .i64)).toArray 3 (0, 0)))
    (hG : w.heap[G]? = some (.cells (nrow n) 23 (0, 0)))
    (h : P ≠ bn ∧ P ≠ bg ∧ P ≠ gb ∧ P ≠ G ∧ G ≠ bg ∧ G ≠ gb ∧ G ≠ bn) (lo : B ≤ bn ∧ B ≤ bg ∧ B ≤ gb ∧ B ≤ P ∧ B ≤ G) : GMem B n bn bg gb P G (List.replicate n (.slice none 0 0)) (List.replicate n []) w := by
  have ub : ∀ u ∈ List.replicate n (Value.slice none 0 0), u.ownBlock = none := fun u hu => by rw [List.eq_of_mem_replicate hu]; rfl
  refine ⟨hn, hg, hgb, hp, ⟨hG, by simp, fun i u x hu hx => ?_, fun u hu => by rw [ub u hu]; simp, fun i j u v _ hu _ b hb => ?_⟩, fun u hu b hb => ?_, h.1, h.2.1, h.2.2.1, h.2.2.2.1, lo, h.2.2.2.2⟩
  · rw [List.getElem?_replicate] at hu hx
    by_cases h : i < n
    · rw [if_pos h] at hu hx
      injection hu with hu
      injection hx with hx
      subst hu hx
      exact World.ownsRow_nil _ _ _ _
    · rw [if_neg h] at hu; cases hu
  · rw [ub u (List.mem_of_getElem? hu)] at hb; cases hb
  · rw [ub u hu] at hb; cases hb
theorem GMem.keepAll {B n bn bg gb P G : Nat} {us : List Value} {ll : List (List Int)} {w w1 : World} (h : GMem B n bn bg gb P G us ll w) (hb : ∀ b, b = bn ∨ b = bg ∨ b = gb ∨ b = P → w1.heap[b]? = w.heap[b]?) (hf : Fam B w1 G us ll) : GMem B n bn bg gb P G us ll w1 :=
  ⟨(hb _ (.inl rfl)).trans h.hn, (hb _ (.inr (.inl rfl))).trans h.hg, (hb _ (.inr (.inr (.inl rfl)))).trans h.hgb, (hb _ (.inr (.inr (.inr rfl)))).trans h.hp, hf, h.ap, h.p1, h.p2, h.p3, h.p4, h.lo, h.gne⟩
theorem GMem.lt {B n bn bg gb P G : Nat} {us : List Value} {ll : List (List Int)} {w : World} (h : GMem B n bn bg gb P G us ll w) {b : Nat} (hb : b = bn ∨ b = bg ∨ b = gb ∨ b = P) : b < w.heap.size := by
  rcases hb with rfl | rfl | rfl | rfl
  · exact Has.lt h.hn
  · exact Has.lt h.hg
  · exact Has.lt h.hgb
  · exact Has.lt h.hp
theorem GMem.below {B n bn bg gb P G : Nat} {us : List Value} {ll : List (List Int)} {w w1 : World} (h : GMem B n bn bg gb P G us ll w) (hb : Below w.heap.size w w1) : GMem B n bn bg gb P G us ll w1 :=
  h.keepAll (fun b e => hb.block b (h.lt e)) (h.fam.below hb)
theorem GMem.put {B n bn bg gb P G i : Nat} {us : List Value} {ll : List (List Int)} {w w1 : World} {u u' : Value} {x' : List Int} (h : GMem B n bn bg gb P G us ll w) (hi : i < ll.length) (hu : us[i]? = some u) (hg : w.grownBy w1 u.ownBlock)
    (hown : w1.ownsRow B 3 1 u' x'.length (x'.map (Value.int .i64))) (hat : u'.ownBlock = u.ownBlock ∨ ∃ b, u'.ownBlock = some b ∧ w.heap.size ≤ b) : GMem B n bn bg gb P G (us.set i u') (ll.set i x') (w1.setCell ⟨G, i, none⟩ u') := by
  have um := List.mem_of_getElem? hu
  have hf := h.fam.put hi hu hg (fun b hb => hb) hown hat
  have k : ∀ b, b = bn ∨ b = bg ∨ b = gb ∨ b = P → (w1.setCell ⟨G, i, none⟩ u').heap[b]? = w.heap[b]? := fun b hb => by
    have bG : b ≠ G := by
      rcases hb with rfl | rfl | rfl | rfl
      · exact fun e => h.gne.2.2 e.symm
      · exact fun e => h.gne.1 e.symm
      · exact fun e => h.gne.2.1 e.symm
      · exact h.p4
    refine (Below.heap_setCell w1 ⟨G, i, none⟩ u' b bG).trans (hg.block b (h.lt hb) (fun e => ?_))
    have := h.ap u um b e.symm
    rcases hb with rfl | rfl | rfl | rfl
    · exact this.1 rfl
    · exact this.2.1 rfl
    · exact this.2.2.1 rfl
    · exact this.2.2.2 rfl
  refine ⟨(k _ (.inl rfl)).trans h.hn, (k _ (.inr (.inl rfl))).trans h.hg, (k _ (.inr (.inr (.inl rfl)))).trans h.hgb, (k _ (.inr (.inr (.inr rfl)))).trans h.hp, hf, fun v hv b hb => ?_, h.p1, h.p2, h.p3, h.p4, h.lo, h.gne⟩
  rcases List.mem_or_eq_of_mem_set hv with h1 | rfl
  · exact h.ap v h1 b hb
  · rcases hat with e | ⟨c, e, hc⟩
    · exact h.ap u um b (by rw [← e]; exact hb)
    · rw [e] at hb
      injection hb with hb
      have l1 := h.lt (.inl rfl)
      have l2 := h.lt (.inr (.inl rfl))
      have l3 := h.lt (.inr (.inr (.inl rfl)))
      have l4 := h.lt (.inr (.inr (.inr rfl)))
      refine ⟨by omega, by omega, by omega, by omega⟩
/-- the graph as it is told -/
structure GrMem (B n : Nat) (gb P G : Nat) (us : List Value) (s : PSt) (w : World) : Prop where
  hgb : w.heap[gb]? = some (.cells #[.slice (some ⟨G, 0, none⟩) n n, .slice (some ⟨P, 0, none⟩) n n] 105 (0, 0))
  hp : w.heap[P]? = some (.cells (s.pth.map (Value.int .i64)).toArray 3 (0, 0))
  fam : Fam B w G us s.rows
  lr : s.rows.length = n
  lp : s.pth.length = n
theorem GrMem.below {B n gb P G : Nat} {us : List Value} {s : PSt} {w w1 : World} (h : GrMem B n gb P G us s w) (hb : Below w.heap.size w w1) : GrMem B n gb P G us s w1 :=
  ⟨Has.below h.hgb hb (Has.lt h.hgb), Has.below h.hp hb (Has.lt h.hp), h.fam.below hb, h.lr, h.lp⟩
def S4 (bg gb G n eb : Nat) (a y : Int) (w : World) : Prop :=
  w.cell? ⟨bg, 0, none⟩ = some (.pointer (some ⟨gb, 0, none⟩)) ∧ w.cell? ⟨gb, 0, none⟩ = some (.slice (some ⟨G, 0, none⟩) n n) ∧ w.cell? ⟨eb, 0, none⟩ = some (.int .i64 a) ∧ w.cell? ⟨eb, 1, none⟩ = some (.int .i64 y)
theorem S4.far {bg gb G n eb : Nat} {a y : Int} {w w1 : World} (h : S4 bg gb G n eb a y w) (k : ∀ c, c = bg ∨ c = gb ∨ c = eb → w1.heap[c]? = w.heap[c]?) : S4 bg gb G n eb a y w1 :=
  ⟨(World.cell?_of_block (a := ⟨bg, 0, none⟩) (k _ (.inl rfl))).trans h.1, (World.cell?_of_block (a := ⟨gb, 0, none⟩) (k _ (.inr (.inl rfl)))).trans h.2.1, (World.cell?_of_block (a := ⟨eb, 0, none⟩) (k _ (.inr (.inr rfl)))).trans h.2.2.1, (World.cell?_of_block (a := ⟨eb, 1, none⟩) (k _ (.inr (.inr rfl)))).trans h.2.2.2⟩
def MadePost (W : World) (n : Nat) (l : EdgeL) (e : Ending) (w' : World) : Prop :=
  Below W.heap.size W w' ∧ ((madeF n l = none ∧ e = .returned (.pointer none)) ∨ ∃ s gb P G us, madeF n l = some s ∧ e = .returned (.pointer (some ⟨gb, 0, none⟩)) ∧ GrMem W.heap.size n gb P G us s w')
set_option maxRecDepth 100000 in
set_option maxHeartbeats 4000000 in
theorem pmade_any (n : Nat) (l : EdgeL) (F : Nat → Prop) (v : Value) (w : World) (hF : ∀ b, F b → b < w.heap.size) (hv : EdgesIn F w v l) (hpf : PFlow n l) :
    Calls Tryd.prog 81 #[.int .i64 n, v] w (MadePost w n l) := by
  have PF := hid hpf
  have h1 := hpf.lo
  have h12 := hpf.hi
  have le30 := hpf.le
  clear hpf
  obtain ⟨i0, hi, hz0, hz1, hz2⟩ := info_parts infoInt
  have HF := hid hF
  have HV := hid hv
  obtain ⟨A, c, rfl, hl, _, h3⟩ := hv
  have H3 := hid h3
  clear hF h3 hl
  have hmk := run_make_row' (P := Tryd.prog) 37 23 (.slice none 0 0) 24 Tryd.underlying37 infoRowP rfl .i64 .i64 n (by omega) (by omega)
  simp only [made_listP] at hmk
  replace hmk : ∀ w : World, Sem.run Tryd.prog (Instr.makeSlice 37 (.int .i64 n) (.int .i64 n)) w = .ok (.slice (some ⟨w.heap.size, 0, none⟩) n n) (w.alloc (.cells (nrow n) 23)) := hmk
  go_enter Tryd.func81, Tryd.ntmps81
  go_upto_region 1 with fail
  obtain ⟨w1, hw1⟩ : ∃ w1, w1 = w.alloc (.cells #[.int .i64 (n : Int)] 3) := ⟨_, rfl⟩
  obtain ⟨b, hb⟩ : ∃ b, b = w.heap.size := ⟨_, rfl⟩
  have HBB := hid hb
  have W1 : Hid (w1.heap[b]? = some (.cells #[.int .i64 (n : Int)] 3 (0, 0))) := by show _ = _; rw [hw1, hb]; exact Has.new w _
  have B1 : Hid (Below w.heap.size w w1) := by show Below _ _ _; rw [hw1]; exact (Below.refl _ _).alloc (Nat.le_refl _) _
  have S1 : w1.heap.size = w.heap.size + 1 := by rw [hw1]; simp
  have c0 := (Has.cell W1.out 0).trans rfl
  have c1 : ∀ o, (w1.alloc o).cell? ⟨b, 0, none⟩ = some (.int .i64 (n : Int)) := fun o => (Has.cell (Has.alloc W1.out o) 0).trans rfl
  have c2 : ∀ o o', ((w1.alloc o).alloc o').cell? ⟨b, 0, none⟩ = some (.int .i64 (n : Int)) := fun o o' => (Has.cell (Has.alloc (Has.alloc W1.out o) o') 0).trans rfl
  have c3 : ∀ o o' o2, (((w1.alloc o).alloc o').alloc o2).cell? ⟨b, 0, none⟩ = some (.int .i64 (n : Int)) := fun o o' o2 => (Has.cell (Has.alloc (Has.alloc (Has.alloc W1.out o) o') o2) 0).trans rfl
  have lb : b < w1.heap.size := by omega
  have s1 : w.heap.size ≤ w1.heap.size := by omega
  have C1 := hid c1
  have C2 := hid c2
  have C3 := hid c3
  clear c1 c2 c3
  rw [← hw1, ← hb]
  have SS := hid S1
  have B0 : w.heap.size ≤ b := by have := HBB.out; omega
  clear hw1 S1 hb
  go_cut [5] (fun gv wx => ∃ bg gb P G : Nat, gv = .pointer (some ⟨bg, 0, none⟩) ∧ Hid (GMem w.heap.size n b bg gb P G (List.replicate n (.slice none 0 0)) (List.replicate n []) wx) ∧ Hid (Below w.heap.size w wx))
  case first =>
    go_region_held3 (fun w' => w'.cell? ⟨b, 0, none⟩ = some (.int .i64 (n : Int))) (first | exact c0 | exact C1.out _ | exact C2.out _ _ | exact C3.out _ _ _ | exact D0.out | exact D1.out _ | exact D2.out _ _ | exact D3.out _ _ _ | (refine Eq.trans (World.cell?_of_block (a := ⟨b, 0, none⟩) (Below.heap_setCell _ _ _ b ?_)) ?_; (focus ((try dsimp only); omega)); first | exact D0.out | exact D1.out _ | exact D2.out _ _ | exact D3.out _ _ _) | go_keep) (first
      | (go_simp; go_at_call 78; go_loud (refine (repeat_any (-1) n h1 (by omega) _ 1 _ (by refine (Has.cell (i := 0) (cs := #[.int .i64 (-1)]) (t := 3) ?_).trans rfl; (repeat (with_reducible first | exact W1.out | exact Has.new _ _ | (refine Has.newAt _ _ ?_; simp only [World.size_alloc, sizeDrew]; done) | refine hasDrew ?_ | refine Has.alloc ?_ _)))).mono ?_); rintro e w5 ⟨rfl, hR, hB⟩; have K9 := hid (fun g o h => Has.below (g := g) (o := o) h hB (Has.lt h)); have K8 : Hid (Below w.heap.size w w5) := (by show Below _ _ _; refine Below.trans ?_ (hB.mono (by simp only [sizeDrew, World.size_alloc]; omega)); repeat (first | with_reducible exact B1.out | with_reducible refine below_drewP ?_ | refine Below.alloc ?_ (by first | omega | (simp only [sizeDrew, World.size_alloc]; omega)) _)); have D0 : Hid (w5.cell? ⟨b, 0, none⟩ = some (.int .i64 (n : Int))) := (by show _ = _; refine (Has.cell (i := 0) (cs := #[.int .i64 (n : Int)]) (t := 3) (K9.out _ _ ?_)).trans rfl; (repeat (with_reducible first | exact W1.out | exact Has.new _ _ | (refine Has.newAt _ _ ?_; simp only [World.size_alloc, sizeDrew]; done) | refine hasDrew ?_ | refine Has.alloc ?_ _))); have E5 : Hid (w5.heap[b]? = some (.cells #[.int .i64 (n : Int)] 3 (0, 0))) := (by show _ = _; refine K9.out _ _ ?_; (repeat (with_reducible first | exact W1.out | exact Has.new _ _ | (refine Has.newAt _ _ ?_; simp only [World.size_alloc, sizeDrew]; done) | refine hasDrew ?_ | refine Has.alloc ?_ _))); have D1 : Hid (∀ o, (w5.alloc o).cell? ⟨b, 0, none⟩ = some (.int .i64 (n : Int))) := (fun o => (Has.cell (Has.alloc E5.out o) 0).trans rfl); have D2 : Hid (∀ o o', ((w5.alloc o).alloc o').cell? ⟨b, 0, none⟩ = some (.int .i64 (n : Int))) := (fun o o' => (Has.cell (Has.alloc (Has.alloc E5.out o) o') 0).trans rfl); have D3 : Hid (∀ o o' o2, (((w5.alloc o).alloc o').alloc o2).cell? ⟨b, 0, none⟩ = some (.int .i64 (n : Int))) := (fun o o' o2 => (Has.cell (Has.alloc (Has.alloc (Has.alloc E5.out o) o') o2) 0).trans rfl); have s5 := hB.size; simp only [sizeDrew, World.size_alloc] at s5 hR; have h5 := hid hR; have lo5 := Has.lt hR; clear hR hB; (first | (refine absorb (p := w5.heap[w1.heap.size]? = some (.cells #[.pointer none] 101 (0, 0))) ?_ ?_; (focus (refine K9.out _ _ ?_; (repeat (with_reducible first | exact W1.out | exact Has.new _ _ | (refine Has.newAt _ _ ?_; simp only [World.size_alloc, sizeDrew]; done) | refine hasDrew ?_ | refine Has.alloc ?_ _)); done)); intro p0; have A9 : Hid (w5.heap[w1.heap.size]? = some (.cells #[.pointer none] 101 (0, 0))) := p0; have qb : ∀ o, (w5.alloc o).cell? ⟨w1.heap.size, 0, none⟩ = some (.pointer none) := (fun o => (Has.cell (Has.alloc A9.out o) 0).trans rfl); have qc : ∀ o o', ((w5.alloc o).alloc o').cell? ⟨w1.heap.size, 0, none⟩ = some (.pointer none) := (fun o o' => (Has.cell (Has.alloc (Has.alloc A9.out o) o') 0).trans rfl); have qd : ∀ o, (w5.alloc o).frozen? ⟨w1.heap.size, 0, none⟩ = false := (fun o => Has.froz (Has.alloc A9.out o) 0); have qe : ∀ o o', ((w5.alloc o).alloc o').frozen? ⟨w1.heap.size, 0, none⟩ = false := (fun o o' => Has.froz (Has.alloc (Has.alloc A9.out o) o') 0); clear p0) | (refine absorb (p := w5.heap[w1.heap.size + 1]? = some (.cells #[.pointer none] 101 (0, 0))) ?_ ?_; (focus (refine K9.out _ _ ?_; (repeat (with_reducible first | exact W1.out | exact Has.new _ _ | (refine Has.newAt _ _ ?_; simp only [World.size_alloc, sizeDrew]; done) | refine hasDrew ?_ | refine Has.alloc ?_ _)); done)); intro p0; have A9 : Hid (w5.heap[w1.heap.size + 1]? = some (.cells #[.pointer none] 101 (0, 0))) := p0; have qb : ∀ o, (w5.alloc o).cell? ⟨w1.heap.size + 1, 0, none⟩ = some (.pointer none) := (fun o => (Has.cell (Has.alloc A9.out o) 0).trans rfl); have qc : ∀ o o', ((w5.alloc o).alloc o').cell? ⟨w1.heap.size + 1, 0, none⟩ = some (.pointer none) := (fun o o' => (Has.cell (Has.alloc (Has.alloc A9.out o) o') 0).trans rfl); have qd : ∀ o, (w5.alloc o).frozen? ⟨w1.heap.size + 1, 0, none⟩ = false := (fun o => Has.froz (Has.alloc A9.out o) 0); have qe : ∀ o o', ((w5.alloc o).alloc o').frozen? ⟨w1.heap.size + 1, 0, none⟩ = false := (fun o o' => Has.froz (Has.alloc (Has.alloc A9.out o) o') 0); clear p0) | (refine absorb (p := w5.heap[w1.heap.size + 1 + 1]? = some (.cells #[.pointer none] 101 (0, 0))) ?_ ?_; (focus (refine K9.out _ _ ?_; (repeat (with_reducible first | exact W1.out | exact Has.new _ _ | (refine Has.newAt _ _ ?_; simp only [World.size_alloc, sizeDrew]; done) | refine hasDrew ?_ | refine Has.alloc ?_ _)); done)); intro p0; have A9 : Hid (w5.heap[w1.heap.size + 1 + 1]? = some (.cells #[.pointer none] 101 (0, 0))) := p0; have qb : ∀ o, (w5.alloc o).cell? ⟨w1.heap.size + 1 + 1, 0, none⟩ = some (.pointer none) := (fun o => (Has.cell (Has.alloc A9.out o) 0).trans rfl); have qc : ∀ o o', ((w5.alloc o).alloc o').cell? ⟨w1.heap.size + 1 + 1, 0, none⟩ = some (.pointer none) := (fun o o' => (Has.cell (Has.alloc (Has.alloc A9.out o) o') 0).trans rfl); have qd : ∀ o, (w5.alloc o).frozen? ⟨w1.heap.size + 1 + 1, 0, none⟩ = false := (fun o => Has.froz (Has.alloc A9.out o) 0); have qe : ∀ o o', ((w5.alloc o).alloc o').frozen? ⟨w1.heap.size + 1 + 1, 0, none⟩ = false := (fun o o' => Has.froz (Has.alloc (Has.alloc A9.out o) o') 0); clear p0) | (have A9 : Hid True := trivial; have r1 : ∀ o, ((w5.alloc (Obj.cells #[Value.pointer none] 101)).alloc o).cell? ⟨w5.heap.size, 0, none⟩ = some (.pointer none) := (fun o => (Has.cell (Has.alloc (Has.new w5 (Obj.cells #[Value.pointer none] 101)) o) 0).trans rfl); have r2 : ∀ o o', (((w5.alloc (Obj.cells #[Value.pointer none] 101)).alloc o).alloc o').cell? ⟨w5.heap.size, 0, none⟩ = some (.pointer none) := (fun o o' => (Has.cell (Has.alloc (Has.alloc (Has.new w5 (Obj.cells #[Value.pointer none] 101)) o) o') 0).trans rfl); have r3 : ∀ o, ((w5.alloc (Obj.cells #[Value.pointer none] 101)).alloc o).frozen? ⟨w5.heap.size, 0, none⟩ = false := (fun o => Has.froz (Has.alloc (Has.new w5 (Obj.cells #[Value.pointer none] 101)) o) 0); have r4 : ∀ o o', (((w5.alloc (Obj.cells #[Value.pointer none] 101)).alloc o).alloc o').frozen? ⟨w5.heap.size, 0, none⟩ = false := (fun o o' => Has.froz (Has.alloc (Has.alloc (Has.new w5 (Obj.cells #[Value.pointer none] 101)) o) o') 0); have r5 : ∀ N o, (((w5.alloc N).alloc (Obj.cells #[Value.pointer none] 101)).alloc o).cell? ⟨w5.heap.size + 1, 0, none⟩ = some (.pointer none) := (fun N o => (Has.cell (Has.alloc (Has.newAt (g := w5.heap.size + 1) (w5.alloc N) (Obj.cells #[Value.pointer none] 101) (by simp)) o) 0).trans rfl); have r6 : ∀ N o, (((w5.alloc N).alloc (Obj.cells #[Value.pointer none] 101)).alloc o).frozen? ⟨w5.heap.size + 1, 0, none⟩ = false := (fun N o => Has.froz (Has.alloc (Has.newAt (g := w5.heap.size + 1) (w5.alloc N) (Obj.cells #[Value.pointer none] 101) (by simp)) o) 0); have r7 : ∀ N, ((w5.alloc N).alloc (Obj.cells #[Value.pointer none] 101)).cell? ⟨w5.heap.size + 1, 0, none⟩ = some (.pointer none) := (fun N => (Has.cell (Has.newAt (g := w5.heap.size + 1) (w5.alloc N) (Obj.cells #[Value.pointer none] 101) (by simp)) 0).trans rfl); have r8 : ∀ N, ((w5.alloc N).alloc (Obj.cells #[Value.pointer none] 101)).frozen? ⟨w5.heap.size + 1, 0, none⟩ = false := (fun N => Has.froz (Has.newAt (g := w5.heap.size + 1) (w5.alloc N) (Obj.cells #[Value.pointer none] 101) (by simp)) 0); have r9 : ∀ N M, (((w5.alloc N).alloc M).alloc (Obj.cells #[Value.pointer none] 101)).cell? ⟨w5.heap.size + 1 + 1, 0, none⟩ = some (.pointer none) := (fun N M => (Has.cell (Has.newAt (g := w5.heap.size + 1 + 1) ((w5.alloc N).alloc M) (Obj.cells #[Value.pointer none] 101) (by simp)) 0).trans rfl); have ra : ∀ N M, (((w5.alloc N).alloc M).alloc (Obj.cells #[Value.pointer none] 101)).frozen? ⟨w5.heap.size + 1 + 1, 0, none⟩ = false := (fun N M => Has.froz (Has.newAt (g := w5.heap.size + 1 + 1) ((w5.alloc N).alloc M) (Obj.cells #[Value.pointer none] 101) (by simp)) 0)))))
    all_goals
      go_wp2_with fail
      go_meet
      case rel =>
        apply Exists.intro; apply Exists.intro; apply Exists.intro; apply Exists.intro
        refine ⟨rfl, ?_, ?_⟩
        · show GMem _ _ _ _ _ _ _ _ _ _
          apply gmem_mk
          · (repeat (first | (with_reducible first | exact W1.out | exact A9.out | exact E5.out | exact h5.out | exact Has.new _ _ | (refine Has.newAt _ _ ?_; simp only [World.size_alloc, sizeDrew, World.size_setCell]; done) | refine hasDrew ?_ | refine Has.alloc ?_ _ | refine K9.out _ _ ?_) | (refine (Has.set (t := 101) (cs := #[.pointer none]) ?_ 0 _).trans rfl)))
          · (repeat (first | (with_reducible first | exact W1.out | exact A9.out | exact E5.out | exact h5.out | exact Has.new _ _ | (refine Has.newAt _ _ ?_; simp only [World.size_alloc, sizeDrew, World.size_setCell]; done) | refine hasDrew ?_ | refine Has.alloc ?_ _ | refine K9.out _ _ ?_) | (refine Has.far ?_ ?_ _; rotate_left; (focus ((try dsimp only); omega)))))
          · (repeat (first | (with_reducible first | exact W1.out | exact A9.out | exact E5.out | exact h5.out | exact Has.new _ _ | (refine Has.newAt _ _ ?_; simp only [World.size_alloc, sizeDrew, World.size_setCell]; done) | refine hasDrew ?_ | refine Has.alloc ?_ _ | refine K9.out _ _ ?_) | (refine Has.far ?_ ?_ _; rotate_left; (focus ((try dsimp only); omega)))))
          · (repeat (first | (with_reducible first | exact W1.out | exact A9.out | exact E5.out | exact h5.out | exact Has.new _ _ | (refine Has.newAt _ _ ?_; simp only [World.size_alloc, sizeDrew, World.size_setCell]; done) | refine hasDrew ?_ | refine Has.alloc ?_ _ | refine K9.out _ _ ?_) | (refine Has.far ?_ ?_ _; rotate_left; (focus ((try dsimp only); omega)))))
          · (repeat (first | (with_reducible first | exact W1.out | exact A9.out | exact E5.out | exact h5.out | exact Has.new _ _ | (refine Has.newAt _ _ ?_; simp only [World.size_alloc, sizeDrew, World.size_setCell]; done) | refine hasDrew ?_ | refine Has.alloc ?_ _ | refine K9.out _ _ ?_) | (refine Has.far ?_ ?_ _; rotate_left; (focus ((try dsimp only); omega)))))
          · refine ⟨?_, ?_, ?_, ?_, ?_, ?_, ?_⟩ <;> omega
          · refine ⟨?_, ?_, ?_, ?_, ?_⟩ <;> omega
        · show Below _ _ _
          repeat (first | with_reducible exact K8.out | with_reducible refine below_drewP ?_ | (refine Below.alloc ?_ ?_ _; rotate_left; (focus (first | omega | (simp only [sizeDrew, World.size_alloc, World.size_setCell]; omega)))) | (refine Below.setCell ?_ ?_ _; rotate_left; (focus ((try dsimp only); omega))))
  case rest =>
    obtain ⟨bg, gb, P, G, rfl, hGM, hBM⟩ := hcut
    have F0 : Hid (GMem w.heap.size n b bg gb P G (List.replicate n (.slice none 0 0)) (ptgts (l.take 0) n) wc) := by
      have e : ptgts (l.take 0) n = List.replicate n [] := by
        unfold ptgts ptgt
        apply List.ext_getElem (by simp)
        intro i h1 h2; simp
      show GMem _ _ _ _ _ _ _ _ _ _
      rw [e]; exact hGM.out
    clear hGM hmk W1 C1 C2 C3 SS s1 lb c0 HBB
    obtain ⟨w0, hw0⟩ : ∃ w0, w0 = wc := ⟨_, rfl⟩
    subst hw0
    go_wp2_with fail
    go_loopw [20] (fun ji wr => ∃ (j : Nat) (us : List Value), j ≤ l.length ∧ ji = .int .i64 j ∧ Hid (GMem w.heap.size n b bg gb P G us (ptgts (l.take j) n) wr) ∧ Hid (Below w.heap.size w wr)) (fun ji _ => l.length - (intOf ji).toNat)
    case atStart => exact ⟨0, _, Nat.zero_le _, rfl, F0, hBM⟩
    case round =>
      clear F0 hBM
      obtain ⟨j, us, hj, rfl, hFm, hB⟩ := hrel
      have sB := hB.out.size
      by_cases hlt : j < l.length
      · obtain ⟨q0, o, rfl, hb, hcc⟩ := H3.out (by omega)
        have lq := HF.out q0 hb
        have c1 := (hB.out.cell (p := ⟨q0, o + j * 2, none⟩) lq).trans (hcc j hlt).1
        have c2 := (hB.out.cell (p := ⟨q0, o + j * 2 + 1, none⟩) lq).trans (hcc j hlt).2
        have i1 : (j : Int) < (l.length : Int) := by omega
        have RG := PF.out.rg _ (eAt_mem hlt)
        obtain ⟨ee, hx⟩ : ∃ ee, ee = eAt l j := ⟨_, rfl⟩
        have HX := hid hx
        rw [← hx] at c1 c2 RG
        obtain ⟨x, y⟩ := ee
        simp only [] at c1 c2 RG
        obtain ⟨a, rfl⟩ : ∃ a : Nat, x = a := ⟨x.toNat, by omega⟩
        have aN : a < n := by omega
        have j1 : (a : Int) < (n : Int) := by omega
        have TK := hid (ptgts_take (N := n) hlt HX.out.symm)
        clear hcc hx RG
        obtain ⟨u, hu, cu0, ou⟩ := hFm.out.fam.at_ (i := a) (by rw [ptgts_len]; exact aN)
        have er : rowAt (ptgts (l.take j) n) a = ptgt (l.take j) a := ptgts_at aN
        rw [er] at ou
        have RL : (ptgt (l.take j) a).length ≤ 30 := by have := ptgt_le (l.take j) a; rw [List.length_take] at this; omega
        obtain ⟨q, hq⟩ : ∃ q, q = ptgt (l.take j) a := ⟨_, rfl⟩
        rw [← hq] at ou RL TK
        obtain ⟨Au, cu, rfl, _, _⟩ := own_sl ou
        have HU := hid hu
        clear hu hq er
        obtain ⟨wo, hwo⟩ : ∃ wo, wo = wr := ⟨_, rfl⟩
        subst hwo
        obtain ⟨wa, hwa⟩ : ∃ wa, wa = wo.alloc (.cells #[.int .i64 (a : Int), .int .i64 y] 32) := ⟨_, rfl⟩
        have BL : Hid (Below wo.heap.size wo wa) := by show Below _ _ _; rw [hwa]; exact (Below.refl _ _).alloc (Nat.le_refl _) _
        have FA : Hid (GMem w.heap.size n b bg gb P G us (ptgts (l.take j) n) wa) := hid (hFm.out.below BL.out)
        have BA : Hid (Below w.heap.size w wa) := by show Below _ _ _; rw [hwa]; exact hB.out.alloc sB _
        have OA : Hid (wa.ownsRow w.heap.size 3 1 (.slice Au q.length cu) q.length (q.map (Value.int .i64))) := by show World.ownsRow _ _ _ _ _ _ _; rw [hwa]; exact ou.alloc _
        have E := Has.new wo (.cells #[.int .i64 (a : Int), .int .i64 y] 32)
        rw [← hwa] at E
        obtain ⟨eb, heb⟩ : ∃ eb, eb = wo.heap.size := ⟨_, rfl⟩
        have ebn : Hid (eb ≠ G) := fun e => by have := hFm.out.fam.lt; omega
        have e0 := (Has.cell E 0).trans rfl
        have e1 := (Has.cell E 1).trans rfl
        have LO9 : eb < wa.heap.size := by rw [hwa]; simp; omega
        rw [← heb] at e0 e1 E
        have g0 : wa.cell? ⟨G, a, none⟩ = some (.slice Au q.length cu) := by rw [hwa]; exact (World.cell?_of_block (w := wo) (a := ⟨G, a, none⟩) (Below.heap_alloc wo _ G hFm.out.fam.lt)).trans cu0
        have k0 := (Has.cell FA.out.hg 0).trans rfl
        have k1 := (Has.cell FA.out.hgb 0).trans rfl
        have sA := BA.out.size
        have GL := FA.out.fam.lt
        have OB := hid (OA.out.alloc (.cells #[.int .i64 y] 3))
        have C1 := hid (cells_1 wa (.int .i64 y) 3 rfl)
        have OG := hid (own_ge ou)
        have AL := hid (own_lt ou)
        have NE9 := hid (show ∀ b, b < wa.heap.size → (wa.alloc (.cells #[.int .i64 y] 3)).heap[b]? = wa.heap[b]? from fun b hb => Below.heap_alloc wa _ b hb)
        have EE := hid E
        have GG : w.heap.size ≤ G := FA.out.lo.2.2.2.2
        clear hFm hB cu0 ou
        have S0 : Hid (S4 bg gb G n eb a y wa) := ⟨k0, k1, e0, e1⟩
        have LT3 : Hid (∀ c, c = bg ∨ c = gb ∨ c = eb → c < wa.heap.size ∧ c ≠ G ∧ some c ≠ (Value.slice Au q.length cu).ownBlock) := fun c hc => by
          rcases hc with rfl | rfl | rfl
          · exact ⟨FA.out.lt (.inr (.inl rfl)), fun e => FA.out.gne.1 e.symm, fun e => (FA.out.ap _ (List.mem_of_getElem? HU.out) _ e.symm).2.1 rfl⟩
          · exact ⟨FA.out.lt (.inr (.inr (.inl rfl))), fun e => FA.out.gne.2.1 e.symm, fun e => (FA.out.ap _ (List.mem_of_getElem? HU.out) _ e.symm).2.2.1 rfl⟩
          · exact ⟨LO9, ebn.out, fun e => by have := AL.out _ e.symm; omega⟩
        have S1 : Hid (S4 bg gb G n eb a y (wa.alloc (.cells #[.int .i64 y] 3))) := S0.out.far fun c hc => NE9.out c (LT3.out c hc).1
        have g9 : (wa.alloc (.cells #[.int .i64 y] 3)).cell? ⟨G, a, none⟩ = some (.slice Au q.length cu) := (World.cell?_of_block (w := wa) (a := ⟨G, a, none⟩) (NE9.out _ GL)).trans g0
        clear k0 k1 e0 e1
        go_upto_region 5 with fail
        rw [← hwa, ← heb]
        clear hwa E heb
        refine wp_region_k (S := (fun w' => w'.cell? ⟨bg, 0, none⟩ = some (.pointer (some ⟨gb, 0, none⟩)) ∧ w'.cell? ⟨gb, 0, none⟩ = some (.slice (some ⟨G, 0, none⟩) n n) ∧ w'.cell? ⟨eb, 0, none⟩ = some (.int .i64 (a : Int)) ∧ w'.cell? ⟨eb, 1, none⟩ = some (.int .i64 y) ∧ w'.cell? ⟨G, a, none⟩ = some (.slice Au q.length cu))) (L := 19) (by kernel_rfl) ⟨S0.out.1, S0.out.2.1, S0.out.2.2.1, S0.out.2.2.2, g0⟩ (fun hHeld => ?_)
        refine takeK (i := 0) (d := 24) (oi := _) (v := ?_) rfl rfl (by kernel_rfl) (by kernel_rfl) (by kernel_rfl) (by kernel_rfl) (fun _ _ _ h => h) (Or.inl ⟨by rfl, ?_⟩) (by assumption) ?_
        rotate_left
        · intro wz hSw; (try dsimp only at hSw); go_simp; (try with_reducible rfl)
        try simp only [Act.put, List.setIfInBounds_toArray, List.set_cons_zero, List.set_cons_succ]
        refine takeK (i := 1) (d := 25) (oi := _) (v := ?_) rfl rfl (by kernel_rfl) (by kernel_rfl) (by kernel_rfl) (by kernel_rfl) (fun _ _ _ h => h) (Or.inl ⟨by rfl, ?_⟩) (by assumption) ?_
        rotate_left
        · intro wz hSw; (try dsimp only at hSw); go_simp; (try with_reducible rfl)
        try simp only [Act.put, List.setIfInBounds_toArray, List.set_cons_zero, List.set_cons_succ]
        refine takeK (i := 2) (d := 26) (oi := _) (v := ?_) rfl rfl (by kernel_rfl) (by kernel_rfl) (by kernel_rfl) (by kernel_rfl) (fun _ _ _ h => h) (Or.inl ⟨by rfl, ?_⟩) (by assumption) ?_
        rotate_left
        · intro wz hSw; (try dsimp only at hSw); go_simp; (try with_reducible rfl)
        try simp only [Act.put, List.setIfInBounds_toArray, List.set_cons_zero, List.set_cons_succ]
        refine takeK (i := 3) (d := 27) (oi := _) (v := ?_) rfl rfl (by kernel_rfl) (by kernel_rfl) (by kernel_rfl) (by kernel_rfl) (fun _ _ _ h => h) (Or.inl ⟨by rfl, ?_⟩) (by assumption) ?_
        rotate_left
        · intro wz hSw; (try dsimp only at hSw); go_simp; (try with_reducible rfl)
        try simp only [Act.put, List.setIfInBounds_toArray, List.set_cons_zero, List.set_cons_succ]
        refine takeK (i := 4) (d := 28) (oi := _) (v := ?_) rfl rfl (by kernel_rfl) (by kernel_rfl) (by kernel_rfl) (by kernel_rfl) (fun _ _ _ h => h) (Or.inl ⟨by rfl, ?_⟩) (by assumption) ?_
        rotate_left
        · intro wz hSw; (try dsimp only at hSw); go_simp; (try with_reducible rfl)
        try simp only [Act.put, List.setIfInBounds_toArray, List.set_cons_zero, List.set_cons_succ]
        refine takeK (i := 5) (d := 29) (oi := _) (v := ?_) rfl rfl (by kernel_rfl) (by kernel_rfl) (by kernel_rfl) (by kernel_rfl) (fun _ _ _ h => h) (Or.inl ⟨by rfl, ?_⟩) (by assumption) ?_
        rotate_left
        · intro wz hSw; (try dsimp only at hSw); go_simp; (try with_reducible rfl)
        try simp only [Act.put, List.setIfInBounds_toArray, List.set_cons_zero, List.set_cons_succ]
        refine takeK (i := 6) (d := 30) (oi := _) (v := ?_) rfl rfl (by kernel_rfl) (by kernel_rfl) (by kernel_rfl) (by kernel_rfl) (fun _ _ _ h => h) (Or.inl ⟨by rfl, ?_⟩) (by assumption) ?_
        rotate_left
        · intro wz hSw; (try dsimp only at hSw); go_simp; (try with_reducible rfl)
        try simp only [Act.put, List.setIfInBounds_toArray, List.set_cons_zero, List.set_cons_succ]
        refine takeK (i := 7) (d := 31) (oi := _) (v := ?_) rfl rfl (by kernel_rfl) (by kernel_rfl) (by kernel_rfl) (by kernel_rfl) (fun _ _ _ h => h) (Or.inl ⟨by rfl, ?_⟩) (by assumption) ?_
        rotate_left
        · intro wz hSw; (try dsimp only at hSw); go_simp; (try with_reducible rfl)
        try simp only [Act.put, List.setIfInBounds_toArray, List.set_cons_zero, List.set_cons_succ]
        refine takeK (i := 8) (d := 32) (oi := _) (v := ?_) rfl rfl (by kernel_rfl) (by kernel_rfl) (by kernel_rfl) (by kernel_rfl) (fun _ _ _ h => h) (Or.inl ⟨by rfl, ?_⟩) (by assumption) ?_
        rotate_left
        · intro wz hSw; (try dsimp only at hSw); go_simp; (try with_reducible rfl)
        try simp only [Act.put, List.setIfInBounds_toArray, List.set_cons_zero, List.set_cons_succ]
        refine takeK (i := 9) (d := 33) (oi := _) (v := ?_) rfl rfl (by kernel_rfl) (by kernel_rfl) (by kernel_rfl) (by kernel_rfl) (fun _ _ _ h => h) (Or.inl ⟨by rfl, ?_⟩) (by assumption) ?_
        rotate_left
        · intro wz hSw; (try dsimp only at hSw); go_simp; (try with_reducible rfl)
        try simp only [Act.put, List.setIfInBounds_toArray, List.set_cons_zero, List.set_cons_succ]
        refine takeK (i := 10) (d := 34) (oi := _) (v := ?_) rfl rfl (by kernel_rfl) (by kernel_rfl) (by kernel_rfl) (by kernel_rfl) (fun _ _ _ h => h) (Or.inl ⟨by rfl, ?_⟩) (by assumption) ?_
        rotate_left
        · intro wz hSw; (try dsimp only at hSw); go_simp; (try with_reducible rfl)
        try simp only [Act.put, List.setIfInBounds_toArray, List.set_cons_zero, List.set_cons_succ]
        refine takeK (i := 11) (d := 35) (oi := _) (v := ?_) rfl rfl (by kernel_rfl) (by kernel_rfl) (by kernel_rfl) (by kernel_rfl) (fun _ _ _ h => h) (Or.inl ⟨by rfl, ?_⟩) (by assumption) ?_
        rotate_left
        · intro wz hSw; (try dsimp only at hSw); go_simp; (try with_reducible rfl)
        try simp only [Act.put, List.setIfInBounds_toArray, List.set_cons_zero, List.set_cons_succ]
        refine takeK (i := 12) (d := 36) (oi := _) (v := ?_) rfl rfl (by kernel_rfl) (by kernel_rfl) (by kernel_rfl) (by kernel_rfl) (fun _ _ _ h => h) (Or.inl ⟨by rfl, ?_⟩) (by assumption) ?_
        rotate_left
        · intro wz hSw; (try dsimp only at hSw); go_simp; (try with_reducible rfl)
        try simp only [Act.put, List.setIfInBounds_toArray, List.set_cons_zero, List.set_cons_succ]
        refine takeK (i := 13) (d := 37) (oi := _) (v := ?_) rfl rfl (by kernel_rfl) (by kernel_rfl) (by kernel_rfl) (by kernel_rfl) (fun _ _ _ h => h) (Or.inl ⟨by rfl, ?_⟩) (by assumption) ?_
        rotate_left
        · intro wz hSw; (try dsimp only at hSw); go_simp; (try with_reducible rfl)
        try simp only [Act.put, List.setIfInBounds_toArray, List.set_cons_zero, List.set_cons_succ]
        refine takeK (i := 14) (d := 38) (oi := _) (v := ?_) rfl rfl (by kernel_rfl) (by kernel_rfl) (by kernel_rfl) (by kernel_rfl) (fun _ _ _ h => h) (Or.inl ⟨by rfl, ?_⟩) (by assumption) ?_
        rotate_left
        · intro wz hSw; (try dsimp only at hSw); go_simp; (try with_reducible rfl)
        try simp only [Act.put, List.setIfInBounds_toArray, List.set_cons_zero, List.set_cons_succ]
        refine takeK (i := 15) (d := 39) (oi := _) (v := ?_) rfl rfl (by kernel_rfl) (by kernel_rfl) (by kernel_rfl) (by kernel_rfl) (fun _ _ _ h => h) (Or.inl ⟨by rfl, ?_⟩) (by assumption) ?_
        rotate_left
        · intro wz hSw; (try dsimp only at hSw); go_simp; (try with_reducible rfl)
        try simp only [Act.put, List.setIfInBounds_toArray, List.set_cons_zero, List.set_cons_succ]
        refine nextK (i := 16) (o := _) (by kernel_rfl) rfl (fun K hK => ?_)
        go_simp
        refine hK.out _ _ (Or.inl ⟨S1.out.1, S1.out.2.1, S1.out.2.2.1, S1.out.2.2.2, g9⟩) ?_
        clear hK K hHeld
        try simp only [Act.put, List.setIfInBounds_toArray, List.set_cons_zero, List.set_cons_succ]
        refine nextK (i := 17) (o := _) (by kernel_rfl) rfl (fun K hK => ?_)
        refine step_app _ (by rfl) (.tmp 37) (.tmp 40) 23 (by rfl) w.heap.size 3 i0 (.int .i64 0) 1 8 Tryd.underlying23 hi hz0 hz1 hz2 rfl (by decide) (.slice Au q.length cu) q.length (q.map (Value.int .i64)) (by simp [Act.eval, Act.put]) (by exact OB.out) _ (.slice (some ⟨wa.heap.size, 0, none⟩) 1 1) 1 [.int .i64 y] (by simp [Act.eval, Act.put]) (by exact C1.out) (by intro u hu; simp at hu; subst hu; rfl) (by unfold maxLen; omega) (by omega) (by show w.heap.size ≤ (wa.alloc _).heap.size; simp; omega) ?_
        intro v2 w2 hown2 hgrow2 hat2
        have S2 : Hid (S4 bg gb G n eb a y w2) := (S1.out.far fun c hc => hgrow2.block c (by show c < (wa.alloc _).heap.size; have := (LT3.out c hc).1; simp; omega) (LT3.out c hc).2.2)
        have S3 : Hid (S4 bg gb G n eb a y (w2.setCell ⟨G, a, none⟩ v2)) := (S2.out.far fun c hc => Below.heap_setCell w2 ⟨G, a, none⟩ v2 c (LT3.out c hc).2.1)
        have g2 : w2.cell? ⟨G, a, none⟩ = some (.slice Au q.length cu) := hgrow2.cell g9 (fun e => FA.out.fam.ne _ (List.mem_of_getElem? HU.out) e.symm)
        have f2 : w2.frozen? ⟨G, a, none⟩ = false := (World.frozen?_of_block (w := wa) (a := ⟨G, a, none⟩) ((hgrow2.block G (by show G < (wa.alloc _).heap.size; simp; omega) (fun e => FA.out.fam.ne _ (List.mem_of_getElem? HU.out) e.symm)).trans (Below.heap_alloc wa _ G GL))).trans (FA.out.fam.froz a)
        have GW : Hid (wa.grownBy w2 (Value.ownBlock (.slice Au q.length cu))) := (World.grownBy_alloc wa _ _).trans ⟨hgrow2.os, hgrow2.tape, hgrow2.output, hgrow2.size, hgrow2.block⟩
        have OW2 := hid hown2
        have AT : Hid (v2.ownBlock = (Value.slice Au q.length cu).ownBlock ∨ ∃ b, v2.ownBlock = some b ∧ wa.heap.size ≤ b) := hat2.imp id (fun e => ⟨_, e, by show wa.heap.size ≤ (wa.alloc _).heap.size; simp⟩)
        obtain ⟨A2, c2, rfl, _, _⟩ := own_sl hown2
        clear hown2 hgrow2 hat2
        refine hK.out _ _ (Or.inl ⟨S2.out.1, S2.out.2.1, S2.out.2.2.1, S2.out.2.2.2, g2⟩) ?_
        clear hK K
        try simp only [Act.put, List.setIfInBounds_toArray, List.set_cons_zero, List.set_cons_succ]
        have hHeld : (fun w' => w'.cell? ⟨bg, 0, none⟩ = some (.pointer (some ⟨gb, 0, none⟩)) ∧ w'.cell? ⟨gb, 0, none⟩ = some (.slice (some ⟨G, 0, none⟩) n n) ∧ w'.cell? ⟨eb, 0, none⟩ = some (.int .i64 (a : Int)) ∧ w'.cell? ⟨eb, 1, none⟩ = some (.int .i64 y) ∧ w'.cell? ⟨G, a, none⟩ = some (.slice Au q.length cu)) w2 := ⟨S2.out.1, S2.out.2.1, S2.out.2.2.1, S2.out.2.2.2, g2⟩
        refine takeK (i := 18) (d := 42) (oi := _) (v := ?_) rfl rfl (by kernel_rfl) (by kernel_rfl) (by kernel_rfl) (by kernel_rfl) (fun _ _ _ h => h) (Or.inl ⟨by rfl, ?_⟩) (by assumption) ?_
        rotate_left
        · intro wz hSw; (try dsimp only at hSw); go_simp; (try with_reducible rfl)
        try simp only [Act.put, List.setIfInBounds_toArray, List.set_cons_zero, List.set_cons_succ]
        refine nextK (i := 19) (o := _) (by kernel_rfl) rfl (fun K hK => ?_)
        go_simp
        refine hK.out _ _ (Or.inr rfl) ?_
        clear hK K
        try simp only [Act.put, List.setIfInBounds_toArray, List.set_cons_zero, List.set_cons_succ]
        refine doneK (by kernel_rfl) ?_ _
        clear hHeld
        all_goals
          have FN : Hid (GMem w.heap.size n b bg gb P G (us.set a (.slice A2 (q.length + 1) c2)) (ptgts (l.take (j + 1)) n) (w2.setCell ⟨G, a, none⟩ (.slice A2 (q.length + 1) c2))) := by
            show GMem _ _ _ _ _ _ _ _ _ _
            rw [TK.out]
            exact FA.out.put (by rw [ptgts_len]; exact aN) HU.out GW.out (by simpa using OW2.out) AT.out
          have BN : Hid (Below w.heap.size w (w2.setCell ⟨G, a, none⟩ (.slice A2 (q.length + 1) c2))) := (BA.out.grown GW.out sA (own_ge OA.out)).setCell GG _
          go_wp2_with fail
          go_roundw
          case rel => exact ⟨j + 1, _, by omega, by go_num, FN, BN⟩
          case measure => simp [intOf]; omega
      · obtain rfl : j = l.length := by omega
        rw [List.take_length] at hFm
        obtain ⟨z0, hz⟩ : ∃ z, z = wr := ⟨_, rfl⟩
        subst hz
        have c0 := (Has.cell hFm.out.hn 0).trans rfl
        have hmb := run_make_row' (P := Tryd.prog) 83 4 (.bool false) 1 Tryd.underlying83 infoBoolP rfl .i64 .i64 n (by omega) (by omega)
        simp only [made_listP] at hmb
        replace hmb : ∀ w : World, Sem.run Tryd.prog (Instr.makeSlice 83 (.int .i64 n) (.int .i64 n)) w = .ok (.slice (some ⟨w.heap.size, 0, none⟩) n n) (w.alloc (.cells (frow n) 4)) := hmb
        obtain ⟨z1, hz1'⟩ : ∃ z1, z1 = ((z0.alloc (.cells (frow n) 4)).alloc (.cells #[.slice (some ⟨z0.heap.size, 0, none⟩) n n] 83)).alloc (.cells #[.func (Fn.func 92) #[] #[.pointer (some ⟨z0.heap.size + 1, 0, none⟩), .pointer (some ⟨bg, 0, none⟩), .pointer (some ⟨b, 0, none⟩), .pointer (some ⟨z0.heap.size + 1 + 1, 0, none⟩)]] 92) := ⟨_, rfl⟩
        obtain ⟨bo, hbo⟩ : ∃ bo, bo = z0.heap.size + 1 := ⟨_, rfl⟩
        obtain ⟨bc, hbc⟩ : ∃ bc, bc = z0.heap.size + 1 + 1 := ⟨_, rfl⟩
        obtain ⟨O, hO⟩ : ∃ O, O = z0.heap.size := ⟨_, rfl⟩
        have BZ : Hid (Below z0.heap.size z0 z1) := by show Below _ _ _; rw [hz1']; exact (((Below.refl _ _).alloc (Nat.le_refl _) _).alloc (by simp) _).alloc (by simp; omega) _
        have BW : Hid (Below w.heap.size w z1) := hid (hB.out.trans (BZ.out.mono sB))
        have GZ := hid (hFm.out.below BZ.out)
        have l1 := hFm.out.lt (.inl rfl)
        have l2 := hFm.out.lt (.inr (.inl rfl))
        have l3 := hFm.out.lt (.inr (.inr (.inl rfl)))
        have l4 := hFm.out.lt (.inr (.inr (.inr rfl)))
        have l5 := hFm.out.fam.lt
        have ZE : Hid ((⟨b, bo, bg, bc, gb, P, O, G⟩ : PEnv).Ok w.heap.size) := ⟨by simp only []; omega, by simp only []; omega, by simp only []; omega, by simp only []; omega, by simp only []; omega, by simp only []; omega, by simp only []; omega, GZ.out.p1, by simp only []; omega, GZ.out.p2, by simp only []; omega, GZ.out.p3, GZ.out.p4, by simp only []; omega, GZ.out.lo.2.2.2.1⟩
        have PM : Hid (PMem w.heap.size n ⟨b, bo, bg, bc, gb, P, O, G⟩ us (s0P n l) z1) := by
          refine ⟨GZ.out.hn, ?_, GZ.out.hg, ?_, GZ.out.hgb, ?_, ?_, GZ.out.fam, ptgts_len _ _, by simp [s0P], by simp [s0P], fun u hu c hc => ?_⟩
          · show z1.heap[bo]? = _
            rw [hz1', hbo, hO]
            exact Has.alloc (Has.newAt _ _ (by simp)) _
          · show z1.heap[bc]? = _
            rw [hz1', hbc, hbo]
            exact Has.newAt _ _ (by simp)
          · have := GZ.out.hp
            simpa [s0P] using this
          · show z1.heap[O]? = _
            rw [hz1', hO]
            have := Has.alloc (Has.alloc (Has.new z0 (.cells (frow n) 4)) (.cells #[.slice (some ⟨z0.heap.size, 0, none⟩) n n] 83)) (.cells #[.func (Fn.func 92) #[] #[.pointer (some ⟨z0.heap.size + 1, 0, none⟩), .pointer (some ⟨bg, 0, none⟩), .pointer (some ⟨b, 0, none⟩), .pointer (some ⟨z0.heap.size + 1 + 1, 0, none⟩)]] 92)
            rw [this]
            simp [frow, s0P]
          · have h1 := GZ.out.ap u hu c hc
            have h2 := hFm.out.fam.ult hu hc
            rintro (rfl | rfl | rfl | rfl | rfl | rfl | rfl)
            · exact h1.1 rfl
            · (try simp only [] at h2); omega
            · exact h1.2.1 rfl
            · (try simp only [] at h2); omega
            · exact h1.2.2.1 rfl
            · exact h1.2.2.2 rfl
            · (try simp only [] at h2); omega
        have d0 := (Has.cell GZ.out.hn 0).trans rfl
        go_upto_region 10 with fail
        rw [← hz1', ← hbc, ← hbo]
        have BO := hid (show w.heap.size ≤ z1.heap.size from BW.out.size)
        clear hz1' hbo hbc hO l1 l2 l3 l4 l5 hFm hB c0 hmb BZ sB hlt
        go_wp2_with fail
        go_loopw [48] (fun ji wr => ∃ (j : Nat) (s : PSt), j ≤ n ∧ ji = .int .i64 j ∧ Hid (allS n (s0P n l) j = some s) ∧ Hid (PMem w.heap.size n ⟨b, bo, bg, bc, gb, P, O, G⟩ us s wr) ∧ Hid (Below w.heap.size w wr)) (fun ji _ => n - (intOf ji).toNat)
        case atStart => exact ⟨0, _, Nat.zero_le _, rfl, rfl, PM, BW⟩
        case round =>
          clear PM BW d0 GZ
          obtain ⟨j, s, hj, rfl, hA, hM, hB⟩ := hrel
          have sB := hB.out.size
          have GD := hid (allS_good h12 PF.out.start j s hj hA.out)
          by_cases hlt : j < n
          · have i1 : (j : Int) < (n : Int) := by omega
            have NX : Hid (allS n (s0P n l) (j + 1) = cntS n (n + 1) s j) := by show _ = _; simp only [allS, hA.out]; rfl
            have c0 := (Has.cell hM.out.hc 0).trans rfl
            have NO : n + 1 ≤ nOpen s.opn + (n + 1) := by omega
            go_wp2_with fail
            refine (cntOk w.heap.size n ⟨b, bo, bg, bc, gb, P, O, G⟩ ZE.out us h12 (n + 1) s j wr hM.out GD.out.1.1 hlt NO sB).mono ?_
            rintro e w5 ⟨hb, ⟨hc, rfl⟩ | ⟨s', hc, rfl, hM'⟩⟩
            · have B5 := hid (hB.out.trans hb)
              have EN : Hid (madeF n l = none) := allS_none (j := j + 1) (by omega) (by rw [NX.out]; exact hc)
              clear hb hc c0
              go_wp2_with fail
              go_ret
              exact ⟨B5.out, .inl ⟨EN.out, rfl⟩⟩
            · have B5 := hid (hB.out.trans hb)
              have M5 := hid hM'
              have A5 : Hid (allS n (s0P n l) (j + 1) = some s') := by show _ = _; rw [NX.out]; exact hc
              clear hb hc c0 hM'
              go_wp2_with fail
              go_roundw
              case rel => exact ⟨j + 1, s', by omega, by go_num, A5, M5, B5⟩
              case measure => simp [intOf]; omega
          · obtain rfl : j = n := by omega
            have c0 := (Has.cell hM.out.hg 0).trans rfl
            go_wp2_with fail
            go_ret
            exact ⟨hB.out, .inr ⟨s, gb, P, G, us, hA.out, rfl, ⟨hM.out.hgb, hM.out.hp, hM.out.fam, hM.out.lr, hM.out.lp⟩⟩⟩
end Go.Proofs.YtkiljnggphlomaaDoor
