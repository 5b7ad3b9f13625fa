/- What the reference's ApartOf returns of states of two right machines with as many inputs: the first word that tells them apart, or none. No conditions beyond that. -/
import Derived.Test.YtfalbffpdgfepaaDoorDif
import Derived.Test.YtfalbffpdgfepaaDoorAom
import Derived.Test.YtfalbffpdgfepaaDoorRte
import Derived.Deep.RegionHeld3
namespace Go.Proofs.YtfalbffpdgfepaaDoor
open Go.RowKit Go.Deep
theorem wpAnyH_at {P : Program} {md : Region.Mode} {ops : Array Oper} {Q : Exit → Act → World → Prop} {S S' : World → Prop} (hSS : ∀ w, S' w → S w) : ∀ (fuel : Nat) (listed : Array Bool) (a : Act) (w : World), wpAnyH P md ops Q S' fuel listed a w → wpAnyH P md ops Q S fuel listed a w
  | 0, _, _, _, h => h
  | fuel + 1, _, _, _, h => ⟨h.1, fun i hi => wpOp_mono (fun a' w' h' => ⟨hSS _ h'.1, wpAnyH_at hSS fuel _ a' w' h'.2⟩) (h.2 i hi)⟩
theorem takeH {P : Program} {md : Region.Mode} {ops : Array Oper} {Q : Exit → Act → World → Prop} {S : World → Prop} {i d : Nat} {oi : Oper} {v : Value} {fuel : Nat} {listed : Array Bool} {a : Act} {w : World} (hi : ops[i]? = some oi) (hd : oi.dst = some d)
    (hs : Region.noSelect ops = true) (hf : Region.free md ops listed i = true) (hr : (Region.ready md ops listed).contains i = true)
    (hQ : ∀ c a w, Q (.panic c) (a.put (some d) v) w → Q (.panic c) a w) (hy : YieldsIf P ops S oi v a) (hS : S w)
    (h : wpAnyH P md ops Q S fuel (listed.setIfInBounds i true) (a.put (some d) v) w) : wpAnyH P md ops Q S (fuel + 1) listed a w :=
  wpAnyH_take hi hs hf hr (by rw [hd]; exact hQ) hy hS (by rw [hd]; exact h)
theorem Bxs.below' {g B : Nat} {X Y : Array Value} {w w' : World} (h : Bxs g X Y w) (hb : Below B w w') (hg : g + 1 < B) : Bxs g X Y w' :=
  ⟨Has.below h.a hb (by omega), Has.below h.b hb (by omega)⟩
theorem Bxs.drewN {g : Nat} {X Y : Array Value} {w : World} (h : Bxs g X Y w) (q : Nat) : Bxs g X Y (w.drewN q) := ⟨h.a, h.b⟩
theorem row_all {F : Nat → Prop} {w : World} {b o n : Nat} {l : List (List Int)} (hF : ∀ b, F b → b < w.heap.size) (lb : b < w.heap.size) (R : ∀ s, s < n → ∃ r, w.cell? ⟨b, o + s, none⟩ = some r ∧ IntsIn .i64 F w r (rowAt l s)) {s x L : Nat} (hs : s < n) (hL : (rowAt l s).length = L) (hx : x < L) :
    ∃ e p d, e < w.heap.size ∧ ∀ wv, Below w.heap.size w wv → wv.cell? ⟨b, o + s, none⟩ = some (.slice (some ⟨e, p, none⟩) L d) ∧ wv.cell? ⟨e, p + x, none⟩ = some (.int .i64 (at0 (rowAt l s) x)) := by
  obtain ⟨e, p, d, h1, h2, h3⟩ := row_cell (x := x) R hs (by omega)
  have le := hF e h2
  refine ⟨e, p, d, le, fun wv hB => ⟨(hB.cell (p := ⟨b, o + s, none⟩) lb).trans (by rw [h1, hL]), (hB.cell (p := ⟨e, p + x, none⟩) le).trans h3⟩⟩
/-- what a letter's round reads of one machine -/
structure MR (w wv : World) (bo oo bn on s x : Nat) (L : Nat) (o n : Int) (e1 p1 d1 e2 p2 d2 : Nat) : Prop where
  c1 : wv.cell? ⟨bo, oo + s, none⟩ = some (.slice (some ⟨e1, p1, none⟩) L d1)
  c2 : wv.cell? ⟨bn, on + s, none⟩ = some (.slice (some ⟨e2, p2, none⟩) L d2)
  u1 : wv.cell? ⟨e1, p1 + x, none⟩ = some (.int .i64 o)
  u2 : wv.cell? ⟨e2, p2 + x, none⟩ = some (.int .i64 n)
theorem mr_all {m : MachD} {F : Nat → Prop} {w : World} {bo oo bn on : Nat} (g : Good m) (hF : ∀ b, F b → b < w.heap.size) (lo : bo < w.heap.size) (ln : bn < w.heap.size)
    (R : ∀ s, s < m.out.length → ∃ r, w.cell? ⟨bo, oo + s, none⟩ = some r ∧ IntsIn .i64 F w r (rowAt m.out s)) (R' : ∀ s, s < m.next.length → ∃ r, w.cell? ⟨bn, on + s, none⟩ = some r ∧ IntsIn .i64 F w r (rowAt m.next s)) {s x L : Nat} (hs : s < m.out.length) (hL : ins m = L) (hx : x < L) :
    ∃ e1 p1 d1 e2 p2 d2, e1 < w.heap.size ∧ e2 < w.heap.size ∧ ∀ wv, Below w.heap.size w wv → MR w wv bo oo bn on s x L (outAt m s x) (nextAt m s x : Nat) e1 p1 d1 e2 p2 d2 := by
  obtain ⟨e1, p1, d1, l1, h1⟩ := row_all (x := x) (L := L) hF lo R hs (by rw [g.rowO s hs, hL]) hx
  obtain ⟨e2, p2, d2, l2, h2⟩ := row_all (x := x) (L := L) hF ln R' (by rw [g.next]; exact hs) (by rw [g.rowN s hs, hL]) hx
  refine ⟨e1, p1, d1, e2, p2, d2, l1, l2, fun wv hB => ⟨(h1 wv hB).1, (h2 wv hB).1, (h1 wv hB).2, (h2 wv hB).2.trans ?_⟩⟩
  congr 2
  exact nextAt_eq g hs (x := (x : Int)) ⟨by omega, by rw [hL]; omega⟩
theorem word_ints {a : MachD} {p : List Int} {x : Int} {w : World} {B n : Nat} {e : TypeId} {v : Value} (h : w.ownsRow B e 1 v n (p.map (Value.int .i64) ++ [Value.int .i64 x])) (hp : ∀ z ∈ p, letter a z) (hx : letter a x) (i3 : ins a ≤ 3) : IntsIn .i64 (fun b => B ≤ b ∧ b < w.heap.size) w v (p ++ [x]) := by
  refine ints_of_own (n := n) (e := e) (by rw [List.map_append]; exact h) fun z hz => ?_
  have hl : letter a z := by
    rcases List.mem_append.1 hz with hz | hz
    · exact hp z hz
    · simp at hz; subst hz; exact hx
  have h1 := hl.1
  have h2 := hl.2
  exact WalkArith.wf_i64 (by omega)
def AofPost (a b : MachD) (i k : Nat) (w : World) (e : Ending) (w' : World) : Prop :=
  Below w.heap.size w w' ∧ ((∃ r f, e = .returned (.tuple #[r, .bool true]) ∧ First a b i k f ∧ IntsIn .i64 (Fresh w w') w' r f) ∨ (e = .returned (.tuple #[.slice none 0 0, .bool false]) ∧ XEqv a i b k))
theorem AofPost.no {a b : MachD} {i k : Nat} {w w' : World} (h : Below w.heap.size w w') (hx : XEqv a i b k) : AofPost a b i k w (.returned (.tuple #[.slice none 0 0, .bool false])) w' := ⟨h, .inr ⟨rfl, hx⟩⟩
theorem AofPost.yes {a b : MachD} {i k : Nat} {w w' : World} {r : Value} {f : List Int} (h : Below w.heap.size w w') (hf : First a b i k f) (hi : IntsIn .i64 (Fresh w w') w' r f) : AofPost a b i k w (.returned (.tuple #[r, .bool true])) w' := ⟨h, .inl ⟨r, f, rfl, hf, hi⟩⟩
end Go.Proofs.YtfalbffpdgfepaaDoor
