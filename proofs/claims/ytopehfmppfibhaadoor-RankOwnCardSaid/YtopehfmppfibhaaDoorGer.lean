/- A generator that came in reads as a tree. No conditions. -/
import Derived.Test.YtopehfmppfibhaaDoorBas
import Derived.ChangeArms
import Derived.DataReads
import Derived.MakeChecks
import Derived.JoinedOf
import Derived.Lib.SmallJoins
import Derived.Deep.Matrix
namespace Go.Proofs.YtopehfmppfibhaaDoor
open Go.RowKit Go.ChangeShapes Go.Deep
def GeV (F : Nat → Prop) (w : World) (v : Value) (g : Ge) : Prop := ∃ u x y c, v = .agg #[u, x, y, c] ∧ GeIn F w g u x y c
theorem gcells_at {w : World} {base n : Nat} {a : Addr} {cs : List Value} (h : w.cells? base a n = some cs) : cs.length = n ∧ ∀ j, j < n → w.cell? (a.add j) = cs[j]? := (World.cells?_some h).2
theorem ge_of_cells {P : Program} {H : Type} {enc : TypeId × Value → H} {W : World} {t e q : TypeId} {f0 f1 f2 f3 : Field} (hs : P.underlying t = some (.struct #[f0, f1, f2, f3])) (ht : P.cellsOf t = 4) (o0 : f0.offset = 0) (o1 : f1.offset = 1) (o2 : f2.offset = 2) (o3 : f3.offset = 3) (t0 : f0.type = q) (t1 : f1.type = q) (t2 : f2.type = q) (t3 : f3.type = e)
    (hq : P.underlying q = some (.int .i64)) (cq : P.cellsOf q = 1) (he : P.underlying e = some (.slice t)) (ce : P.cellsOf e = 1) :
    ∀ (fuel : Nat) (cs : List Value) (x : DataW H × List MemPlace), DataW.trod enc P W 0 (fun _ => true) true fuel t cs = some x → ∃ a b c d X, cs = [a, b, c, d] ∧ GeIn (fun b => b < W.heap.size) W X a b c d := by
  intro fuel
  induction fuel using Nat.strongRecOn with
  | ind fuel ih =>
    intro cs x h
    obtain ⟨xs, n, hf, _, hl, hlen, hx⟩ := DataW.trod_struct hs h
    rw [ht] at hl
    obtain ⟨a, b, c, d, rfl⟩ : ∃ a b c d, cs = [a, b, c, d] := by
      match cs, hl with
      | [a, b, c, d], _ => exact ⟨a, b, c, d, rfl⟩
    have h0 := hx 0 f0 rfl
    have h1 := hx 1 f1 rfl
    have h2 := hx 2 f2 rfl
    have h3 := hx 3 f3 rfl
    rw [t0, o0, cq] at h0
    rw [t1, o1, cq] at h1
    rw [t2, o2, cq] at h2
    rw [t3, o3, ce] at h3
    simp only [List.drop_zero, List.take_succ_cons, List.take_zero, List.drop_succ_cons] at h0 h1 h2 h3
    have g0 : ∃ y, xs[0]? = some y := ⟨xs[0]'(by rw [hlen]; simp), List.getElem?_eq_getElem _⟩
    have g1 : ∃ y, xs[1]? = some y := ⟨xs[1]'(by rw [hlen]; simp), List.getElem?_eq_getElem _⟩
    have g2 : ∃ y, xs[2]? = some y := ⟨xs[2]'(by rw [hlen]; simp), List.getElem?_eq_getElem _⟩
    have g3 : ∃ y, xs[3]? = some y := ⟨xs[3]'(by rw [hlen]; simp), List.getElem?_eq_getElem _⟩
    obtain ⟨y0, g0⟩ := g0
    obtain ⟨y1, g1⟩ := g1
    obtain ⟨y2, g2⟩ := g2
    obtain ⟨y3, g3⟩ := g3
    obtain ⟨k, ea, _, wk⟩ := DataW.trod_int hq (h0.trans g0)
    obtain ⟨m, eb, _, wm⟩ := DataW.trod_int hq (h1.trans g1)
    obtain ⟨o, ec0, _, wo⟩ := DataW.trod_int hq (h2.trans g2)
    injection ea with ea _
    injection eb with eb _
    injection ec0 with ec0 _
    subst ea eb ec0
    rcases DataW.trod_slice he (h3.trans g3) with ⟨ec, _⟩ | ⟨ad, len, cap, elems, rest, m', hm', ec, _, _, hl1, hl2, hel, hat, _, _⟩
    · injection ec with ec _
      subst ec
      exact ⟨_, _, _, _, .mk k m o [], rfl, ge_leaf wk wm wo⟩
    · injection ec with ec _
      subst ec
      by_cases h0len : len = 0
      · subst h0len
        refine ⟨_, _, _, _, .mk k m o [], rfl, ?_⟩
        rw [GeIn]
        exact ⟨rfl, rfl, rfl, wk, wm, wo, some ad, cap, rfl, ⟨Nat.zero_le _, hl2⟩, by simp⟩
      have ch : ∀ i, ∃ X : Ge, i < len → ∃ ci a b c d, W.cells? 0 (ad.add (i * 4)) 4 = some ci ∧ ci = [a, b, c, d] ∧ GeIn (fun b => b < W.heap.size) W X a b c d := fun i => by
        by_cases hi : i < len
        · have e1 := hat i hi
          rw [ht] at e1
          have e2 : ∃ y, elems[i]? = some y := ⟨elems[i]'(by rw [hel]; exact hi), List.getElem?_eq_getElem _⟩
          obtain ⟨y, e2⟩ := e2
          rw [e2] at e1
          obtain ⟨ci, c1, c2⟩ := Option.bind_eq_some_iff.1 e1
          obtain ⟨a, b, c, d, X, e3, e4⟩ := ih m' (by omega) ci y c2
          exact ⟨X, fun _ => ⟨ci, a, b, c, d, c1, e3, e4⟩⟩
        · exact ⟨default, fun h => absurd h hi⟩
      let Xs : Nat → Ge := fun i => (ch i).choose
      have hXs : ∀ i, i < len → ∃ ci a b c d, W.cells? 0 (ad.add (i * 4)) 4 = some ci ∧ ci = [a, b, c, d] ∧ GeIn (fun b => b < W.heap.size) W (Xs i) a b c d := fun i => (ch i).choose_spec
      obtain ⟨bl, off, spot⟩ := ad
      have hspot : spot = none := by
        obtain ⟨ci, a, b, c, d, h1, h2, _⟩ := hXs 0 (by omega)
        have := (gcells_at h1).2 0 (by omega)
        subst h2
        simpa [Addr.add] using World.cell?_spot this
      subst hspot
      have ll : ((List.range len).map Xs).length = len := by simp
      have cellsAt : ∀ i, i < len → ∃ a b c d, W.cell? ⟨bl, off + i * 4, none⟩ = some a ∧ W.cell? ⟨bl, off + i * 4 + 1, none⟩ = some b ∧ W.cell? ⟨bl, off + i * 4 + 2, none⟩ = some c ∧ W.cell? ⟨bl, off + i * 4 + 3, none⟩ = some d ∧ GeIn (fun b => b < W.heap.size) W (Xs i) a b c d := fun i hi => by
        obtain ⟨ci, a, b, c, d, h1, h2, h3⟩ := hXs i hi
        have h4 := (gcells_at h1).2
        subst h2
        have q0 := h4 0 (by omega)
        have q1 := h4 1 (by omega)
        have q2 := h4 2 (by omega)
        have q3 := h4 3 (by omega)
        refine ⟨a, b, c, d, ?_, ?_, ?_, ?_, h3⟩
        · by_cases h0 : i = 0
          · subst h0; simpa [Addr.add] using q0
          · have : i * 4 ≠ 0 := by omega
            simpa [Addr.add, this] using q0
        · by_cases h0 : i = 0
          · subst h0; simpa [Addr.add] using q1
          · have : i * 4 ≠ 0 := by omega
            simpa [Addr.add, this] using q1
        · by_cases h0 : i = 0
          · subst h0; simpa [Addr.add] using q2
          · have : i * 4 ≠ 0 := by omega
            simpa [Addr.add, this] using q2
        · by_cases h0 : i = 0
          · subst h0; simpa [Addr.add] using q3
          · have : i * 4 ≠ 0 := by omega
            simpa [Addr.add, this] using q3
      refine ⟨_, _, _, _, .mk k m o ((List.range len).map Xs), rfl, ?_⟩
      rw [GeIn]
      refine ⟨rfl, rfl, rfl, wk, wm, wo, _, cap, by rw [ll], by rw [ll]; exact ⟨hl1, hl2⟩, fun hn => ⟨bl, off, rfl, ?_, GesIn.mk_ fun i hi => ?_⟩⟩
      · obtain ⟨a, b, c, d, q0, _⟩ := cellsAt 0 (by omega)
        have : (⟨bl, off + 0 * 4, none⟩ : Addr).block < W.heap.size := cell_lt q0
        exact this
      · rw [ll] at hi
        obtain ⟨a, b, c, d, q0, q1, q2, q3, q4⟩ := cellsAt i hi
        exact ⟨a, b, c, d, q0, q1, q2, q3, by simpa using q4⟩
theorem ge_of_Trod {P : Program} {H : Type} {enc : TypeId × Value → H} {W : World} {r : Reach} {b0 : Nat} {t e q : TypeId} {f0 f1 f2 f3 : Field} {v : Value} {d : DataW H} {p : List MemPlace} (hs : P.underlying t = some (.struct #[f0, f1, f2, f3])) (ht : P.cellsOf t = 4) (o0 : f0.offset = 0) (o1 : f1.offset = 1) (o2 : f2.offset = 2) (o3 : f3.offset = 3) (t0 : f0.type = q) (t1 : f1.type = q) (t2 : f2.type = q) (t3 : f3.type = e)
    (hq : P.underlying q = some (.int .i64)) (cq : P.cellsOf q = 1) (he : P.underlying e = some (.slice t)) (ce : P.cellsOf e = 1) (hone : oneCellFields P #[f0, f1, f2, f3] = true)
    (hv : Value.okWide P W r b0 t v) (h : DataW.Trod enc P W 0 (fun _ => true) true t v d p) : ∃ x, GeV (fun b => b < W.heap.size) W v x := by
  obtain ⟨v0, v1, v2, v3, y0, y1, y2, y3, n, rfl, _, _, h0, h1, h2, h3⟩ := Joins.open_agg4 hs hone ht hv h
  rw [t0] at h0
  rw [t1] at h1
  rw [t2] at h2
  rw [t3] at h3
  obtain ⟨k, ea, _, _⟩ := DataW.trod_int hq h0
  obtain ⟨m, eb, _, _⟩ := DataW.trod_int hq h1
  obtain ⟨o, ec0, _, _⟩ := DataW.trod_int hq h2
  injection ea with ea _
  injection eb with eb _
  injection ec0 with ec0 _
  subst ea eb ec0
  obtain ⟨A, l, cp, rfl⟩ : ∃ A l cp, v3 = .slice A l cp := by
    rcases DataW.trod_slice he h3 with ⟨ec, _⟩ | ⟨ad, len, cap, _, _, _, _, ec, _⟩
    · injection ec with ec _; exact ⟨_, _, _, ec⟩
    · injection ec with ec _; exact ⟨_, _, _, ec⟩
  obtain ⟨fuel, hf⟩ := h
  obtain ⟨a', b', c', d', X, e, hX⟩ := ge_of_cells hs ht o0 o1 o2 o3 t0 t1 t2 t3 hq cq he ce fuel _ _ hf
  simp [Value.cells] at e
  obtain ⟨rfl, rfl, rfl, rfl⟩ := e
  exact ⟨X, _, _, _, _, rfl, hX⟩
end Go.Proofs.YtopehfmppfibhaaDoor
