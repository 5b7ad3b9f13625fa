/- A value that came in reads as a tree. No conditions. -/
import Derived.Test.YtpljcpeofnobbaaDoorVad
import Derived.ChangeArms
import Derived.DataReads
import Derived.MakeChecks
import Derived.JoinedOf
import Derived.Lib.SmallJoins
import Derived.Deep.Matrix
namespace Go.Proofs.YtpljcpeofnobbaaDoor
open Go.RowKit Go.ChangeShapes Go.Deep
theorem vcells_at {w : World} {base n : Nat} {a : Addr} {cs : List Value} (h : w.cells? base a n = some cs) : cs.length = n ∧ ∀ j, j < n → w.cell? (a.add j) = cs[j]? := (World.cells?_some h).2
theorem va_leaf {F : Nat → Prop} {w : World} {k : Bool} {n : Int} (hn : (Lit.int .i64 n).wf = true) : VaIn F w (.mk k n []) (.bool k) (.int .i64 n) (.slice none 0 0) := by
  rw [VaIn]; exact ⟨rfl, rfl, hn, none, 0, rfl, by simp, by simp⟩
def VaV (F : Nat → Prop) (w : World) (v : Value) (x : Va) : Prop := ∃ a b c, v = .agg #[a, b, c] ∧ VaIn F w x a b c
theorem va_of_cells {P : Program} {H : Type} {enc : TypeId × Value → H} {W : World} {t e q p : TypeId} {f0 f1 f2 : Field} (hs : P.underlying t = some (.struct #[f0, f1, f2])) (ht : P.cellsOf t = 3) (o0 : f0.offset = 0) (o1 : f1.offset = 1) (o2 : f2.offset = 2) (t0 : f0.type = p) (t1 : f1.type = q) (t2 : f2.type = e)
    (hp : P.underlying p = some .bool) (cp : P.cellsOf p = 1) (hq : P.underlying q = some (.int .i64)) (cq : P.cellsOf q = 1) (he : P.underlying e = some (.slice t)) (ce : P.cellsOf e = 1) :
    ∀ (fuel : Nat) (cs : List Value) (x : DataW H × List MemPlace), DataW.trod enc P W 0 (fun _ => true) true fuel t cs = some x → ∃ a b c X, cs = [a, b, c] ∧ VaIn (fun b => b < W.heap.size) W X a b c := by
  intro fuel
  induction fuel using Nat.strongRecOn with
  | ind fuel ih =>
    intro cs x h
    obtain ⟨xs, n, hf, _, hl, hlen, hx⟩ := DataW.trod_struct hs h
    rw [ht] at hl
    obtain ⟨a, b, c, rfl⟩ : ∃ a b c, cs = [a, b, c] := by
      match cs, hl with
      | [a, b, c], _ => exact ⟨a, b, c, rfl⟩
    have h0 := hx 0 f0 rfl
    have h1 := hx 1 f1 rfl
    have h2 := hx 2 f2 rfl
    rw [t0, o0, cp] at h0
    rw [t1, o1, cq] at h1
    rw [t2, o2, ce] at h2
    simp only [List.drop_zero, List.take_succ_cons, List.take_zero, List.drop_succ_cons] at h0 h1 h2
    have g0 : ∃ y, xs[0]? = some y := ⟨xs[0]'(by rw [hlen]; simp), List.getElem?_eq_getElem _⟩
    have g1 : ∃ y, xs[1]? = some y := ⟨xs[1]'(by rw [hlen]; simp), List.getElem?_eq_getElem _⟩
    have g2 : ∃ y, xs[2]? = some y := ⟨xs[2]'(by rw [hlen]; simp), List.getElem?_eq_getElem _⟩
    obtain ⟨y0, g0⟩ := g0
    obtain ⟨y1, g1⟩ := g1
    obtain ⟨y2, g2⟩ := g2
    obtain ⟨k, ea, _⟩ := DataW.trod_bool hp (h0.trans g0)
    obtain ⟨m, eb, _, wm⟩ := DataW.trod_int hq (h1.trans g1)
    injection ea with ea _
    injection eb with eb _
    subst ea eb
    rcases DataW.trod_slice he (h2.trans g2) with ⟨ec, _⟩ | ⟨ad, len, cap, elems, rest, m', hm', ec, _, _, hl1, hl2, hel, hat, _, _⟩
    · injection ec with ec _
      subst ec
      exact ⟨_, _, _, .mk k m [], rfl, va_leaf wm⟩
    · injection ec with ec _
      subst ec
      by_cases h0len : len = 0
      · subst h0len
        refine ⟨_, _, _, .mk k m [], rfl, ?_⟩
        rw [VaIn]
        exact ⟨rfl, rfl, wm, some ad, cap, rfl, ⟨Nat.zero_le _, hl2⟩, by simp⟩
      have each : ∀ i, i < len → ∃ ci a b c X, W.cells? 0 (ad.add (i * 3)) 3 = some ci ∧ ci = [a, b, c] ∧ VaIn (fun b => b < W.heap.size) W X a b c := fun i hi => by
        have e1 := hat i hi
        rw [ht] at e1
        have e2 : ∃ y, elems[i]? = some y := ⟨elems[i]'(by rw [hel]; exact hi), List.getElem?_eq_getElem _⟩
        obtain ⟨y, e2⟩ := e2
        rw [e2] at e1
        obtain ⟨ci, c1, c2⟩ := Option.bind_eq_some_iff.1 e1
        obtain ⟨a, b, c, X, e3, e4⟩ := ih m' (by omega) ci y c2
        exact ⟨ci, a, b, c, X, c1, e3, e4⟩
      have ch : ∀ i, ∃ X : Va, i < len → ∃ ci a b c, W.cells? 0 (ad.add (i * 3)) 3 = some ci ∧ ci = [a, b, c] ∧ VaIn (fun b => b < W.heap.size) W X a b c := fun i => by
        by_cases hi : i < len
        · obtain ⟨ci, a, b, c, X, h1, h2, h3⟩ := each i hi
          exact ⟨X, fun _ => ⟨ci, a, b, c, h1, h2, h3⟩⟩
        · exact ⟨default, fun h => absurd h hi⟩
      let Xs : Nat → Va := fun i => (ch i).choose
      have hXs : ∀ i, i < len → ∃ ci a b c, W.cells? 0 (ad.add (i * 3)) 3 = some ci ∧ ci = [a, b, c] ∧ VaIn (fun b => b < W.heap.size) W (Xs i) a b c := fun i => (ch i).choose_spec
      obtain ⟨bl, off, spot⟩ := ad
      have hspot : spot = none := by
        obtain ⟨ci, a, b, c, h1, h2, _⟩ := hXs 0 (by omega)
        have := (vcells_at h1).2 0 (by omega)
        subst h2
        simpa [Addr.add] using World.cell?_spot this
      subst hspot
      have ll : ((List.range len).map Xs).length = len := by simp
      have cellsAt : ∀ i, i < len → ∃ a b c, W.cell? ⟨bl, off + i * 3, none⟩ = some a ∧ W.cell? ⟨bl, off + i * 3 + 1, none⟩ = some b ∧ W.cell? ⟨bl, off + i * 3 + 2, none⟩ = some c ∧ VaIn (fun b => b < W.heap.size) W (Xs i) a b c := fun i hi => by
        obtain ⟨ci, a, b, c, h1, h2, h3⟩ := hXs i hi
        have h4 := (vcells_at h1).2
        subst h2
        have q0 := h4 0 (by omega)
        have q1 := h4 1 (by omega)
        have q2 := h4 2 (by omega)
        refine ⟨a, b, c, ?_, ?_, ?_, h3⟩
        · by_cases h0 : i = 0
          · subst h0; simpa [Addr.add] using q0
          · have : i * 3 ≠ 0 := by omega
            simpa [Addr.add, this] using q0
        · by_cases h0 : i = 0
          · subst h0; simpa [Addr.add] using q1
          · have : i * 3 ≠ 0 := by omega
            simpa [Addr.add, this] using q1
        · by_cases h0 : i = 0
          · subst h0; simpa [Addr.add] using q2
          · have : i * 3 ≠ 0 := by omega
            simpa [Addr.add, this] using q2
      refine ⟨_, _, _, .mk k m ((List.range len).map Xs), rfl, ?_⟩
      rw [VaIn]
      refine ⟨rfl, rfl, wm, _, cap, by rw [ll], by rw [ll]; exact ⟨hl1, hl2⟩, fun hn => ⟨bl, off, rfl, ?_, VasIn.mk_ fun i hi => ?_⟩⟩
      · obtain ⟨a, b, c, q0, _⟩ := cellsAt 0 (by omega)
        exact cell_lt q0
      · rw [ll] at hi
        obtain ⟨a, b, c, q0, q1, q2, q3⟩ := cellsAt i hi
        exact ⟨a, b, c, q0, q1, q2, by simpa using q3⟩
theorem va_of_Trod {P : Program} {H : Type} {enc : TypeId × Value → H} {W : World} {r : Reach} {b0 : Nat} {t e q p : TypeId} {f0 f1 f2 : Field} {v : Value} {d : DataW H} {pl : List MemPlace} (hs : P.underlying t = some (.struct #[f0, f1, f2])) (ht : P.cellsOf t = 3) (o0 : f0.offset = 0) (o1 : f1.offset = 1) (o2 : f2.offset = 2) (t0 : f0.type = p) (t1 : f1.type = q) (t2 : f2.type = e)
    (hp : P.underlying p = some .bool) (cp : P.cellsOf p = 1) (hq : P.underlying q = some (.int .i64)) (cq : P.cellsOf q = 1) (he : P.underlying e = some (.slice t)) (ce : P.cellsOf e = 1) (hone : oneCellFields P #[f0, f1, f2] = true)
    (hv : Value.okWide P W r b0 t v) (h : DataW.Trod enc P W 0 (fun _ => true) true t v d pl) : ∃ x, VaV (fun b => b < W.heap.size) W v x := by
  obtain ⟨v0, v1, v2, y0, y1, y2, n, rfl, _, _, h0, h1, h2⟩ := Joins.open_agg3 hs hone ht hv h
  rw [t0] at h0
  rw [t1] at h1
  rw [t2] at h2
  obtain ⟨k, ea, _⟩ := DataW.trod_bool hp h0
  obtain ⟨m, eb, _, _⟩ := DataW.trod_int hq h1
  injection ea with ea _
  injection eb with eb _
  subst ea eb
  obtain ⟨A, l, cap, rfl⟩ : ∃ A l cap, v2 = .slice A l cap := by
    rcases DataW.trod_slice he h2 with ⟨ec, _⟩ | ⟨ad, len, cap, _, _, _, _, ec, _⟩
    · injection ec with ec _; exact ⟨_, _, _, ec⟩
    · injection ec with ec _; exact ⟨_, _, _, ec⟩
  obtain ⟨fuel, hf⟩ := h
  obtain ⟨a, b, c, X, e, hX⟩ := va_of_cells hs ht o0 o1 o2 t0 t1 t2 hp cp hq cq he ce fuel _ _ hf
  simp [Value.cells] at e
  obtain ⟨rfl, rfl, rfl⟩ := e
  exact ⟨X, _, _, _, rfl, hX⟩
end Go.Proofs.YtpljcpeofnobbaaDoor
