/- What flow.met returns. No conditions. -/
import Derived.Test.YtkiljnggphlomaaDoorFmt
import Derived.Laws.EntriesVeiled
namespace Go.Proofs.YtkiljnggphlomaaDoor
open Go.RowKit Go.Deep
theorem made_bls (n : Nat) : madeCells #[Value.bool false] n = bls (List.replicate n false) := by
  apply Array.toList_inj.1
  rw [toList_madeCells_one]
  unfold bls
  apply List.ext_getElem <;> simp
theorem boxes5 (w : World) (o0 o1 o2 o3 o4 : Obj) :
    (((((w.alloc o0).alloc o1).alloc o2).alloc o3).alloc o4).heap[w.heap.size]? = some o0 ∧ (((((w.alloc o0).alloc o1).alloc o2).alloc o3).alloc o4).heap[w.heap.size + 1]? = some o1 ∧ (((((w.alloc o0).alloc o1).alloc o2).alloc o3).alloc o4).heap[w.heap.size + 1 + 1]? = some o2 ∧
      (((((w.alloc o0).alloc o1).alloc o2).alloc o3).alloc o4).heap[w.heap.size + 1 + 1 + 1]? = some o3 ∧ (((((w.alloc o0).alloc o1).alloc o2).alloc o3).alloc o4).heap[w.heap.size + 1 + 1 + 1 + 1]? = some o4 ∧ Below w.heap.size w (((((w.alloc o0).alloc o1).alloc o2).alloc o3).alloc o4) :=
  ⟨Has.alloc (Has.alloc (Has.alloc (Has.alloc (Has.new _ _) _) _) _) _, Has.alloc (Has.alloc (Has.alloc (Has.newAt _ _ (by simp)) _) _) _, Has.alloc (Has.alloc (Has.newAt _ _ (by simp)) _) _, Has.alloc (Has.newAt _ _ (by simp)) _, Has.newAt _ _ (by simp),
    (((((Below.refl _ _).alloc (Nat.le_refl _) _).alloc (by simp) _).alloc (by simp; omega) _).alloc (by simp; omega) _).alloc (by simp; omega) _⟩
set_option maxRecDepth 100000 in
set_option maxHeartbeats 2000000 in
theorem met_any (n : Nat) (l : EdgeL) (but : Int) (F : Nat → Prop) (v : Value) (w : World) (hF : ∀ b, F b → b < w.heap.size) (hv : EdgesIn F w v l) (hg : flowC n l = 0) :
    Calls Tryd.prog 42 #[.int .i64 n, v, .int .i64 but] w fun e w' => ∃ ob, e = .returned (.slice (some ⟨ob, 0, none⟩) n n) ∧ Below w.heap.size w w' ∧ w.heap.size ≤ ob ∧ w'.heap[ob]? = some (.cells (bls (mets n l but)) 4 (0, 0)) := by
  obtain ⟨h1, h12, hlen, hl⟩ := flow_good hg
  have HL := hid hl
  have H := hid hv
  have HF := hid hF
  have h2 : n ≤ 12 := by omega
  have h3 : 1 ≤ n := by omega
  obtain ⟨A, c, rfl, hc, _, _⟩ := hv
  unfold maxLen at hc
  clear hF hg hl
  have hmk := run_make_row' (P := Tryd.prog) 83 4 (.bool false) 1 Tryd.underlying83 infoBool rfl .i64 .i64 n (by omega) (by omega)
  go_enter Tryd.func42, Tryd.ntmps42
  go_wp2_with fail
  obtain ⟨X0, X1, X2, X3, X4, BX⟩ := boxes5 w (.cells #[.slice A l.length c] 22) (.cells #[.int .i64 but] 3) (.cells (madeCells #[Value.bool false] n) 4) (.cells #[.slice (some ⟨w.heap.size + 1 + 1, 0, none⟩) n n] 83)
    (.cells #[.func (Fn.func 71) #[] #[.pointer (some ⟨w.heap.size + 1, 0, none⟩), .pointer (some ⟨w.heap.size + 1 + 1 + 1, 0, none⟩), .pointer (some ⟨w.heap.size, 0, none⟩), .pointer (some ⟨w.heap.size + 1 + 1 + 1 + 1, 0, none⟩)]] 115)
  have X2b := X2.trans (congrArg (fun a => some (Obj.cells a 4 (0, 0))) (made_bls n))
  have VI : VisIn F l n but (.slice A l.length c) (w.heap.size + 1) (w.heap.size + 1 + 1 + 1) w.heap.size (w.heap.size + 1 + 1 + 1 + 1) (w.heap.size + 1 + 1) _ :=
    ⟨(Has.cell X1 0).trans rfl, (Has.cell X3 0).trans rfl, (Has.cell X0 0).trans rfl, (Has.cell X4 0).trans rfl, H.out.keep (Same.of_below BX HF.out), fun b hb => Nat.lt_of_lt_of_le (HF.out b hb) BX.size, by omega, by omega, by omega, by omega, fun b hb => by have := HF.out b hb; omega⟩
  have cx := hid ((Has.cell X3 0).trans rfl)
  refine (visit_any F l n but _ _ _ _ _ _ HL.out h2 hlen (n + 1) (List.replicate n false) 0 _ VI X2b (by simp) (by simp) (by omega)).mono ?_
  rintro e w2 ⟨rfl, hg2, hd2⟩
  have c3 := grown_cell hg2 cx.out (by omega)
  have B2 : Below w.heap.size w w2 := BX.grown hg2 BX.size fun k hk => by cases hk; omega
  have D2 := hid hd2
  clear X0 X1 X2 X2b X3 X4 BX VI hg2 hd2
  go_wp2_with fail
  go_ret
  exact ⟨_, rfl, B2, by omega, D2.out⟩
end Go.Proofs.YtkiljnggphlomaaDoor
