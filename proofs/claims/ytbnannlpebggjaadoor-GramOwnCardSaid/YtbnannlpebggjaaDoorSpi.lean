/- What spoil makes of a row of the call's own, whatever else lies in its block; many rows that are spoilt one after the other; every second one. No conditions. -/
import Derived.Test.YtbnannlpebggjaaDoorSpo
import Derived.Deep.OwnRows
namespace Go.Proofs.YtbnannlpebggjaaDoor
open Go.RowKit Go.Deep
/-- a row that may be written into -/
def SP (w : World) (r : Value) : Prop := r = .slice none 0 0 ∨ ∃ g n c cur, r = .slice (some ⟨g, 0, none⟩) n c ∧ n ≤ 17592186044416 ∧ w.heap[g]? = some (.cells cur 3 (0, 0)) ∧ n ≤ cur.size
theorem SP.of_own {w : World} {B n : Nat} {r : Value} {xs : List Value} (h : w.ownsRow B 3 1 r n xs) (hn : n ≤ 17592186044416) : SP w r := by
  rcases h.2 with ⟨rfl, _⟩ | ⟨g, cap, cur, rfl, _, hh, hc1, _, hc3, _⟩
  · exact .inl rfl
  · exact .inr ⟨g, n, cap, cur, rfl, hn, hh, by omega⟩
theorem gr_own_of {w w' : World} (h : Below w.heap.size w w') {r : Option Nat} : w.grownBy w' r := ⟨h.os, h.tape, h.output, h.size, fun k hk _ => h.block k hk⟩
def SpGo (r : Value) (w w' : World) : Prop := w.grownBy w' r.ownBlock ∧ ∀ g cur, r.ownBlock = some g → w.heap[g]? = some (.cells cur 3 (0, 0)) → ∃ cur', w'.heap[g]? = some (.cells cur' 3 (0, 0)) ∧ cur'.size = cur.size
theorem SP.keep {w w' : World} {r u : Value} (h : SP w u) (hg : SpGo r w w') : SP w' u := by
  rcases h with rfl | ⟨g, n, c, cur, rfl, hn, hh, hc⟩
  · exact .inl rfl
  · by_cases e : r.ownBlock = some g
    · obtain ⟨cur', h1, h2⟩ := hg.2 g cur e hh
      exact .inr ⟨g, n, c, cur', rfl, hn, h1, by omega⟩
    · exact .inr ⟨g, n, c, cur, rfl, hn, (hg.1.block g (Has.lt hh) (fun e2 => e e2.symm)).trans hh, hc⟩
theorem SP.below {w w' : World} {u : Value} (h : SP w u) (hb : Below w.heap.size w w') : SP w' u := by
  rcases h with rfl | ⟨g, n, c, cur, rfl, hn, hh, hc⟩
  · exact .inl rfl
  · exact .inr ⟨g, n, c, cur, rfl, hn, Has.below hh hb (Has.lt hh), hc⟩
set_option maxRecDepth 100000 in
set_option maxHeartbeats 1000000 in
theorem spoil_sp (x : Int) (r : Value) (w : World) (h : SP w r) :
    Calls Tryd.prog 9 #[r, .int .i64 x] w fun e w' => e = .returned (.tuple #[]) ∧ SpGo r w w' := by
  rcases h with rfl | ⟨g, n, c, cur, rfl, hn, hh, hc⟩
  · go_enter Tryd.func9, Tryd.ntmps9
    go_wp2_with fail
    go_loopw [4] (fun iv wr => iv = .int .i64 0 ∧ Hid (Below w.heap.size w wr)) (fun _ _ => 0)
    case atStart => exact ⟨rfl, Below.refl _ _⟩
    case round =>
      obtain ⟨rfl, hB⟩ := hrel
      go_wp2_with fail
      go_end0
      exact ⟨rfl, gr_own_of hB.out, fun g cur e => by cases e⟩
  · have HH := hid hh
    have HC := hid hc
    clear hh hc
    go_enter Tryd.func9, Tryd.ntmps9
    go_wp2_with fail
    go_loopw [4] (fun iv wr => ∃ j : Nat, j ≤ n ∧ iv = .int .i64 j ∧ Hid (∃ cur', wr.heap[g]? = some (.cells cur' 3 (0, 0)) ∧ cur'.size = cur.size) ∧ Hid (w.grownBy wr (some g))) (fun iv _ => n - (intOf iv).toNat)
    case atStart => exact ⟨0, Nat.zero_le _, rfl, ⟨cur, HH.out, rfl⟩, World.grownBy.refl w _⟩
    case round =>
      obtain ⟨j, hj, rfl, hO, hG⟩ := hrel
      obtain ⟨cur', h1, h2⟩ := hO.out
      by_cases hlt : j < n
      · have lj : j < cur'.size := by have := HC.out; omega
        have c1 : wr.cell? ⟨g, j, none⟩ = some cur'[j] := by
          have := Has.cell h1 j
          rw [this]; simp [lj]
        have f1 : wr.frozen? ⟨g, j, none⟩ = false := Has.froz h1 j
        have H1 := hid h1
        have H2 := hid h2
        have i1 : (j : Int) < (n : Int) := by omega
        clear h1 h2 hO
        go_wp2_with fail
        go_roundw
        case rel =>
          refine ⟨j + 1, by omega, by go_num, ?_, ?_⟩
          · have := Has.set H1.out j (.int .i64 x)
            exact ⟨_, this, by have := H2.out; simp [this]⟩
          · have h1 := hG.out
            exact ⟨h1.os, h1.tape, h1.output, by have := h1.size; simpa using this, fun k hk hne => (Below.heap_setCell wr _ _ k (fun e => hne (by rw [e]))).trans (h1.block k hk hne)⟩
        case measure => simp [intOf]; omega
      · obtain rfl : j = n := by omega
        go_wp2_with fail
        go_end0
        refine ⟨rfl, hG.out, fun g2 cur2 e e2 => ?_⟩
        have eg : g2 = g := by simpa [Value.ownBlock] using e.symm
        subst eg
        rw [HH.out] at e2
        injection e2 with e2
        injection e2 with e2
        subst e2
        exact hO.out
/-- rows that are spoilt one after the other -/
structure SpI (w0 : World) (rl : List Value) (w : World) : Prop where
  os : w.os = w0.os
  tape : w.tape = w0.tape
  output : w.output = w0.output
  size : w0.heap.size ≤ w.heap.size
  keep : ∀ b, b < w0.heap.size → (∀ r ∈ rl, r.ownBlock ≠ some b) → w.heap[b]? = w0.heap[b]?
  sp : ∀ r ∈ rl, SP w r
theorem SpI.start {w : World} {rl : List Value} (h : ∀ r ∈ rl, SP w r) : SpI w rl w := ⟨rfl, rfl, rfl, Nat.le_refl _, fun _ _ _ => rfl, h⟩
theorem SpI.step {w0 w w' : World} {rl : List Value} {r : Value} (h : SpI w0 rl w) (hr : r ∈ rl) (hg : SpGo r w w') : SpI w0 rl w' :=
  ⟨hg.1.os.trans h.os, hg.1.tape.trans h.tape, hg.1.output.trans h.output, Nat.le_trans h.size hg.1.size, fun b hb hn => (hg.1.block b (Nat.lt_of_lt_of_le hb h.size) (fun e => hn r hr e.symm)).trans (h.keep b hb hn), fun u hu => (h.sp u hu).keep hg⟩
/-- all below B stays -/
theorem SpI.below {B : Nat} {w0 w : World} {rl : List Value} (h : SpI w0 rl w) (hB : B ≤ w0.heap.size) (hr : ∀ r ∈ rl, ∀ b, r.ownBlock = some b → B ≤ b) : Below B w0 w :=
  ⟨h.os, h.tape, h.output, h.size, fun b hb => h.keep b (by omega) fun r hr2 e => by have := hr r hr2 b e; omega⟩
theorem SP.block {w : World} {r : Value} {b : Nat} (h : SP w r) (hb : r.ownBlock = some b) : ∃ cur, w.heap[b]? = some (.cells cur 3 (0, 0)) := by
  rcases h with rfl | ⟨g, n, c, cur, rfl, _, hh, _⟩
  · cases hb
  · simp [Value.ownBlock] at hb; subst hb; exact ⟨cur, hh⟩
/-- a block of another type stays -/
theorem SpI.other {w0 w : World} {rl : List Value} (h : SpI w0 rl w) (h0 : ∀ r ∈ rl, SP w0 r) {b : Nat} {cs : Array Value} {t : TypeId} (hb : w0.heap[b]? = some (.cells cs t (0, 0))) (ht : t ≠ 3) : w.heap[b]? = some (.cells cs t (0, 0)) := by
  refine (h.keep b (Has.lt hb) fun r hr e => ?_).trans hb
  obtain ⟨cur, hc⟩ := (h0 r hr).block e
  rw [hb] at hc
  injection hc with hc
  injection hc with _ hc
  exact ht hc
/-- a header row stays -/
theorem SpI.row {w0 w : World} {rl : List Value} (h : SpI w0 rl w) (h0 : ∀ r ∈ rl, SP w0 r) {B n : Nat} {v : Value} {cs : List Value} (ho : w0.ownsRow B 29 1 v n cs) : w.ownsRow B 29 1 v n cs := by
  refine own_keep ho fun k hk => ?_
  rcases ho.2 with ⟨rfl, _⟩ | ⟨g, cap, cur, rfl, _, hh, _⟩
  · cases hk
  · have hk' : k = g := by simpa [Value.ownBlock] using hk.symm
    subst hk'
    rw [hh]
    exact h.other h0 hh (by decide)
/-- every second one -/
def evens (cs : List Value) : List Value := (List.range cs.length).filterMap fun i => if i % 2 = 0 then cs[i]? else none
theorem mem_evens {cs : List Value} {i : Nat} {r : Value} (h : i % 2 = 0) (hr : cs[i]? = some r) : r ∈ evens cs := by
  have hi : i < cs.length := by
    rcases Nat.lt_or_ge i cs.length with h | h
    · exact h
    · rw [List.getElem?_eq_none h] at hr; cases hr
  exact List.mem_filterMap.2 ⟨i, List.mem_range.2 hi, by rw [if_pos h]; exact hr⟩
theorem of_evens {cs : List Value} {r : Value} (h : r ∈ evens cs) : ∃ i, i % 2 = 0 ∧ cs[i]? = some r := by
  obtain ⟨i, _, h⟩ := List.mem_filterMap.1 h
  split at h
  · exact ⟨i, by assumption, h⟩
  · cases h
end Go.Proofs.YtbnannlpebggjaaDoor
