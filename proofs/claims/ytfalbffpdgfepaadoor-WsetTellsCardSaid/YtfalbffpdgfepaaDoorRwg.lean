/- What the reference's WordFault and Goes return of a right machine: has a word a letter that there is not; the state behind a right word. No conditions beyond that. -/
import Derived.Test.YtfalbffpdgfepaaDoorRun
import Derived.BigQuiet
namespace Go.Proofs.YtfalbffpdgfepaaDoor
open Go.RowKit
theorem not_word {m : MachD} {ws : List Int} {j : Nat} (hj : j < ws.length) (h : ¬ letter m (at0 ws j)) : ¬ word m ws := fun hw => h (hw _ (mem_at hj))
theorem all_word {m : MachD} {ws : List Int} (h : ∀ t, t < ws.length → letter m (at0 ws t)) : word m ws := fun x hx => by
  obtain ⟨t, ht, rfl⟩ := List.getElem_of_mem hx
  have := h t ht
  unfold at0 at this
  rw [List.getD_eq_getElem?_getD, List.getElem?_eq_getElem ht] at this
  exact this
def WfPost (m : MachD) (ws : List Int) (w : World) (e : Ending) (w' : World) : Prop := ∃ b, e = .returned (.bool b) ∧ (b = true ↔ ¬ word m ws) ∧ Below w.heap.size w w'
set_option maxRecDepth 100000 in
set_option maxHeartbeats 1000000 in
theorem wfault_any (m : MachD) (ws : List Int) (F : Nat → Prop) (v wv : Value) (w : World) (hF : ∀ b, F b → b < w.heap.size) (h : MachIn F w v m) (hw : IntsIn .i64 F w wv ws) (g : Good m) :
    Calls Tryd.prog 15 #[v, wv] w (WfPost m ws w) := by
  obtain ⟨o, nx, rfl, ⟨Ao, co, rfl, ho1, ho⟩, ⟨An, cn, rfl, hn1, hn⟩⟩ := h
  have g1 := g.pos
  have g2 := g.le
  have g3 := g.ins1
  have g4 := g.ins3
  obtain ⟨bo, oo, rfl, hbo, hco⟩ := ho (by omega)
  have lo := hF bo hbo
  obtain ⟨r0, hr0, ⟨A0, c0, rfl, hm0, _, _⟩⟩ := hco 0 (by omega)
  have i0 : (rowAt m.out 0).length = ins m := rfl
  rw [i0] at hr0
  simp only [Nat.add_zero] at hr0
  obtain ⟨A5, c5, rfl, l5, hw5, k5⟩ := hw
  have K5 := hid k5
  unfold maxLen at l5
  have HF := hid hF
  clear ho hn hco ho1 hn1 g hm0 i0 hw5 k5 hF
  generalize hk : ins m = k at *
  have HK := hid hk
  clear hk
  go_enter Tryd.func15, Tryd.ntmps15
  go_wp2_with fail
  go_loopw [5] (fun iv wr => ∃ j : Nat, j ≤ ws.length ∧ iv = .int .i64 j ∧ Hid (∀ t, t < j → letter m (at0 ws t)) ∧ ∃ q, wr = (w.alloc (.cells #[.slice (some ⟨bo, oo, none⟩) m.out.length co, .slice An m.next.length cn] 24)).drewN q) (fun iv _ => ws.length - (intOf iv).toNat)
  case atStart => exact ⟨0, Nat.zero_le _, rfl, fun t ht => by omega, 0, rfl⟩
  case round =>
    obtain ⟨j, hj, rfl, hold, q, rfl⟩ := hrel
    by_cases hlt : j < ws.length
    · obtain ⟨b5, o5, rfl, hb5, k5⟩ := K5.out (by omega)
      have l55 := HF.out b5 hb5
      have cj := k5 j hlt
      clear k5
      obtain ⟨y, hy⟩ : ∃ y, y = at0 ws j := ⟨_, rfl⟩
      have cj2 : w.cell? ⟨b5, o5 + j, none⟩ = some (.int .i64 y) := by rw [hy]; exact cj
      have bad : Hid (¬ letter m y → ¬ word m ws) := fun h => not_word hlt (by rw [← hy]; exact h)
      have good : Hid (letter m y → ∀ t, t < j + 1 → letter m (at0 ws t)) := fun h t ht => by
        by_cases htj : t = j
        · subst htj; rw [← hy]; exact h
        · exact hold.out t (by omega)
      clear cj hy
      by_cases y0 : y < 0
      · go_wp2_with fail
        go_quiet (fail)
        go_wp2_with fail
        go_ret
        exact ⟨_, rfl, ⟨fun _ => bad.out fun h => by have := h.1; omega, fun _ => rfl⟩, below_drewN (below_drewN ((Below.refl _ _).alloc (Nat.le_refl _) _) _) _⟩
      · have e1 : decide (y < 0) = false := by simp; omega
        by_cases yk : (k : Int) ≤ y
        · go_wp2_with fail
          go_quiet (fail)
          go_wp2_with fail
          go_ret
          exact ⟨_, rfl, ⟨fun _ => bad.out fun h => by have := h.2; rw [HK.out] at this; omega, fun _ => rfl⟩, below_drewN (below_drewN ((Below.refl _ _).alloc (Nat.le_refl _) _) _) _⟩
        · have e2 : decide ((k : Int) ≤ y) = false := by simp; omega
          go_wp2_with fail
          go_quiet (fail)
          go_wp2_with fail
          go_roundw
          case rel => exact ⟨j + 1, by omega, by go_num, good.out ⟨by omega, by rw [HK.out]; omega⟩, _, rfl⟩
          case measure => simp [intOf]; omega
    · obtain rfl : j = ws.length := by omega
      have WW := hid (all_word hold.out)
      go_wp2_with fail
      go_ret
      exact ⟨_, rfl, ⟨fun h => by simp at h, fun h => absurd WW.out h⟩, below_drewN ((Below.refl _ _).alloc (Nat.le_refl _) _) _⟩
def GoPost (m : MachD) (s : Nat) (ws : List Int) (w : World) (e : Ending) (w' : World) : Prop := e = .returned (.int .i64 (goes m s ws : Nat)) ∧ Below w.heap.size w w'
theorem goes_take (m : MachD) (s : Nat) (ws : List Int) (j : Nat) (hj : j < ws.length) : goes m s (ws.take (j + 1)) = nextAt m (goes m s (ws.take j)) (at0 ws j) := by
  rw [List.take_succ_eq_append_getElem hj, goes_append]
  unfold at0
  rw [List.getD_eq_getElem?_getD, List.getElem?_eq_getElem hj]
  rfl
theorem word_take {m : MachD} {ws : List Int} (h : word m ws) (j : Nat) : word m (ws.take j) := fun x hx => h x (List.mem_of_mem_take hx)
set_option maxRecDepth 100000 in
set_option maxHeartbeats 1000000 in
theorem rgoes_ok (m : MachD) (s : Nat) (ws : List Int) (F : Nat → Prop) (v wv : Value) (w : World) (hF : ∀ b, F b → b < w.heap.size) (h : MachIn F w v m) (hw : IntsIn .i64 F w wv ws) (g : Good m) (hs : s < m.out.length) (hword : word m ws) :
    Calls Tryd.prog 17 #[v, .int .i64 s, wv] w (GoPost m s ws w) := by
  obtain ⟨o, nx, rfl, ⟨Ao, co, rfl, ho1, ho⟩, ⟨An, cn, rfl, hn1, hn⟩⟩ := h
  have g1 := g.pos
  have g2 := g.le
  obtain ⟨bn, on, rfl, hbn, hcn⟩ := hn (by rw [g.next]; omega)
  have ln := hF bn hbn
  have G := hid g
  have HN := hid hcn
  have HW := hid hword
  obtain ⟨A5, c5, rfl, l5, hw5, k5⟩ := hw
  have K5 := hid k5
  unfold maxLen at l5
  have HF := hid hF
  have HS := hid hs
  clear ho hn hcn ho1 hn1 g hw5 k5 hF hword hs
  go_enter Tryd.func17, Tryd.ntmps17
  go_wp2_with fail
  go_loopw [1, 7] (fun sv iv wr => ∃ j : Nat, j ≤ ws.length ∧ iv = .int .i64 j ∧ sv = .int .i64 (goes m s (ws.take j) : Nat) ∧ ∃ q, wr = (w.alloc (.cells #[.slice Ao m.out.length co, .slice (some ⟨bn, on, none⟩) m.next.length cn] 24)).drewN q) (fun _ iv _ => ws.length - (intOf iv).toNat)
  case atStart => exact ⟨0, Nat.zero_le _, rfl, rfl, 0, rfl⟩
  case round =>
    obtain ⟨j, hj, rfl, rfl, q, rfl⟩ := hrel
    by_cases hlt : j < ws.length
    · obtain ⟨b5, o5, rfl, hb5, k5⟩ := K5.out (by omega)
      have l55 := HF.out b5 hb5
      have cj : w.cell? ⟨b5, o5 + j, none⟩ = some (.int .i64 (at0 ws j)) := k5 j hlt
      have LT : letter m (at0 ws j) := HW.out _ (mem_at hlt)
      have SL : goes m s (ws.take j) < m.out.length := goes_lt G.out _ _ HS.out (word_take HW.out j)
      have NE := nextAt_eq G.out SL LT
      have NX := hid (goes_take m s ws j hlt)
      clear k5
      obtain ⟨y, hy⟩ : ∃ y : Nat, at0 ws j = (y : Int) := ⟨(at0 ws j).toNat, by have := LT.1; omega⟩
      rw [hy] at cj LT NE
      obtain ⟨z, hz⟩ : ∃ z : Nat, z = goes m s (ws.take j) := ⟨_, rfl⟩
      rw [← hz] at SL NE
      have z9 : z < m.next.length := by rw [G.out.next]; omega
      obtain ⟨rn, hrn, ⟨An2, cn2, rfl, ln2, _, kn2⟩⟩ := HN.out z (by rw [G.out.next]; omega)
      have rl := G.out.rowN z SL
      have yl : y < ins m := by have := LT.2; omega
      obtain ⟨b6, o6, rfl, hb6, k6⟩ := kn2 (by omega)
      have l6 := HF.out b6 hb6
      have c6 : w.cell? ⟨b6, o6 + y, none⟩ = some (.int .i64 (nextAt m z y : Nat)) := by
        rw [k6 y (by omega)]
        have : (rowAt m.next z).getD y 0 = at0 (rowAt m.next z) (y : Int).toNat := rfl
        rw [this, NE]
      have NX2 : Hid (goes m s (ws.take (j + 1)) = nextAt m z y) := by show _ = _; rw [NX.out, hy, hz]
      rw [rl] at hrn
      rw [← hz]
      clear hz hy NX kn2 k6 ln2 NE LT rl
      go_wp2_with fail
      go_quiet (fail)
      go_wp2_with fail
      go_roundw
      case rel => exact ⟨j + 1, by omega, by go_num, by rw [NX2.out], _, rfl⟩
      case measure => simp [intOf]; omega
    · obtain rfl : j = ws.length := by omega
      have E := hid (List.take_length (l := ws))
      go_wp2_with fail
      go_ret
      exact ⟨by rw [E.out]; rfl, below_drewN ((Below.refl _ _).alloc (Nat.le_refl _) _) _⟩
end Go.Proofs.YtfalbffpdgfepaaDoor
