/- What flow.met returns: who is met, by its closure that calls itself. No conditions. -/
import Derived.Test.YtkiljnggphlomaaDoorFck
import Derived.Deep.RegionHeld3
import Derived.Deep.OwnRows
namespace Go.Proofs.YtkiljnggphlomaaDoor
open Go.RowKit
theorem infoBool : (Tryd.prog.info? 4).map (fun i => (i.zero, i.size, i.bytes)) = some (some (.bool false), 1, 1) := by kernel_rfl
def bls (o : List Bool) : Array Value := (o.map Value.bool).toArray
theorem bls_at {o : List Bool} {i : Nat} (hi : i < o.length) : (bls o)[i]? = some (.bool (bAt o i)) := by
  unfold bls bAt; simp [hi]
theorem bls_set (o : List Bool) (i : Nat) : (bls o).setIfInBounds i (.bool true) = bls (o.set i true) := by
  unfold bls; simp [List.map_set]
def VPtrs (gB gO gL gV : Nat) : Array Value := #[.pointer (some ⟨gB, 0, none⟩), .pointer (some ⟨gO, 0, none⟩), .pointer (some ⟨gL, 0, none⟩), .pointer (some ⟨gV, 0, none⟩)]
structure VisIn (F : Nat → Prop) (l : EdgeL) (n : Nat) (but : Int) (vl : Value) (gB gO gL gV ob : Nat) (w : World) : Prop where
  cB : w.cell? ⟨gB, 0, none⟩ = some (.int .i64 but)
  cO : w.cell? ⟨gO, 0, none⟩ = some (.slice (some ⟨ob, 0, none⟩) n n)
  cL : w.cell? ⟨gL, 0, none⟩ = some vl
  cV : w.cell? ⟨gV, 0, none⟩ = some (.func (Fn.func 71) #[] #[.pointer (some ⟨gB, 0, none⟩), .pointer (some ⟨gO, 0, none⟩), .pointer (some ⟨gL, 0, none⟩), .pointer (some ⟨gV, 0, none⟩)])
  edges : EdgesIn F w vl l
  lt : ∀ b, F b → b < w.heap.size
  ne : gB ≠ ob ∧ gO ≠ ob ∧ gL ≠ ob ∧ gV ≠ ob ∧ ∀ b, F b → b ≠ ob
theorem grown_cell {w w' : World} {ob g : Nat} {v : Value} (hg : w.grownBy w' (some ob)) (h : w.cell? ⟨g, 0, none⟩ = some v) (hn : g ≠ ob) : w'.cell? ⟨g, 0, none⟩ = some v :=
  (World.cell?_of_block (a := ⟨g, 0, none⟩) (show w'.heap[g]? = w.heap[g]? from hg.block g (cell_lt h) (by simpa using hn))).trans h
theorem grown_set (w : World) (g i : Nat) (u : Value) : w.grownBy (w.setCell ⟨g, i, none⟩ u) (some g) :=
  ⟨rfl, rfl, rfl, by simp, fun k _ hk => Below.heap_setCell w ⟨g, i, none⟩ u k (by simpa using hk)⟩
theorem VisIn.keep {F : Nat → Prop} {l : EdgeL} {n : Nat} {but : Int} {vl : Value} {gB gO gL gV ob : Nat} {w w' : World} (h : VisIn F l n but vl gB gO gL gV ob w) (hg : w.grownBy w' (some ob)) : VisIn F l n but vl gB gO gL gV ob w' where
  cB := grown_cell hg h.cB h.ne.1
  cO := grown_cell hg h.cO h.ne.2.1
  cL := grown_cell hg h.cL h.ne.2.2.1
  cV := grown_cell hg h.cV h.ne.2.2.2.1
  edges := h.edges.keep fun b hb => hg.block b (h.lt b hb) (by have := h.ne.2.2.2.2 b hb; simpa using this)
  lt := fun b hb => Nat.lt_of_lt_of_le (h.lt b hb) hg.size
  ne := h.ne
def VisOut (ob : Nat) (o : List Bool) (w : World) (e : Ending) (w' : World) : Prop :=
  e = .returned (.tuple #[]) ∧ w.grownBy w' (some ob) ∧ w'.heap[ob]? = some (.cells (bls o) 4 (0, 0))
def VisOk (F : Nat → Prop) (l : EdgeL) (n : Nat) (but : Int) (vl : Value) (gB gO gL gV ob : Nat) (f : Nat) : Prop :=
  ∀ (o : List Bool) (i : Nat) (w : World), VisIn F l n but vl gB gO gL gV ob w →
    w.heap[ob]? = some (.cells (bls o) 4 (0, 0)) → o.length = n → o.count false < f → i < n →
    Calls Tryd.prog 71 #[.int .i64 i, .pointer (some ⟨gB, 0, none⟩), .pointer (some ⟨gO, 0, none⟩), .pointer (some ⟨gL, 0, none⟩), .pointer (some ⟨gV, 0, none⟩)] w (VisOut ob (vis l but f o i) w)
set_option maxRecDepth 100000 in
set_option maxHeartbeats 2000000 in
theorem visit_step (F : Nat → Prop) (l : EdgeL) (n : Nat) (but : Int) (vl : Value) (gB gO gL gV ob : Nat) (hl : ∀ e ∈ l, 0 ≤ e.1 ∧ e.1 < n ∧ 0 ≤ e.2 ∧ e.2 < n) (h12 : n ≤ 12) (hlen : l.length ≤ 30) (f : Nat) (ih : VisOk F l n but vl gB gO gL gV ob f) : VisOk F l n but vl gB gO gL gV ob (f + 1) := by
    intro o i w hV hD hn hf hi
    have IH := hid ih
    have HV := hid hV
    have HD := hid hD
    have HL := hid hl
    have HN := hid hn
    have HF := hid hf
    have cB := hV.cB
    have cO := hV.cO
    have lob : ob < w.heap.size := Has.lt hD
    have i1 : (i : Int) < (n : Int) := by omega
    obtain ⟨x, hx⟩ : ∃ x, x = bAt o i := ⟨_, rfl⟩
    have cI : w.cell? ⟨ob, i, none⟩ = some (.bool x) := by rw [hx]; exact (Has.cell hD i).trans (bls_at (by omega))
    have fz : w.frozen? ⟨ob, i, none⟩ = false := Has.froz hD i
    have HX := hid hx
    clear ih hl hV hD hn hf hx
    by_cases hs : (i : Int) = but ∨ x = true
    · have E : vis l but (f + 1) o i = o := by
        unfold vis; rw [if_pos]; rw [Int.toNat_natCast, ← HX.out]; exact hs
      rw [E]
      clear E
      go_enter Tryd.func71, Tryd.ntmps71
      go_wp2_with fail
      all_goals first | (exfalso; simp_all; done) | skip
      all_goals ((try simp only [Exit.inBlock, Exit.then]); refine bodyPost_ret (results_none rfl _ _ _) rfl ?_)
      all_goals exact ⟨rfl, World.grownBy.refl _ _, HD.out⟩
    · have hb : (i : Int) ≠ but := fun e => hs (.inl e)
      obtain rfl : x = false := by cases x <;> simp_all
      have E : vis l but (f + 1) o i = l.foldl (fun o e => if e.1 = (i : Int) then vis l but f o e.2 else o) (o.set i true) := by
        conv => lhs; unfold vis
        rw [if_neg (by rw [Int.toNat_natCast, ← HX.out]; exact hs), Int.toNat_natCast]
      rw [E]
      clear E hs
      have hb1 : ((i : Int) == but) = false := by simp [hb]
      have FL := hid (set_falses o i HX.out.symm (by have := HN.out; omega))
      clear hb
      go_enter Tryd.func71, Tryd.ntmps71
      have D1 := hid ((Has.set HD.out i (.bool true)).trans (congrArg (fun a => some (Obj.cells a 4 (0, 0))) (bls_set o i)))
      have G1 : Hid (w.grownBy (w.setCell ⟨ob, i, none⟩ (.bool true)) (some ob)) := grown_set w ob i _
      obtain ⟨A, c, hvl, hc1, _, hcells⟩ := HV.out.edges
      subst hvl
      have HC := hid hcells
      have cL := HV.out.cL
      have nL := HV.out.ne.2.2.1
      have nL2 := nL.symm
      clear hcells
      go_wp2_with fail
      trace_state
      go_loopw [22] (fun iv wr => ∃ j : Nat, j ≤ l.length ∧ iv = .int .i64 j ∧ Hid (w.grownBy wr (some ob)) ∧ Hid (wr.heap[ob]? = some (.cells (bls ((l.take j).foldl (fun o e => if e.1 = (i : Int) then vis l but f o e.2 else o) (o.set i true))) 4 (0, 0)))) (fun iv _ => l.length - (intOf iv).toNat)
      case atStart => exact ⟨0, Nat.zero_le _, rfl, G1, D1⟩
      case round =>
        obtain ⟨j, hj, rfl, hG, hDj⟩ := hrel
        by_cases hlt : j < l.length
        · obtain ⟨b, off, rfl, hb, hc⟩ := HC.out (by omega)
          have lb := HV.out.lt b hb
          have nb := HV.out.ne.2.2.2.2 b hb
          have c1 := (hc j hlt).1
          have c2 := (hc j hlt).2
          have c3 := (World.cell?_of_block (a := ⟨b, off + j * 2, none⟩) (show wr.heap[b]? = w.heap[b]? from hG.out.block b lb (by simpa using nb))).trans c1
          have c4 := (World.cell?_of_block (a := ⟨b, off + j * 2 + 1, none⟩) (show wr.heap[b]? = w.heap[b]? from hG.out.block b lb (by simpa using nb))).trans c2
          have EM := HL.out _ (eAt_mem hlt)
          have ST : ∀ g : List Bool → Int × Int → List Bool, (l.take (j + 1)).foldl g (o.set i true) = g ((l.take j).foldl g (o.set i true)) (eAt l j) := fun g => by rw [take_eAt hlt, List.foldl_append]; rfl
          have ST' := hid ST
          generalize hx : eAt l j = ee at c3 c4 EM ST'
          obtain ⟨x, y⟩ := ee
          obtain ⟨_, _, y0, yn⟩ : 0 ≤ x ∧ x < n ∧ 0 ≤ y ∧ y < n := EM
          have i2 : (j : Int) < (l.length : Int) := by omega
          have HVr := hid (HV.out.keep hG.out)
          have cV := HVr.out.cV
          have sr := hG.out.size
          have lv : gV < wr.heap.size := cell_lt cV
          have G3 := hid (hG.out.trans (World.grownBy_alloc wr (.cells #[.int .i64 x, .int .i64 y] 32) (some ob)))
          clear hc c1 c2 hx ST
          by_cases hxi : x = (i : Int)
          · subst hxi
            obtain ⟨y, rfl⟩ : ∃ k : Nat, y = (k : Int) := ⟨y.toNat, by omega⟩
            have yn2 : y < n := by omega
            have VF := hid (vfold l but (fun e he => (HL.out e he).2.2.1) f (i : Int) (l.take j) (fun e he => (HL.out e (List.mem_of_mem_take he)).2.2.1) (o.set i true))
            have HV2 := hid (HVr.out.keep (World.grownBy_alloc wr (.cells #[.int .i64 i, .int .i64 y] 32) (some ob)))
            have D2 := hid (Has.alloc hDj.out (.cells #[.int .i64 i, .int .i64 y] 32))
            have LE := hid (VF.out.1.trans ((List.length_set ..).trans HN.out))
            have CT : Hid (((l.take j).foldl (fun o e => if e.1 = (i : Int) then vis l but f o e.2 else o) (o.set i true)).count false < f) := by
              have := VF.out.2; have := FL.out; have := HF.out; show _ < _; omega
            have i3 : (y : Int) < (n : Int) := by omega
            go_wp2_with fail
            refine (IH.out _ y _ HV2.out D2.out LE.out CT.out yn2).mono ?_
            rintro e w2 ⟨rfl, hg2, hd2⟩
            have G4 := hid (G3.out.trans hg2)
            have D4 : Hid (w2.heap[ob]? = some (.cells (bls ((l.take (j + 1)).foldl (fun o e => if e.1 = (i : Int) then vis l but f o e.2 else o) (o.set i true))) 4 (0, 0))) := by
              show _ = _
              rw [ST'.out, if_pos rfl]; exact hd2
            clear hg2 hd2
            go_wp2_with fail
            go_roundw
            case rel => exact ⟨j + 1, by omega, by go_num, G4, D4⟩
            case measure => simp [intOf]; omega
          · have hx1 : (x == (i : Int)) = false := by simp [hxi]
            have R : Hid (wr.heap[ob]? = some (.cells (bls ((l.take (j + 1)).foldl (fun o e => if e.1 = (i : Int) then vis l but f o e.2 else o) (o.set i true))) 4 (0, 0))) := by
              show _ = _
              rw [ST'.out, if_neg (show ¬ (x, y).1 = (i : Int) from hxi)]; exact hDj.out
            clear hxi
            go_wp2_with fail
            go_roundw
            case rel => exact ⟨j + 1, by omega, by go_num, G3, Has.alloc R.out _⟩
            case measure => simp [intOf]; omega
        · obtain rfl : j = l.length := by omega
          go_wp2_with fail
          go_end0
          refine ⟨rfl, hG.out, ?_⟩
          have := hDj.out
          rwa [List.take_length] at this
theorem visit_any (F : Nat → Prop) (l : EdgeL) (n : Nat) (but : Int) (vl : Value) (gB gO gL gV ob : Nat) (hl : ∀ e ∈ l, 0 ≤ e.1 ∧ e.1 < n ∧ 0 ≤ e.2 ∧ e.2 < n) (h12 : n ≤ 12) (hlen : l.length ≤ 30) (f : Nat) : VisOk F l n but vl gB gO gL gV ob f := by
  induction f with
  | zero => intro o i w _ _ _ hf; omega
  | succ f ih => exact visit_step F l n but vl gB gO gL gV ob hl h12 hlen f ih
theorem flow_good {n : Int} {l : EdgeL} (h : flowC n l = 0) : 1 ≤ n ∧ n ≤ 12 ∧ l.length ≤ 30 ∧ ∀ e ∈ l, 0 ≤ e.1 ∧ e.1 < n ∧ 0 ≤ e.2 ∧ e.2 < n := by
  unfold flowC at h
  split at h
  · cases h
  · split at h
    · cases h
    · rename_i h1 h2
      refine ⟨by omega, by omega, by omega, fun e he => ?_⟩
      unfold edgesC at h
      split at h
      · cases h
      · rename_i h3
        rw [Bool.not_eq_true, List.any_eq_false] at h3
        have := h3 e he
        simp at this
        omega
end Go.Proofs.YtkiljnggphlomaaDoor
