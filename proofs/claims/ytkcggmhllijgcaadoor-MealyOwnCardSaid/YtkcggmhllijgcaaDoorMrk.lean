/- What the mark of a state is, in minim.Classes. Condition: the machine is right, and there is a class for each state. -/
import Derived.Test.YtkcggmhllijgcaaDoorSlc
import Derived.Deep.RegionHeld3
namespace Go.Proofs.YtkcggmhllijgcaaDoor
open Go.RowKit
theorem own_base' {w : World} {base : Nat} {e : TypeId} {size n : Nat} {v : Value} {xs : List Value} (h : w.ownsRow base e size v n xs) (hn : 0 < n) : base < w.heap.size := by
  obtain ⟨g, cap, _, hb, hl, _⟩ := own_open h hn
  omega
theorem own_lower {w : World} {base base' : Nat} {e : TypeId} {size n : Nat} {v : Value} {xs : List Value} (h : w.ownsRow base e size v n xs) (hb : base' ≤ base) : w.ownsRow base' e size v n xs := by
  refine ⟨h.1, ?_⟩
  rcases h.2 with ⟨rfl, h0⟩ | ⟨g, cap, cur, rfl, hg, hh⟩
  · exact .inl ⟨rfl, h0⟩
  · exact .inr ⟨g, cap, cur, rfl, by omega, hh⟩
def markL (m : MachD) (c : List Int) (i : Nat) : List Int := at0 c i :: (rowAt m.out i ++ (rowAt m.next i).map fun j => at0 c j.toNat)
def markTo (m : MachD) (c : List Int) (i j : Nat) : List Int := at0 c i :: (rowAt m.out i ++ ((rowAt m.next i).take j).map fun j => at0 c j.toNat)
theorem markTo_succ (m : MachD) (c : List Int) (i j : Nat) (h : j < (rowAt m.next i).length) : markTo m c i (j + 1) = markTo m c i j ++ [at0 c (at0 (rowAt m.next i) j).toNat] := by
  unfold markTo; rw [take_snoc _ _ h, List.map_append]; simp
theorem markTo_len (m : MachD) (c : List Int) (i j : Nat) (h : j ≤ (rowAt m.next i).length) : (markTo m c i j).length = 1 + (rowAt m.out i).length + j := by
  unfold markTo; simp [List.length_take]; omega
theorem markTo_all (m : MachD) (c : List Int) (i : Nat) : markTo m c i (rowAt m.next i).length = markL m c i := by
  unfold markTo markL; rw [List.take_length]
set_option maxRecDepth 100000 in
set_option maxHeartbeats 1000000 in
theorem mark_any (m : MachD) (c : List Int) (i : Nat) (F : Nat → Prop) (mv cv o nx : Value) (bc bm : Nat) (w : World) (hF : ∀ b, F b → b < w.heap.size) (hmv : mv = .agg #[o, nx]) (hm : MachIn F w mv m) (hc : IntsIn .i64 F w cv c)
    (hbc : w.heap[bc]? = some (.cells #[cv] 29 (0, 0))) (hbm : w.heap[bm]? = some (.cells #[o, nx] 24 (0, 0))) (g : Good m) (hcl : c.length = m.out.length) (hi : i < m.out.length) :
    Calls Tryd.prog 48 #[.int .i64 i, .pointer (some ⟨bc, 0, none⟩), .pointer (some ⟨bm, 0, none⟩)] w fun e w' => ∃ r, e = .returned r ∧ w'.ownsRow w.heap.size 3 1 r (markL m c i).length ((markL m c i).map (Value.int .i64)) ∧ Below w.heap.size w w' := by
  have HF := hid hF
  have HM := hid hm
  have HC := hid hc
  have G := hid g
  have HBC := hid hbc
  have HBM := hid hbm
  have lc := Has.lt hbc
  have lm := Has.lt hbm
  have x0 := Has.cell hbc 0
  have y0 := Has.cell hbm 0
  have y1 := Has.cell hbm 1
  simp at x0 y0 y1
  obtain ⟨o', nx', e, ⟨Ao, co, rfl, ho1, ho⟩, ⟨An, cn, rfl, hn1, hn⟩⟩ := hm
  subst hmv
  injection e with e
  have e1 := congrArg (fun a : Array Value => a[0]?) e
  have e2 := congrArg (fun a : Array Value => a[1]?) e
  simp at e1 e2
  subst e1 e2
  clear e
  have g1 := g.pos
  have g2 := g.le
  have g3 := g.next
  obtain ⟨bo, oo, rfl, hbo, hco⟩ := ho (by omega)
  obtain ⟨bn, on, rfl, hbn, hcn⟩ := hn (by omega)
  obtain ⟨r1, q1, i1⟩ := hco i hi
  obtain ⟨r2, q2, i2⟩ := hcn i (by omega)
  obtain ⟨Ac, cc, rfl, lc1, hcw, hcc⟩ := hc
  obtain ⟨b3, o3, rfl, hb3, hc3⟩ := hcc (by omega)
  have q3 : w.cell? ⟨b3, o3 + i, none⟩ = some (.int .i64 (at0 c i)) := hc3 i (by omega)
  have HC3 := hid hc3
  have I1 := hid i1
  have I2 := hid i2
  have WF := hid hcw
  obtain ⟨A1, c1, rfl, _, _, _⟩ := i1
  obtain ⟨A2, c2, rfl, _, _, k2⟩ := i2
  have K2 := hid k2
  have n1 := g.rowO i hi
  have n2 := g.rowN i hi
  have g4 := g.ins1
  have g5 := g.ins3
  have lo := hF bo hbo
  have ln := hF bn hbn
  have l3 := hF b3 hb3
  rw [n1] at q1
  rw [n2] at q2
  rw [hcl] at x0
  have HI := hid hi
  have HL := hid hcl
  have ii : (i : Int) < (m.out.length : Int) := by omega
  have ii2 : (i : Int) < (m.next.length : Int) := by omega
  have kk : (ins m : Int) ≤ 3 := by omega
  have XV : Hid ((Lit.int .i64 (at0 c i)).wf = true) := hcw _ (mem_at (by omega))
  clear hF hco hcn ho hn hcc hc3 hcw k2 g hbc hbm
  generalize hx : at0 c i = x at *
  have HX := hid hx
  clear hx
  go_enter Tryd.func48, Tryd.ntmps48
  have R1 : Hid (RowsIn (fun b => b < w.heap.size + 1 + 1) (((w.alloc (Obj.cells #[Value.int IntKind.i64 x] 3)).alloc (Obj.cells #[Value.slice (some { block := w.heap.size, off := 0 }) 1 1, Value.slice A1 (ins m) c1] 29)).drew) (.slice (some ⟨w.heap.size + 1, 0, none⟩) 2 2) [[x], rowAt m.out i]) := by
    refine rows2 (r0 := .slice (some ⟨w.heap.size, 0, none⟩) 1 1) (r1 := .slice A1 (ins m) c1) (by simp) (by simp [go_sem]) (by simp [go_sem]) (ints1 (by show w.heap.size < _; omega) (by simp [go_sem]) XV.out) ?_
    have I1' := I1.out
    rw [n1] at I1'
    exact (I1'.keep (fun b hb => (Below.heap_alloc _ _ _ (by have := HF.out b hb; simp; omega)).trans (Below.heap_alloc _ _ _ (HF.out b hb)))).more fun b hb => by have := HF.out b hb; omega
  go_upto_region 1 with fail
  go_region_held3 (fun w' => w'.cell? ⟨bc, 0, none⟩ = some (.slice (some ⟨b3, o3, none⟩) m.out.length cc) ∧ w'.cell? ⟨b3, o3 + i, none⟩ = some (.int .i64 x) ∧ w'.cell? ⟨bm, 0, none⟩ = some (.slice (some ⟨bo, oo, none⟩) m.out.length co) ∧ w'.cell? ⟨bo, oo + i, none⟩ = some (.slice A1 (ins m) c1))
    (first | go_keep | exact ⟨(B1.cell (p := ⟨bc, 0, none⟩) lc).trans x0, (B1.cell (p := ⟨b3, o3 + i, none⟩) l3).trans q3, (B1.cell (p := ⟨bm, 0, none⟩) lm).trans y0, (B1.cell (p := ⟨bo, oo + i, none⟩) lo).trans q1⟩)
    ((go_at_call 40; refine (concat_any [[x], rowAt m.out i] (fun b => b < w.heap.size + 1 + 1) _ _ (by intro b hb; simp; omega) R1.out (by simp; omega)).mono ?_; rintro e w1 ⟨r, rfl, hown, hb⟩; have B1 : Below w.heap.size w w1 := ((((Below.refl _ _).alloc (Nat.le_refl _) _).alloc (by simp) _).drew).trans (hb.mono (by simp; omega))))
  have O1a : (w1.ownsRow (w.heap.size + 1 + 1) 3 1 r (1 + ins m + 0) ((markTo m c i 0).map (Value.int .i64))) := by
    have e : markTo m c i 0 = [[x], rowAt m.out i].flatten := by unfold markTo; rw [HX.out]; simp
    rw [e]
    have e2 : ([[x], rowAt m.out i].flatten).length = 1 + ins m + 0 := by simp; omega
    rw [e2] at hown
    simpa using hown
  have O1 := hid O1a
  clear O1a
  have K1 : Hid (Below w.heap.size w w1) := B1
  have X1 := hid ((B1.cell (p := ⟨bc, 0, none⟩) lc).trans x0)
  have Y1 := (B1.cell (p := ⟨bm, 0, none⟩) lm).trans y0
  have Z1 := (B1.cell (p := ⟨bm, 1, none⟩) lm).trans y1
  have Q2 := (B1.cell (p := ⟨bn, on + i, none⟩) ln).trans q2
  have lw1 := B1.size
  clear hb B1 hown x0 y0 y1 q1 q2 q3
  obtain ⟨i0, hi0, hz0, hz1, hz2⟩ := info_parts infoInt
  go_wp2_with fail
  go_loopw [5, 26] (fun out t wr => ∃ j : Nat, j ≤ ins m ∧ t = .int .i64 j ∧ wr.ownsRow (w.heap.size + 1 + 1) 3 1 out (1 + ins m + j) ((markTo m c i j).map (Value.int .i64)) ∧ Hid (Below w.heap.size w wr)) (fun _ t _ => ins m - (intOf t).toNat)
  case atStart => exact ⟨0, Nat.zero_le _, rfl, O1.out, K1⟩
  case round =>
    obtain ⟨j, hj, rfl, hown, hB⟩ := hrel
    clear Y1 Z1 Q2
    by_cases hlt : j < ins m
    · obtain ⟨b4, o4, rfl, hb4, hc4⟩ := K2.out (by omega)
      have l4 := HF.out b4 hb4
      have p0 := hc4 j (by omega)
      have hgo := G.out.goes i HI.out j hlt
      obtain ⟨Y, hY⟩ : ∃ Y : Nat, at0 (rowAt m.next i) j = Y := ⟨(at0 (rowAt m.next i) j).toNat, by omega⟩
      have p1 : wr.cell? ⟨b4, o4 + j, none⟩ = some (.int .i64 (Y : Int)) := (hB.out.cell (p := ⟨b4, _, none⟩) l4).trans (by rw [← hY]; exact p0)
      have hYn : Y < m.out.length := by omega
      have p2 : wr.cell? ⟨b3, o3 + Y, none⟩ = some (.int .i64 (at0 c Y)) := (hB.out.cell (p := ⟨b3, _, none⟩) l3).trans (HC3.out Y (by rw [HL.out]; exact hYn))
      have p3 : wr.cell? ⟨bc, 0, none⟩ = some (.slice (some ⟨b3, o3, none⟩) m.out.length cc) := by
        have h1 := (hB.out.cell (p := ⟨bc, 0, none⟩) lc)
        have h2 := (K1.out.cell (p := ⟨bc, 0, none⟩) lc)
        exact h1.trans (h2.symm.trans X1.out)
      have E : Hid (markTo m c i (j + 1) = markTo m c i j ++ [at0 c Y]) := by
        show _ = _
        rw [markTo_succ m c i j (by omega), hY]; rfl
      have i4 : (j : Int) < (ins m : Int) := by omega
      have i5 : (Y : Int) < (m.out.length : Int) := by omega
      clear hc4 p0 hgo hY
      generalize at0 c Y = z at *
      go_wp2_with (at_builtin; refine wpList_append_own _ rfl _ _ 29 rfl (w.heap.size + 1 + 1) 3 i0 (.int .i64 0) 1 8 Tryd.underlying29 hi0 hz0 hz1 hz2 rfl (by decide) _ _ _ rfl (hown.alloc _) ⟨wr.heap.size, 0, none⟩ 1 1 [.int .i64 z] rfl rfl (one_at _ _ _) (one_int _ _) (by unfold maxLen; omega) (by omega) (by have := own_base' hown (by omega); simp; omega) ?_; intro v' w2 hown2 hgrow _; have B2 : Below w.heap.size wr w2 := ((Below.refl _ _).alloc hB.out.size _).grown hgrow (by have := hB.out.size; simp; omega) (fun k hk => by have := own_ge hown k hk; omega))
      go_roundw
      case rel => exact ⟨j + 1, by omega, by go_num, by rw [E.out, List.map_append]; exact hown2, hB.out.trans B2⟩
      case measure => simp [intOf]; omega
    · obtain rfl : j = ins m := by omega
      have E : markTo m c i (ins m) = markL m c i := by rw [← n2]; exact markTo_all m c i
      have E2 : (markL m c i).length = 1 + ins m + ins m := by rw [← E, markTo_len m c i _ (by omega), n1]
      rw [E] at hown
      have HO := hid hown
      have H2 := hid E2
      clear hown E E2
      go_wp2_with fail
      go_ret
      exact ⟨_, rfl, own_lower (by rw [H2.out]; exact HO.out) (by omega), hB.out⟩
end Go.Proofs.YtkcggmhllijgcaaDoor
