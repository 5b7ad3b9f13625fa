/- What mealy.Run returns, in a row of its own. Condition: the word takes at most 2^47 bytes. -/
import Derived.Test.YtkcggmhllijgcaaDoorLsi
import Derived.Test.YtkcggmhllijgcaaDoorRun
namespace Go.Proofs.YtkcggmhllijgcaaDoor
open Go.RowKit
def RunOwn (m : MachD) (s : Int) (ws : List Int) (w : World) (e : Ending) (w' : World) : Prop :=
  (runFault m s ws ≠ 0 → e = .returned (.tuple #[.slice none 0 0, .int .i64 0, .iface 33 (.int .i64 (runFault m s ws))])) ∧
  (runFault m s ws = 0 → ∃ v, e = .returned (.tuple #[v, .int .i64 (goes m s.toNat ws : Nat), .nilIface]) ∧ w'.ownsRow w.heap.size 3 1 v ws.length ((tells m s.toNat ws).map (Value.int .i64))) ∧ Below w.heap.size w w'
theorem RunOwn.err {m : MachD} {s : Int} {ws : List Int} {w w' : World} {c : Int} (hR : runFault m s ws = c) (hc : c ≠ 0) (hb : Below w.heap.size w w') : RunOwn m s ws w (.returned (.tuple #[.slice none 0 0, .int .i64 0, .iface 33 (.int .i64 c)])) w' :=
  ⟨fun _ => by rw [hR], fun h => absurd (hR.symm.trans h) hc, hb⟩
theorem RunOwn.ok {m : MachD} {S : Nat} {ws : List Int} {w w' : World} {v : Value} (hR : runFault m S ws = 0) (hi : w'.ownsRow w.heap.size 3 1 v ws.length ((tells m S ws).map (Value.int .i64))) (hb : Below w.heap.size w w') : RunOwn m S ws w (.returned (.tuple #[v, .int .i64 (goes m S ws : Nat), .nilIface])) w' :=
  ⟨fun h => absurd hR h, fun _ => ⟨v, rfl, hi⟩, hb⟩
set_option maxRecDepth 100000 in
set_option maxHeartbeats 1000000 in
theorem run_own (m : MachD) (s : Int) (ws : List Int) (F : Nat → Prop) (v u : Value) (w : World) (hF : ∀ b, F b → b < w.heap.size) (h : MachIn F w v m) (hu : IntsIn .i64 F w u ws) (hz : ws.length * 8 ≤ 140737488355328) :
    Calls Tryd.prog 14 #[v, .int .i64 s, u] w (RunOwn m s ws w) := by
  have H := hid h
  have HF := hid hF
  obtain ⟨o, nx, rfl, ⟨Ao, co, rfl, ho1, ho⟩, ⟨An, cn, rfl, hn1, hn⟩⟩ := h
  obtain ⟨Au, cu, rfl, hu1, huw, huc⟩ := hu
  have HZ := hid hz
  have HO := hid ho
  have HN := hid hn
  have HU := hid huc
  clear ho hn huc huw hF hz
  by_cases hg : chk m = 0
  · have G := hid (chk_good hg)
    have HG := hid hg
    obtain ⟨b1, b2⟩ : m.out.length ≤ 6 ∧ 1 ≤ m.out.length := ⟨G.out.le, G.out.pos⟩
    obtain ⟨bo, oo, rfl, hbo, hco⟩ := HO.out (by omega)
    obtain ⟨bn, on, rfl, hbn, hcn⟩ := HN.out (by have := G.out.next; omega)
    have HCO := hid hco
    have HCN := hid hcn
    clear hg hco hcn HO HN
    by_cases hs : s < 0 ∨ (m.out.length : Int) ≤ s
    · have R : Hid (runFault m s ws = 1) := by show runFault m s ws = 1; unfold runFault; rw [if_neg (by simp [HG.out]), if_pos (by omega)]
      have B : Hid (s < 0 ∨ (m.out.length : Int) ≤ s) := hs
      clear hs
      by_cases h0 : s < 0
      · go_enter Tryd.func14, Tryd.ntmps14
        go_wp2_with fail
        refine (chk_ok (F := F) (fun b hb => by have := HF.out b hb; simp; omega) (H.out.keep fun b hb => Below.heap_alloc _ _ _ (HF.out b hb)) G.out).mono ?_
        rintro e w1 ⟨rfl, hb⟩
        obtain ⟨hbw, hbox, hlt⟩ := box_below hb
        go_wp2_with fail
        go_ret3
        exact RunOwn.err R.out (by decide) hbw
      · have h1 : (m.out.length : Int) ≤ s := by have := B.out; omega
        have e1 : decide (s < 0) = false := by simp; omega
        go_enter Tryd.func14, Tryd.ntmps14
        go_wp2_with fail
        refine (chk_ok (F := F) (fun b hb => by have := HF.out b hb; simp; omega) (H.out.keep fun b hb => Below.heap_alloc _ _ _ (HF.out b hb)) G.out).mono ?_
        rintro e w1 ⟨rfl, hb⟩
        obtain ⟨hbw, hbox, hlt⟩ := box_below hb
        have cb := Has.cell hbox 0
        simp at cb
        go_wp2_with fail
        go_ret3
        exact RunOwn.err R.out (by decide) hbw
    · obtain ⟨S, rfl⟩ : ∃ S : Nat, s = S := ⟨s.toNat, by omega⟩
      have hS : S < m.out.length := by omega
      have e1 : decide ((S : Int) < 0) = false := by simp
      have e2 : decide ((m.out.length : Int) ≤ (S : Int)) = false := by simp; omega
      have e3 : decide (m.out.length ≤ S) = false := by simp; omega
      clear hs
      go_enter Tryd.func14, Tryd.ntmps14
      go_wp2_with fail
      refine (chk_ok (F := F) (fun b hb => by have := HF.out b hb; simp; omega) (H.out.keep fun b hb => Below.heap_alloc _ _ _ (HF.out b hb)) G.out).mono ?_
      rintro e w1 ⟨rfl, hb⟩
      obtain ⟨hbw, hbox, hlt⟩ := box_below hb
      have cb := Has.cell hbox 0
      simp at cb
      clear hb
      have c1 := Has.cell hbox 1
      simp at c1
      have hs1 := Has.lt hbox
      obtain ⟨i0, hi, hz0, hz1, hz2⟩ := info_parts infoInt
      have hl : ws.length ≤ 17592186044416 := by have := HZ.out; omega
      have HB := hid hbox
      clear hbox
      go_wp2_with fail
      go_loopw [1, 10, 30] (fun f out i wr => ∃ j : Nat, j ≤ ws.length ∧ i = .int .i64 j ∧ f = .int .i64 (goes m S (ws.take j) : Nat) ∧ Hid (word m (ws.take j)) ∧ wr.ownsRow (w.heap.size + 1) 3 1 out j ((tells m S (ws.take j)).map (Value.int .i64)) ∧ Hid (Below w.heap.size w wr) ∧ Hid (wr.heap[w.heap.size]? = w1.heap[w.heap.size]?)) (fun _ _ i _ => ws.length - (intOf i).toNat)
      case atStart => exact ⟨0, Nat.zero_le _, rfl, rfl, fun x hx => by simp at hx, World.ownsRow_nil _ _ _ _, hbw, rfl⟩
      case round =>
        obtain ⟨j, hj, rfl, rfl, hwd, hown, hB, hbx⟩ := hrel
        have hbox : wr.heap[w.heap.size]? = _ := hbx.out.trans HB.out
        have q0 := Has.cell hbox 0
        have q1 := Has.cell hbox 1
        simp at q0 q1
        have qs := Has.lt hbox
        clear cb c1 hbox
        by_cases hjl : j < ws.length
        · obtain ⟨bu, ou, rfl, hbu, hcu⟩ := HU.out (by omega)
          have lu := HF.out bu hbu
          have cu1 : wr.cell? ⟨bu, ou + j, none⟩ = some (.int .i64 (at0 ws j)) := (hB.out.cell (p := ⟨bu, ou + j, none⟩) lu).trans (hcu j hjl)
          clear hcu
          have lo := HF.out bo hbo
          have ln := HF.out bn hbn
          obtain ⟨r0, hr0, ⟨A0, c0, rfl, hm0, _, _⟩⟩ := HCO.out 0 (by omega)
          simp only [Nat.add_zero] at hr0
          have hr0' : wr.cell? ⟨bo, oo, none⟩ = some (.slice A0 (rowAt m.out 0).length c0) := (hB.out.cell (p := ⟨bo, oo, none⟩) lo).trans hr0
          clear hr0
          have hins : ((rowAt m.out 0).length : Int) ≤ 3 := by have := G.out.ins3; unfold ins at this; omega
          have HT := hid (take_snoc ws j hjl)
          obtain ⟨x, hx⟩ : ∃ x, x = at0 ws j := ⟨_, rfl⟩
          rw [← hx] at cu1
          by_cases hxl : letter m x
          · obtain ⟨x0, x3⟩ := hxl
            obtain ⟨X, rfl⟩ : ∃ X : Nat, x = X := ⟨x.toNat, by omega⟩
            have xi : X < (rowAt m.out 0).length := by unfold ins at x3; omega
            have g1 := goes_lt G.out (ws.take j) S hS hwd.out
            obtain ⟨ro, hro, ⟨Ao', co', rfl, _, hwo, hco'⟩⟩ := HCO.out _ g1
            obtain ⟨rn, hrn, ⟨An', cn', rfl, _, _, hcn'⟩⟩ := HCN.out (goes m S (ws.take j)) (by rw [G.out.next]; exact g1)
            have o1 := G.out.rowO _ g1
            have n1 := G.out.rowN _ g1
            rw [o1] at hro hco'
            rw [n1] at hrn hcn'
            have xi2 : X < ins m := xi
            obtain ⟨b3, o3, rfl, hb3, hc3⟩ := hco' (by omega)
            obtain ⟨b4, o4, rfl, hb4, hc4⟩ := hcn' (by omega)
            have k1 : wr.cell? ⟨bo, oo + goes m S (ws.take j), none⟩ = some (.slice (some ⟨b3, o3, none⟩) (ins m) co') := (hB.out.cell (p := ⟨bo, _, none⟩) lo).trans hro
            have k2 : wr.cell? ⟨bn, on + goes m S (ws.take j), none⟩ = some (.slice (some ⟨b4, o4, none⟩) (ins m) cn') := (hB.out.cell (p := ⟨bn, _, none⟩) ln).trans hrn
            have l3 := HF.out b3 hb3
            have l4 := HF.out b4 hb4
            have k3 : wr.cell? ⟨b3, o3 + X, none⟩ = some (.int .i64 (outAt m (goes m S (ws.take j)) X)) := (hB.out.cell (p := ⟨b3, _, none⟩) l3).trans (hc3 X xi2)
            have k4 : wr.cell? ⟨b4, o4 + X, none⟩ = some (.int .i64 (nextAt m (goes m S (ws.take j)) X : Nat)) := (hB.out.cell (p := ⟨b4, _, none⟩) l4).trans (by rw [hc4 X xi2]; congr 2; exact nextAt_eq G.out g1 (x := (X : Int)) ⟨by omega, by omega⟩)
            have t1 : Hid (ws.take (j + 1) = ws.take j ++ [(X : Int)]) := by rw [hx]; exact HT.out
            have gn : (goes m S (ws.take j) : Int) < (m.out.length : Int) := by omega
            have nn := G.out.next
            have gn2 : (goes m S (ws.take j) : Int) < (m.next.length : Int) := by omega
            have xi3 : (X : Int) < (ins m : Int) := by omega
            have e4 : decide ((X : Int) < 0) = false := by simp
            have e5 : decide ((rowAt m.out 0).length ≤ X) = false := by simp; omega
            have r1 : Hid (goes m S (ws.take (j + 1)) = nextAt m (goes m S (ws.take j)) X) := by rw [t1.out]; exact goes_snoc m S _ _
            have r2 : Hid ((tells m S (ws.take (j + 1))).map (Value.int .i64) = (tells m S (ws.take j)).map (Value.int .i64) ++ [Value.int .i64 (outAt m (goes m S (ws.take j)) X)]) := by show _ = _; rw [t1.out, tells_snoc, List.map_append]; rfl
            have r3 : Hid (word m (ws.take (j + 1))) := by
              rw [t1.out]; intro y hy
              rcases List.mem_append.1 hy with hy | hy
              · exact hwd.out y hy
              · simp at hy; subst hy; exact ⟨by omega, by omega⟩
            clear hro hrn hc3 hc4 hco' hcn' hx o1 n1 nn
            generalize hgs : goes m S (ws.take j) = gs at *
            generalize ho : outAt m gs X = ox at *
            generalize hnx : nextAt m gs X = nxs at *
            clear hgs ho hnx
            go_wp2_with (at_builtin; refine wpList_append_own _ rfl _ _ 29 rfl (w.heap.size + 1) 3 i0 (.int .i64 0) 1 8 Tryd.underlying29 hi hz0 hz1 hz2 rfl (by decide) _ _ _ rfl (hown.alloc _) ⟨wr.heap.size, 0, none⟩ 1 1 [.int .i64 ox] rfl rfl (one_at _ _ _) (one_int _ _) (by unfold maxLen; omega) (by omega) (by have := hB.out.size; simp; omega) ?_; intro v' w2 hown2 hgrow _; have hbw2 : Below (w.heap.size + 1) wr w2 := ((Below.refl _ _).alloc (by omega) _).grown hgrow (by simp; omega) (own_ge hown); have y1 := (hbw2.cell (p := ⟨w.heap.size, 1, none⟩) (by simp)).trans q1; have y2 := (hbw2.cell (p := ⟨bn, on + gs, none⟩) (by simp; omega)).trans k2; have y4 := (hbw2.cell (p := ⟨b4, o4 + X, none⟩) (by simp; omega)).trans k4; have y5 := hbw2.size; clear q0 q1 k1 k2 k3 k4 cu1 hr0' hgrow)
            go_roundw
            case rel => exact ⟨j + 1, by omega, by go_num, by rw [r1.out], r3, by rw [r2.out]; exact hown2, hB.out.trans (hbw2.mono (by omega)), (hbw2.block _ (by omega)).trans hbx.out⟩
            case measure => simp [intOf]; omega
          · have R : Hid (runFault m S ws = 1) := by
              show runFault m S ws = 1
              unfold runFault
              rw [if_neg (by simp [HG.out]), if_pos]
              right; right
              intro hh
              exact hxl (by rw [hx]; exact hh _ (mem_at hjl))
            have hxl2 : Hid (¬ (0 ≤ x ∧ x < ((rowAt m.out 0).length : Int))) := hxl
            clear hxl hx
            have hend : Hid (Below w.heap.size w wr) := hB
            by_cases x0 : x < 0
            · go_wp2_with fail
              go_ret3
              exact RunOwn.err R.out (by decide) hend.out
            · have e4 : decide (x < 0) = false := by simp; omega
              have x1 : ((rowAt m.out 0).length : Int) ≤ x := by have := hxl2.out; omega
              go_wp2_with fail
              go_ret3
              exact RunOwn.err R.out (by decide) hend.out
        · obtain rfl : j = ws.length := by omega
          have hwd2 := hwd.out
          rw [List.take_length] at hwd2
          have R : Hid (runFault m S ws = 0) := by
            show runFault m S ws = 0
            unfold runFault
            rw [if_neg (by simp [HG.out]), if_neg]
            have : ∀ x ∈ ws, 0 ≤ x ∧ x < (ins m : Int) := hwd2
            simp only [not_or, Decidable.not_not]
            exact ⟨by omega, by omega, this⟩
          rw [List.take_length] at *
          have HI := hid (own_base hown (base' := w.heap.size) (by omega))
          clear hwd2 hown
          go_wp2_with fail
          go_ret3
          exact RunOwn.ok R.out HI.out hB.out
  · have R : Hid (runFault m s ws = chk m) := by show runFault m s ws = chk m; unfold runFault; rw [if_pos hg]
    have HG := hid hg
    clear hg
    go_enter Tryd.func14, Tryd.ntmps14
    go_wp2_with fail
    refine (chk_bad (F := F) (fun b hb => by have := HF.out b hb; simp; omega) (H.out.keep fun b hb => Below.heap_alloc _ _ _ (HF.out b hb)) HG.out).mono ?_
    rintro e w1 ⟨rfl, hb⟩
    obtain ⟨hbw, hbox, hlt⟩ := box_below hb
    go_wp2_with fail
    go_ret3
    exact RunOwn.err R.out HG.out hbw
end Go.Proofs.YtkcggmhllijgcaaDoor
