/- What the reference's Tells returns of a right word: what the machine tells. Condition: the word takes at most 2^47 bytes. -/
import Derived.Test.YtfalbffpdgfepaaDoorRwg
import Derived.Test.YtfalbffpdgfepaaDoorLsi
import Derived.Deep.OwnRows
import Derived.Deep.LoopGhost
import Derived.Deep.RegionLaw
import Derived.Deep.CutRange
namespace Go.Proofs.YtfalbffpdgfepaaDoor
open Go.RowKit Go.Deep
theorem ints_take {k : IntKind} {F : Nat → Prop} {w : World} {A : Option Addr} {c : Nat} {zs : List Int} (h : IntsIn k F w (.slice A zs.length c) zs) {j : Nat} (hj : j ≤ zs.length) : IntsIn k F w (.slice A j c) (zs.take j) := by
  obtain ⟨A', c', e, hc, hw, hz⟩ := h
  injection e with e1 _ e3
  subst e1 e3
  have hl : (zs.take j).length = j := by simp; omega
  refine ⟨A, c, by rw [hl], ⟨by omega, hc.2⟩, fun z hz' => hw z (List.mem_of_mem_take hz'), fun h0 => ?_⟩
  obtain ⟨b, off, h1, h2, h3⟩ := hz (by omega)
  refine ⟨b, off, h1, h2, fun i hi => ?_⟩
  rw [h3 i (by omega)]
  congr 2
  rw [List.getD_eq_getElem?_getD, List.getD_eq_getElem?_getD, List.getElem?_take, if_pos (by omega)]
theorem tells_take (m : MachD) (s : Nat) (ws : List Int) (j : Nat) (hj : j < ws.length) : tells m s (ws.take (j + 1)) = tells m s (ws.take j) ++ [outAt m (goes m s (ws.take j)) (at0 ws j)] := by
  rw [take_snoc ws j hj]; exact tells_snoc m s _ _
def TePost (m : MachD) (s : Nat) (ws : List Int) (w : World) (e : Ending) (w' : World) : Prop := ∃ r, e = .returned r ∧ IntsIn .i64 (Fresh w w') w' r (tells m s ws) ∧ Below w.heap.size w w'
set_option maxRecDepth 100000 in
set_option maxHeartbeats 2000000 in
theorem rtells_ok (m : MachD) (s : Nat) (ws : List Int) (F : Nat → Prop) (v wv : Value) (w : World) (hF : ∀ b, F b → b < w.heap.size) (h : MachIn F w v m) (hw : IntsIn .i64 F w wv ws) (g : Good m) (hs : s < m.out.length) (hword : word m ws) (hz : ws.length * 8 ≤ 140737488355328) :
    Calls Tryd.prog 16 #[v, .int .i64 s, wv] w (TePost m s ws w) := by
  have HM := hid h
  have HWI := hid hw
  obtain ⟨o, nx, rfl, ⟨Ao, co, rfl, ho1, ho⟩, ⟨An, cn, rfl, hn1, hn⟩⟩ := h
  have g1 := g.pos
  have g2 := g.le
  obtain ⟨bo, oo, rfl, hbo, hco⟩ := ho (by omega)
  have lo := hF bo hbo
  have G := hid g
  have HO := hid hco
  have HW := hid hword
  obtain ⟨A5, c5, rfl, l5, hw5, k5⟩ := hw
  have K5 := hid k5
  unfold maxLen at l5
  have HF := hid hF
  have HS := hid hs
  have HZ := hid hz
  obtain ⟨i0, hi, hz0, hz1, hz2⟩ := info_parts infoInt
  clear ho hn hco ho1 hn1 g hw5 k5 hF hword hs
  go_enter Tryd.func16, Tryd.ntmps16
  go_wp2_with fail
  go_loopw [7, 8] (fun lv iv wr => ∃ j : Nat, j ≤ ws.length ∧ iv = .int .i64 j ∧ wr.ownsRow (w.heap.size + 1) 3 1 lv j ((tells m s (ws.take j)).map (Value.int .i64)) ∧ Hid (Below w.heap.size w wr) ∧ Hid (wr.heap[w.heap.size]? = some (.cells #[.slice (some ⟨bo, oo, none⟩) m.out.length co, .slice An m.next.length cn] 24 (0, 0)))) (fun _ iv _ => ws.length - (intOf iv).toNat)
  case atStart => exact ⟨0, Nat.zero_le _, rfl, World.ownsRow_nil _ _ _ _, (Below.refl _ _).alloc (Nat.le_refl _) _, Has.new w _⟩
  case round =>
    obtain ⟨j, hj, rfl, hown, hB, hX⟩ := hrel
    obtain ⟨wi, rfl⟩ : ∃ wi : World, wi = wr := ⟨_, rfl⟩
    have sB := hB.out.size
    have lX := Has.lt hX.out
    by_cases hlt : j < ws.length
    · obtain ⟨b5, o5, rfl, hb5, k5⟩ := K5.out (by omega)
      have l55 := HF.out b5 hb5
      have LT : letter m (at0 ws j) := HW.out _ (mem_at hlt)
      have SL : goes m s (ws.take j) < m.out.length := goes_lt G.out _ _ HS.out (word_take HW.out j)
      have NX := hid (tells_take m s ws j hlt)
      obtain ⟨y, hy⟩ : ∃ y : Nat, at0 ws j = (y : Int) := ⟨(at0 ws j).toNat, by have := LT.1; omega⟩
      have cj : w.cell? ⟨b5, o5 + j, none⟩ = some (.int .i64 y) := by rw [← hy]; exact k5 j hlt
      rw [hy] at LT
      obtain ⟨z, hz2⟩ : ∃ z : Nat, z = goes m s (ws.take j) := ⟨_, rfl⟩
      have HZ2 := hid hz2
      rw [← hz2] at SL
      obtain ⟨rn, hrn, ⟨An2, cn2, rfl, ln2, _, kn2⟩⟩ := HO.out z SL
      have rl := G.out.rowO z SL
      have yl : y < ins m := by have := LT.2; omega
      obtain ⟨b6, o6, rfl, hb6, k6⟩ := kn2 (by omega)
      have l6 := HF.out b6 hb6
      have c6 : w.cell? ⟨b6, o6 + y, none⟩ = some (.int .i64 (outAt m z y)) := k6 y (by omega)
      rw [rl] at hrn
      have C0 : Hid (wi.cell? ⟨w.heap.size, 0, none⟩ = some (.slice (some ⟨bo, oo, none⟩) m.out.length co)) := by have := Has.cell hX.out 0; simp at this; exact this
      have C1 : Hid (wi.cell? ⟨w.heap.size, 1, none⟩ = some (.slice An m.next.length cn)) := by have := Has.cell hX.out 1; simp at this; exact this
      have q1 := hid ((hB.out.cell (p := ⟨b5, o5 + j, none⟩) l55).trans cj)
      have q2 := hid ((hB.out.cell (p := ⟨bo, oo + z, none⟩) lo).trans hrn)
      have q3 := hid ((hB.out.cell (p := ⟨b6, o6 + y, none⟩) l6).trans c6)
      have NX2 : Hid ((tells m s (ws.take (j + 1))).map (Value.int .i64) = (tells m s (ws.take j)).map (Value.int .i64) ++ [Value.int .i64 (outAt m z y)]) := by show _ = _; rw [NX.out, hy, ← hz2, List.map_append]; rfl
      have TK := hid ((HWI.out.keep (Same.of_below hB.out HF.out)))
      have MI := hid ((HM.out.keep (Same.of_below hB.out HF.out)))
      have n5 : ¬ c5 = 0 := by omega
      have n6 : (j : Int) ≤ (c5 : Int) := by omega
      have p0 := C0.out
      have p1 := C1.out
      have r1 := q1.out
      have r2 := q2.out
      have r3 := q3.out
      have zz : goes m s (ws.take j) = z := hz2.symm
      have ZZ := hid zz
      have OW := hid hown
      clear hz2 hy NX kn2 k6 ln2 LT rl cj hrn c6 k5 zz
      go_wp2_with fail
      go_upto_region 5 with fail
      go_region_law (first
        | (go_simp; go_at_call 17; refine (rgoes_ok m s (ws.take j) F _ _ wi.drew (fun b hb => by have := HF.out b hb; simp; omega) (MI.out.keep (w' := wi.drew) fun _ _ => rfl) (ints_take (TK.out.keep (w' := wi.drew) fun _ _ => rfl) hj) G.out HS.out (word_take HW.out j)).mono ?_; rintro e w4 ⟨rfl, hb4⟩; rw [ZZ.out]; have B4 := hid ((hB.out.drew).trans (hb4.mono (by simp; omega))); have X4 := hid (Has.below (w := wi.drew) hX.out hb4 (by simp; omega)); have OW4 := hid (own_below (w := wi.drew) (OW.out : (wi.drew).ownsRow _ _ _ _ _ _) hb4); have p4 := Has.cell X4.out 0; have t1 := (hb4.cell (p := ⟨b5, o5 + j, none⟩) (by simp; omega)).trans q1.out; have t2 := (hb4.cell (p := ⟨bo, oo + z, none⟩) (by simp; omega)).trans q2.out; have t3 := (hb4.cell (p := ⟨b6, o6 + y, none⟩) (by simp; omega)).trans q3.out; have s4 := hb4.size; simp at p4 s4; clear hb4)
        | (refine step_app _ (by rfl) (.tmp 15) (.tmp 32) 25 (by rfl) (w.heap.size + 1) 3 i0 (.int .i64 0) 1 8 Tryd.underlying25 hi hz0 hz1 hz2 rfl (by decide) u7 j ((tells m s (ws.take j)).map (Value.int .i64)) (by rfl) (OW4.out.alloc _) _ _ 1 [.int .i64 (outAt m z y)] (by rfl) (cells_one _ _ _) (one_int _ _) (by unfold maxLen; omega) (by omega) (by simp; omega) ?_; intro v5 w5 hown5 hgrow5 hat5))
      all_goals
        go_wp2_with fail
        go_roundw
        case rel => exact ⟨j + 1, by omega, by go_num, by rw [NX2.out]; exact hown5, (B4.out.alloc (by omega) _).grown hgrow5 (by simp; omega) (fun k hk => by have := own_ge OW4.out k hk; omega), Has.grown (Has.alloc X4.out _) hgrow5 (fun e => by have := own_ge OW4.out _ e.symm; omega)⟩
        case measure => simp [intOf]; omega
    · obtain rfl : j = ws.length := by omega
      have E := hid (List.take_length (l := ws))
      have OO := hid hown
      have R : Hid (IntsIn .i64 (Fresh w wi) wi u7 (tells m s ws)) := by
        have h1 := OO.out
        rw [E.out] at h1
        have ho2 := ints_of_own h1 (tells_wf G.out (HM.out.wf) ws s HS.out HW.out)
        exact ho2.more fun b hb => ⟨by have := hb.1; omega, hb.2⟩
      clear hown
      go_wp2_with fail
      go_ret
      exact ⟨_, rfl, R.out, hB.out⟩
end Go.Proofs.YtfalbffpdgfepaaDoor
