/- What learn.cloned returns; whether a tail is among tails (slices.ContainsFunc by Learn's closure). No conditions but bounds on rows. -/
import Derived.Test.YtkcggmhllijgcaaLqs
namespace Go.Proofs.Ytkcggmhllijgcaa
open Go.RowKit Go.Deep
theorem take_rowAt {l : List (List Int)} {j : Nat} (h : j < l.length) : l.take (j + 1) = l.take j ++ [rowAt l j] := by
  rw [List.take_succ_eq_append_getElem h]
  unfold rowAt
  rw [List.getD_eq_getElem?_getD, List.getElem?_eq_getElem h]; rfl
set_option maxRecDepth 100000 in
set_option maxHeartbeats 2000000 in
theorem cloned_any (ll : List (List Int)) (F : Nat → Prop) (v : Value) (w : World) (hF : ∀ b, F b → b < w.heap.size) (hv : RowsIn F w v ll) (hl : ll.length ≤ 1000) (hz : ∀ i, i < ll.length → (rowAt ll i).length ≤ 1000) :
    Calls Try.prog 24 #[v] w fun e w' => ∃ u, e = .returned u ∧ RowsIn (fun b => w.heap.size ≤ b ∧ b < w'.heap.size) w' u ll ∧ Below w.heap.size w w' := by
  have HF := hid hF
  have HZ := hid hz
  obtain ⟨i1, hi1, hy0, hy1, hy2⟩ := info_parts infoRowL
  obtain ⟨A, c, rfl, hc, h3⟩ := hv
  have H3 := hid h3
  unfold maxLen at hc
  clear hF hz h3
  go_enter Try.func24, Try.ntmps24
  go_wp2_with fail
  go_loopw [3, 8] (fun ov ji wr => ∃ j : Nat, j ≤ ll.length ∧ ji = .int .i64 j ∧ Hid (OutR w.heap.size ov (ll.take j) wr) ∧ Hid (Below w.heap.size w wr)) (fun _ ji _ => ll.length - (intOf ji).toNat)
  case atStart => exact ⟨0, Nat.zero_le _, rfl, OutR.nil_ _ _, Below.refl _ _⟩
  case round =>
    obtain ⟨j, hj, rfl, hO, hB⟩ := hrel
    have sB := hB.out.size
    obtain ⟨cs, ho1, ho2⟩ := hO.out
    have lj : (ll.take j).length = j := by rw [List.length_take]; omega
    have HO1 := hid ho1
    have HO2 := hid ho2
    rw [lj] at ho1
    obtain ⟨Ao, co, rfl, hco1, hco2⟩ := own_slL ho1
    by_cases hlt : j < ll.length
    · obtain ⟨b, o, rfl, hFb, hcc⟩ := H3.out (by omega)
      obtain ⟨rv, hr1, hr2⟩ := hcc j hlt
      have hb9 := HF.out b hFb
      have cr := (hB.out.cell (p := ⟨b, o + j, none⟩) hb9).trans hr1
      have IR := hid (hr2.keep (Same.of_below hB.out HF.out))
      obtain ⟨Ar, cpr, rfl, _, _, _⟩ := hr2
      have i1' : (j : Int) < (ll.length : Int) := by omega
      have RT := hid (take_rowAt hlt)
      have Z9 := HZ.out j hlt
      obtain ⟨q, hq⟩ : ∃ q, q = rowAt ll j := ⟨_, rfl⟩
      rw [← hq] at cr IR RT Z9
      obtain ⟨L, hL⟩ : ∃ L, q.length = L := ⟨_, rfl⟩
      have HL := hid hL
      rw [hL] at cr IR Z9
      clear hcc hr1 ho1 ho2 hq hL
      obtain ⟨wo, hwo⟩ : ∃ wo, wo = wr := ⟨_, rfl⟩
      subst hwo
      go_wp2_with fail
      refine (clone_any q F _ wo (fun b hb => by have := HF.out b hb; omega) IR.out (by rw [HL.out]; omega)).mono ?_
      rintro e w5 ⟨u5, rfl, ho5, _, hb5⟩
      rw [HL.out] at ho5
      have s5 := hb5.size
      have lo9 := hid (own_lt HO1.out)
      have WF : Hid (∀ z ∈ q, (Lit.int .i64 z).wf = true) := by obtain ⟨_, _, _, _, h, _⟩ := IR.out; exact h
      have O5 : Hid (w5.ownsRow w.heap.size 29 1 (.slice Ao j co) j cs) := by
        have := own_below HO1.out hb5
        rw [lj] at this; exact this
      have C5 : Hid (RowCells (fun b => w.heap.size ≤ b ∧ b < w5.heap.size ∧ (Value.slice Ao j co).ownBlock ≠ some b) w5 cs (ll.take j)) :=
        (HO2.out.keep fun b hb => hb5.block b hb.2.1).more fun b hb => ⟨hb.1, Nat.lt_of_lt_of_le hb.2.1 s5, hb.2.2⟩
      have I5 : Hid (IntsIn .i64 (fun b => w.heap.size ≤ b ∧ b < w5.heap.size ∧ (Value.slice Ao j co).ownBlock ≠ some b) w5 u5 q) :=
        (ints_of_own ho5 WF.out).more fun b hb => ⟨by omega, hb.2, fun e => by have := lo9.out b e; omega⟩
      have B5 := hid (hB.out.trans (hb5.mono sB))
      obtain ⟨A5, c5, rfl, _, _⟩ := own_slL ho5
      have OB := hid (O5.out.alloc (.cells #[.slice A5 L c5] 29))
      have C1 : Hid (CellsIn (fun b => b = w5.heap.size) (w5.alloc (.cells #[.slice A5 L c5] 29)) 1 (.slice (some ⟨w5.heap.size, 0, none⟩) 1 1) 1 [.slice A5 L c5]) := cells_one w5 _ _
      clear ho5 hb5 cr
      go_wp2_with (at_builtin; refine wpList_app _ rfl (.tmp 12) (.tmp 15) 22 rfl w.heap.size 29 i1 (.slice none 0 0) 1 24 Try.underlying22 hi1 hy0 hy1 hy2 rfl (by decide) (.slice Ao j co) j cs rfl (by exact OB.out) _ (.slice (some ⟨w5.heap.size, 0, none⟩) 1 1) 1 [.slice A5 L c5] rfl (by exact C1.out) (by intro u hu; simp at hu; subst hu; rfl) (by unfold maxLen; omega) (by omega) (by show w.heap.size ≤ (w5.alloc _).heap.size; simp; omega) ?_; intro v2 w2 hown2 hgrow2 hat2; have N2 : Hid (OutR w.heap.size v2 (ll.take (j + 1)) w2) := (by show OutR _ _ _ _; rw [RT.out]; exact OutR.app (by rw [lj]; exact O5.out) C5.out I5.out (by rw [lj]; exact hown2) hgrow2 hat2); have B2 : Hid (Below w.heap.size w w2) := (B5.out.alloc (by omega) _).grown hgrow2 (by show w.heap.size ≤ (w5.alloc _).heap.size; simp; omega) (own_ge O5.out); clear hown2 hgrow2 hat2)
      go_roundw
      case rel => exact ⟨j + 1, by omega, by go_num, N2, B2⟩
      case measure => simp [intOf]; omega
    · obtain rfl : j = ll.length := by omega
      rw [List.take_length] at hO
      have P := hid (hO.out.rows)
      clear ho1 ho2
      go_wp2_with fail
      go_ret
      exact ⟨_, rfl, P.out, hB.out⟩
theorem enter_l1 : ∀ (args : Array Value) (w : World), Sem.run Try.prog (callFunc 26 args) w = .ok (.enter 26 args) w := fun _ _ => by kernel_rfl
/-- Learn's closure: is a tail the one in a box -/
theorem l1_ask {T : List Int → List Int} {fid : FuncId} {caps : Array Value} {n : Nat} {r : Option Nat} {R : Nat → World → Prop} {B0 : Nat} (HT : TellsOk fid caps T n r R B0) (g : Nat) (tv : Value) (t : List Int) :
    AskW 26 #[.pointer (some ⟨g, 0, none⟩)] (fun x => decide (x = t)) (fun _ => True) r R 0 (fun w => w.heap[g]? = some (.cells #[tv] 29 (0, 0)) ∧ some g ≠ r ∧ IntsIn .i64 (Fx r w) w tv t) := by
  refine ⟨fun s w v h _ hI hR hh => ?_, fun w w' hI hg => ⟨(gr_block hg (Has.lt hI.1) hI.2.1).trans hI.1, hI.2.1, ints_gr hI.2.2 hg⟩, enter_l1⟩
  have HTT := hid HT
  have HI := hid hI
  have HR := hid hR
  have HH := hid hh
  have c0 := (Has.cell hI.1 0).trans rfl
  obtain ⟨A, c, rfl, _, _, _⟩ := hh
  obtain ⟨At, ct, rfl, _, _, _⟩ := hI.2.2
  clear HT hI hR
  show Calls Try.prog 26 #[.slice A h.length c, .pointer (some ⟨g, 0, none⟩)] w _
  go_enter Try.func26, Try.ntmps26
  go_wp2_with fail
  refine (equal_any h t (fun _ => True) _ _ w (HH.out.more fun _ _ => trivial) (HI.out.2.2.more fun _ _ => trivial)).mono ?_
  rintro e w2 ⟨rfl, q, rfl⟩
  have R2 : Hid (R (s + 0) (w.drewN q)) := HTT.out.keep _ _ _ HR.out fun _ _ => rfl
  go_wp2_with fail
  go_ret
  exact ⟨rfl, gr_below (below_drewN (Below.refl _ _) q) r, R2.out⟩
theorem rIx_mem (t : List Int) (l : List (List Int)) : decide (0 ≤ rIx (fun x => decide (x = t)) l) = decide (t ∈ l) := by
  rw [decide_eq_decide]
  rcases rIx_spec (fun x => decide (x = t)) l with ⟨h1, h2⟩ | ⟨i, h1, h2, h3, _⟩
  · rw [h1]
    refine ⟨fun h => by omega, fun h => ?_⟩
    obtain ⟨i, hi, he⟩ := mem_rowAt h
    have := of_decide_eq_false (h2 i hi)
    exact absurd he this
  · rw [h1]
    refine ⟨fun _ => ?_, fun _ => by omega⟩
    have := of_decide_eq_true h3
    rw [← this]; exact rowAt_mem h2
set_option maxRecDepth 100000 in
set_option maxHeartbeats 1000000 in
theorem cont_any {T : List Int → List Int} {fid : FuncId} {caps : Array Value} {n : Nat} {r : Option Nat} {R : Nat → World → Prop} {B0 : Nat} (HT : TellsOk fid caps T n r R B0) (l : List (List Int)) (v : Value) (g : Nat) (tv : Value) (t : List Int) (s : Nat) (w : World)
    (hv : RowsIn (Fx r w) w v l) (hI : w.heap[g]? = some (.cells #[tv] 29 (0, 0)) ∧ some g ≠ r ∧ IntsIn .i64 (Fx r w) w tv t) (hR : R s w) :
    Calls Try.prog 25 #[v, .func (Fn.func 26) #[] #[.pointer (some ⟨g, 0, none⟩)]] w fun e w' => e = .returned (.bool (decide (t ∈ l))) ∧ w.grownBy w' r ∧ R s w' := by
  have HTT := hid HT
  have HV := hid hv
  have HI := hid hI
  have HR := hid hR
  obtain ⟨A, c, rfl, _, _⟩ := hv
  clear HT hI hR
  go_enter Try.func25, Try.ntmps25
  go_wp2_with fail
  refine (ixw_any (l1_ask HTT.out g tv t) l (.slice A l.length c) s w HV.out (fun _ _ => trivial) HI.out HR.out).mono ?_
  rintro e w2 ⟨rfl, hg, s', h1, h2, h3⟩
  have G := hid hg
  obtain rfl : s' = s := by omega
  have R2 := hid h3
  have E := hid (rIx_mem t l)
  clear hg h1 h2 h3
  go_wp2_with fail
  go_ret
  exact ⟨by rw [← E.out]; rfl, G.out, R2.out⟩
end Go.Proofs.Ytkcggmhllijgcaa
