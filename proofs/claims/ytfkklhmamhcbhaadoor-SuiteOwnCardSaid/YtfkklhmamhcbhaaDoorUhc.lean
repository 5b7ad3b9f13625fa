/- hit.Check: what is wrong with sets. No conditions. -/
import Derived.Test.YtfkklhmamhcbhaaDoorUhm
import Derived.Test.YtfkklhmamhcbhaaDoorErv
namespace Go.Proofs.YtfkklhmamhcbhaaDoor
open Go.RowKit Go.Deep
theorem nwf {l : List Nat} {F : Nat → Prop} {w : World} {v : Value} (h : IntsIn .u32 F w v (ofN l)) : ∀ x ∈ l, x < 4294967296 := by
  obtain ⟨_, _, _, _, hw, _⟩ := h
  intro x hx
  have := hw (x : Int) (ofN_mem.2 ⟨x, hx, rfl⟩)
  simp [Lit.wf, IntKind.min, IntKind.max, IntKind.signed, IntKind.bits] at this
  omega
theorem getD_mem {l : List Nat} {j : Nat} (hj : j < l.length) : l.getD j 0 ∈ l := by
  rw [List.getD_eq_getElem?_getD, List.getElem?_eq_getElem hj]; exact List.getElem_mem _
theorem shr12 (s : Nat) (h : s < 4294967296) : ((s : Int) / 4096 = 0) ↔ s < 4096 := by omega
set_option maxRecDepth 100000 in
set_option maxHeartbeats 400000 in
theorem hcheck_any (l : List Nat) (F : Nat → Prop) (v : Value) (w : World) (hv : IntsIn .u32 F w v (ofN l)) :
    Calls Tryd.prog 16 #[v] w fun e w' => e = .returned (errV (hitC l)) ∧ w' = w := by
  have NW := hid (nwf hv)
  obtain ⟨A, c, rfl, ⟨h1, h2⟩, _, h3⟩ := hv
  rw [ofN_len] at h1 h3 ⊢
  have H3 := hid h3
  unfold maxLen at h2
  clear h3
  by_cases hl : 20 < l.length
  · have E : Hid (hitC l = 4) := by show _ = _; unfold hitC; rw [if_pos hl]
    have i1 : ((l.length : Int) > 20) := by omega
    go_enter Tryd.func16, Tryd.ntmps16
    go_wp2_with fail
    go_ret
    exact ⟨by rw [E.out, errV_no (by decide)]; rfl, rfl⟩
  · have i1 : ¬ ((l.length : Int) > 20) := by omega
    go_enter Tryd.func16, Tryd.ntmps16
    go_wp2_with fail
    go_loopw [11] (fun iv wr => ∃ j : Nat, j ≤ l.length ∧ iv = .int .i64 j ∧ wr = w ∧ Hid (∀ k, k < j → l.getD k 0 < 4096)) (fun iv _ => l.length - (intOf iv).toNat)
    case atStart => exact ⟨0, Nat.zero_le _, rfl, rfl, fun k hk => by omega⟩
    case round =>
      obtain ⟨j, hj, rfl, rfl, hold⟩ := hrel
      by_cases hlt : j < l.length
      · obtain ⟨b, o, rfl, hb, hc⟩ := H3.out (by omega)
        have c1 := hc j hlt
        rw [show (ofN l).getD j 0 = ((l.getD j 0 : Nat) : Int) from ofN_at l j] at c1
        have i2 : (j : Int) < (l.length : Int) := by omega
        have MJ := hid (getD_mem hlt)
        have SJ := NW.out _ (getD_mem hlt)
        clear hc
        generalize hs : l.getD j 0 = s at c1 SJ MJ
        have HS := hid hs
        clear hs
        by_cases hq : s < 4096
        · have q1 : (s : Int) / 4096 = 0 := by omega
          have N : Hid (∀ k, k < j + 1 → l.getD k 0 < 4096) := fun k hk => by
            by_cases hkj : k = j
            · subst hkj; rw [HS.out]; exact hq
            · exact hold.out k (by omega)
          go_wp2_with fail
          go_roundw
          case rel => exact ⟨j + 1, by omega, by go_num, trivial, N⟩
          case measure => simp [intOf]; omega
        · have q1 : ¬ (s : Int) / 4096 = 0 := by omega
          have E : Hid (hitC l = 1) := by
            show _ = _
            unfold hitC
            rw [if_neg hl, if_neg]
            intro h
            rw [List.all_eq_true] at h
            have := h _ MJ.out
            simp at this
            omega
          go_wp2_with fail
          go_ret
          exact ⟨by rw [E.out, errV_no (by decide)]; rfl, rfl⟩
      · obtain rfl : j = l.length := by omega
        have E : Hid (hitC l = 0) := by
          show _ = _
          unfold hitC
          rw [if_neg hl, if_pos]
          rw [List.all_eq_true]
          intro x hx
          obtain ⟨k, hk, rfl⟩ := List.getElem_of_mem hx
          have := hold.out k hk
          rw [List.getD_eq_getElem?_getD, List.getElem?_eq_getElem hk] at this
          simpa using this
        go_wp2_with fail
        go_ret
        exact ⟨by rw [E.out, errV_0]; rfl, rfl⟩
end Go.Proofs.YtfkklhmamhcbhaaDoor
