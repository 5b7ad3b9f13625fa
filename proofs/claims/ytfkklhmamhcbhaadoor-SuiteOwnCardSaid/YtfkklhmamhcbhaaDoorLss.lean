/- The document's LeastSets: of right sets just what hit.Least tells. No conditions but the sets' size. -/
import Derived.Test.YtfkklhmamhcbhaaDoorUna
import Derived.Test.YtfkklhmamhcbhaaDoorStc
namespace Go.Proofs.YtfkklhmamhcbhaaDoor
open Go.RowKit Go.Deep
def thereP (l : List Nat) (s : Nat) : Bool := l.any fun t => t == s
def insideP (l : List Nat) (s : Nat) : Bool := l.any fun t => (t != s) && subB t s
def lsN (l : List Nat) (j : Nat) : List Nat := (List.range j).filter fun s => thereP l s && !insideP l s
theorem lsN_succ (l : List Nat) (j : Nat) : lsN l (j + 1) = if thereP l j && !insideP l j then lsN l j ++ [j] else lsN l j := by
  unfold lsN
  rw [List.range_succ, List.filter_append]
  by_cases h : (thereP l j && !insideP l j) = true
  · rw [if_pos h]; simp [h]
  · rw [if_neg h]; simp [h]
theorem lsN_len (l : List Nat) (j : Nat) : (lsN l j).length ≤ j := by
  unfold lsN; exact Nat.le_trans (List.length_filter_le _ _) (by simp)
theorem lsN_least {l : List Nat} (hl : ∀ s ∈ l, s < 4096) : lsN l 4096 = leastN l := by
  refine asc_ext (List.Pairwise.filter _ List.pairwise_lt_range) (leastN_asc l) fun x => ?_
  rw [leastN_mem (fun y hy => by have := hl y hy; omega)]
  unfold lsN
  rw [List.mem_filter, List.mem_range, Bool.and_eq_true, Bool.not_eq_true']
  unfold thereP insideP
  rw [List.any_eq_true, List.any_eq_false]
  constructor
  · rintro ⟨h1, ⟨t, ht, e⟩, h3⟩
    have e : t = x := by simpa using e
    subst e
    refine ⟨ht, fun y hy hs => ?_⟩
    apply Classical.byContradiction
    intro hn
    apply h3 y hy
    rw [Bool.and_eq_true, bne_iff_ne]
    exact ⟨hn, (subB_iff (by have := hl y hy; omega) (by omega)).2 hs⟩
  · rintro ⟨h1, h2⟩
    refine ⟨hl x h1, ⟨x, h1, by simp⟩, fun y hy h => ?_⟩
    rw [Bool.and_eq_true, bne_iff_ne] at h
    exact h.1 (h2 y hy ((subB_iff (by have := hl y hy; omega) (by have := hl x h1; omega)).1 h.2))
set_option maxRecDepth 100000 in
set_option maxHeartbeats 4000000 in
theorem leastsets_any (l : List Nat) (F : Nat → Prop) (v : Value) (w : World) (hF : ∀ b, F b → b < w.heap.size) (hv : IntsIn .u32 F w v (ofN l)) :
    Calls Tryd.prog 12 #[v] w fun e w' => ∃ r, e = .returned r ∧ HInv w r (lsN l 4096) w' := by
  have HF := hid hF
  have H := hid hv
  have NW := hid (nwf hv)
  obtain ⟨i0, hi, hz0, hz1, hz2⟩ := info_parts infoU32
  obtain ⟨A, c, rfl, ⟨h1, h2⟩, _, _⟩ := hv
  rw [ofN_len] at h1 H ⊢
  unfold maxLen at h2
  clear hF
  go_enter Tryd.func12, Tryd.ntmps12
  go_wp2_with fail
  go_loopw [3, 4] (fun ov sv wr => ∃ s : Nat, s ≤ 4096 ∧ sv = .int .u32 (s : Int) ∧ Hid (HInv w ov (lsN l s) wr)) (fun _ sv _ => 4096 - (intOf sv).toNat)
  case atStart => exact ⟨0, Nat.zero_le _, rfl, World.ownsRow_nil _ _ _ _, Below.refl _ _⟩
  case round =>
    obtain ⟨s, hs, rfl, hO⟩ := hrel
    have sO := hO.out.2.size
    obtain ⟨Ao, co, rfl, ko, ko2⟩ := hO.out.len
    unfold maxLen at ko2
    have ls := lsN_len l s
    obtain ⟨wo, hwo⟩ : ∃ wo, wo = wr := ⟨_, rfl⟩
    subst hwo
    by_cases hs4 : s < 4096
    · have i1 : (s : Int) < 4096 := by omega
      go_wp2_with fail
      go_loopw [5, 6, 7] (fun tv iv kv wr => ∃ k : Nat, k ≤ l.length ∧ kv = .int .i64 k ∧ tv = .bool (thereP (l.take k) s) ∧ iv = .bool (insideP (l.take k) s) ∧ Hid (Below wo.heap.size wo wr)) (fun _ _ kv _ => l.length - (intOf kv).toNat)
      case atStart => exact ⟨0, Nat.zero_le _, rfl, rfl, rfl, Below.refl _ _⟩
      case round =>
        obtain ⟨k, hk, rfl, rfl, rfl, hB⟩ := hrel
        have BW := hid (hO.out.2.trans (hB.out.mono sO))
        by_cases hkt : k < l.length
        · obtain ⟨q, oq, rfl, hqF, hqc⟩ := nat_cell H.out hkt
          have d1 := (BW.out.cell (p := ⟨q, oq + k, none⟩) (HF.out q hqF)).trans hqc
          have t32 := NW.out _ (getD_mem hkt)
          have i2 : (k : Int) < (l.length : Int) := by omega
          have ST : Hid (thereP (l.take (k + 1)) s = (thereP (l.take k) s || (l.getD k 0 == s))) := any_snoc _ hkt
          have SI : Hid (insideP (l.take (k + 1)) s = (insideP (l.take k) s || ((l.getD k 0 != s) && subB (l.getD k 0) s))) := any_snoc _ hkt
          clear hqc
          generalize l.getD k 0 = t at d1 t32 ST SI
          have eN := u32_andNot_nat t s t32 (by omega)
          have SB : Hid (subB t s = decide ((t &&& (4294967295 - s)) = 0)) := rfl
          generalize t &&& (4294967295 - s) = x at eN SB
          have e1 : ((t : Int) == (s : Int)) = (t == s) := by
            by_cases h : t = s
            · subst h; simp
            · rw [beq_eq_false_iff_ne.2 h, beq_eq_false_iff_ne]; omega
          have e2 : ((t : Int) != (s : Int)) = (t != s) := by
            by_cases h : t = s
            · subst h; simp
            · rw [bne_iff_ne.2 h, bne_iff_ne]; omega
          have e3 : ((x : Int) == 0) = decide (x = 0) := by
            by_cases h : x = 0
            · subst h; rfl
            · rw [decide_eq_false h, beq_eq_false_iff_ne]; omega
          generalize thereP (l.take k) s = bt at ST
          generalize insideP (l.take k) s = bi at SI
          have E4 : Hid ((t != s) = !(t == s)) := rfl
          rw [E4.out] at SI e2
          clear E4
          rw [SB.out] at SI
          clear SB
          generalize (t == s) = a at ST SI e1 e2
          generalize decide (x = 0) = d at SI e3
          cases bt <;> cases bi <;> cases a <;> cases d
          all_goals
            simp only [Bool.not_true, Bool.not_false] at e2
            go_wp2_with fail
            go_roundw
            case rel => exact ⟨k + 1, by omega, by go_num, by rw [ST.out]; rfl, by rw [SI.out]; rfl, hB⟩
            case measure => simp [intOf]; omega
        · obtain rfl : k = l.length := by omega
          rw [List.take_length]
          have LS := hid (lsN_succ l s)
          have OI : Hid (wr.ownsRow w.heap.size 30 1 (.slice Ao (lsN l s).length co) (lsN l s).length ((ofN (lsN l s)).map (Value.int .u32))) := own_below hO.out.1 hB.out
          have HI : Hid (HInv w (.slice Ao (lsN l s).length co) (lsN l s) wr) := ⟨OI.out, BW.out⟩
          have sW := hB.out.size
          generalize thereP l s = bt at LS
          generalize insideP l s = bi at LS
          cases bt <;> cases bi
          case' true.false =>
            go_wp2_with (at_builtin; refine wpList_app _ rfl _ _ 22 rfl w.heap.size 30 i0 (.int .u32 0) 1 4 Tryd.underlying22 hi hz0 hz1 hz2 rfl (by decide) _ _ _ rfl (HI.out.1.alloc _) _ _ 1 [.int .u32 s] rfl (cells_1 _ _ _ (by simp)) (vcell s) (by unfold maxLen; omega) (by omega) (by simp; omega) ?_; intro v5 w5 hown5 hgrow5 _; have O5 := hid (HI.out.app hown5 hgrow5); clear hown5 hgrow5)
            go_roundw
            case rel => exact ⟨s + 1, by omega, by go_num, by show HInv _ _ _ _; rw [LS.out]; exact O5.out⟩
            case measure => simp [intOf]; omega
          all_goals
            go_wp2_with fail
            go_roundw
            case rel => exact ⟨s + 1, by omega, by go_num, by show HInv _ _ _ _; rw [LS.out]; exact HI.out⟩
            case measure => simp [intOf]; omega
    · obtain rfl : s = 4096 := by omega
      go_wp2_with fail
      go_ret
      exact ⟨_, rfl, hO.out⟩
end Go.Proofs.YtfkklhmamhcbhaaDoor
