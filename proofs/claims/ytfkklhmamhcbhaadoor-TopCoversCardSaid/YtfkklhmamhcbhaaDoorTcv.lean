/- TopCovers as a walk: the fewest tests that pass all lines are as many as the smallest hits of the lines' sets have. Condition: the search's table is laid. -/
import Derived.Test.YtfkklhmamhcbhaaDoorStv
import Derived.Test.YtfkklhmamhcbhaaDoorStt
import Derived.Lib.MinMax
namespace Go.Proofs.YtfkklhmamhcbhaaDoor
open Go.RowKit Go.Deep
def LawPost (W : World) (e : Ending) (w' : World) : Prop := e = .returned (.bool true) ∧ Below W.heap.size W w'
theorem hit_one : hitC [1] = 0 ∧ (hitR [1]).length = 1 := by
  have h0 : hitC [1] = 0 := by decide
  have hh : ∀ g, Hit [1] g ↔ g &&& 1 ≠ 0 := fun g => by simp [Hit]
  refine ⟨h0, ?_⟩
  unfold hitR
  rw [if_pos h0]
  obtain ⟨h1, h2⟩ := hitsN_ok [1] (by intro s hs; simp at hs; omega)
  rw [asc_ext h2 (show Asc [1] by unfold Asc; simp) fun x => ?_]
  · rfl
  · rw [h1]
    have k1 : Hit [1] 1 := by rw [hh]; decide
    constructor
    · intro h
      have hx : x < 2 := min_small (l := [1]) (n := 1) (by intro s hs; simp at hs; omega) h
      have : x = 0 ∨ x = 1 := by omega
      rcases this with rfl | rfl
      · exact absurd rfl ((hh 0).1 h.1)
      · simp
    · intro h
      simp at h
      subst h
      refine ⟨k1, fun g hg hq => ?_⟩
      have := sub_le hg
      have : g = 0 ∨ g = 1 := by omega
      rcases this with rfl | rfl
      · exact absurd rfl ((hh 0).1 hq)
      · rfl
theorem bit_int (t k : Nat) : (((t : Int) / 2 ^ k).tmod 2 == 1) = t.testBit k := by
  have e : ((t : Int) / 2 ^ k).tmod 2 = ((t / 2 ^ k % 2 : Nat) : Int) := by
    rw [show (t : Int) / 2 ^ k = ((t / 2 ^ k : Nat) : Int) by push_cast; rfl]
    exact (Int.ofNat_tmod _ 2).symm
  rw [Nat.testBit_eq_decide_div_mod_eq, e]
  by_cases h : t / 2 ^ k % 2 = 1
  · rw [h]; rfl
  · rw [decide_eq_false h, beq_eq_false_iff_ne]; omega
theorem pow_wrap {j : Nat} (h : j ≤ 12) : (2 : Int) ^ j % 4294967296 = 2 ^ j := by
  have h1 := pow_le12 h
  rw [show (2 : Int) ^ j = ((2 ^ j : Nat) : Int) by push_cast; rfl]
  generalize 2 ^ j = p at h1
  omega
theorem popN_le (h : Nat) : popN h ≤ 12 := by unfold popN; exact Nat.le_trans List.countP_le_length (by simp)
/-- so many of the first k bits -/
def popK (h k : Nat) : Nat := (List.range k).countP fun i => h.testBit i
theorem popK_succ (h k : Nat) : popK h (k + 1) = popK h k + if h.testBit k then 1 else 0 := by
  unfold popK
  rw [List.range_succ, List.countP_append]
  simp [List.countP_cons]
theorem popK_le (h k : Nat) : popK h k ≤ k := by unfold popK; exact Nat.le_trans List.countP_le_length (by simp)
set_option maxRecDepth 100000 in
set_option maxHeartbeats 4000000 in
theorem topCovers_walk (n : Int) (zl : List Int) (v : Value) (W : World) (hT : Tz W) (hv : IntsIn .u32 (fun b => b < W.heap.size) W v zl) (_hz : zl.length * 4 ≤ 140737488351232) :
    Calls Tryd.prog 3 #[.int .i64 n, v] W (LawPost W) := by
  obtain ⟨ts, rfl⟩ := nat_of_ints hv
  have HT := hid hT
  have H := hid hv
  have tzl : 2 < W.heap.size := cell_lt (p := ⟨2, 0, none⟩) (hT 0 (by decide))
  obtain ⟨A, c, rfl, ⟨h1, h2⟩, _, _⟩ := hv
  rw [ofN_len] at h1 H ⊢
  unfold maxLen at h2
  obtain ⟨i0, hi, hz0, hz1, hz2⟩ := info_parts infoU32
  clear hT
  go_enter Tryd.func3, Tryd.ntmps3
  go_wp2_with fail
  refine (sleast_any n ts _ _ W (fun b h => h) HT.out H.out).mono ?_
  rintro e w1 ⟨r1, rfl, hI⟩
  have B1 := hid hI.2
  obtain ⟨A1, c1, rfl, _, k1⟩ := own_sl hI.1
  unfold maxLen at k1
  clear hI
  have X1 : Hid ((w1.alloc (Obj.cells #[.int .u32 1] 30)).heap[w1.heap.size]? = some (.cells #[.int .u32 1] 30 (0, 0))) := Has.new _ _
  have I1 : Hid (IntsIn .u32 (fun b => b < (w1.alloc (Obj.cells #[.int .u32 1] 30)).heap.size) (w1.alloc (Obj.cells #[.int .u32 1] 30)) (.slice (some ⟨w1.heap.size, 0, none⟩) 1 1) (ofN [1])) := ⟨_, 1, rfl, by simp [maxLen, ofN], by decide, fun _ => ⟨_, 0, rfl, by simp, fun i hi => by
    match i, hi with
    | 0, _ => exact (Has.cell X1.out 0).trans rfl⟩⟩
  go_wp2_with fail
  refine (hits_any [1] _ _ _ (fun b h => h) I1.out).mono ?_
  rintro e w2 ⟨rf, rfl, h2⟩
  rw [hit_one.1, errV_0]
  have B2 := hid ((B1.out.alloc B1.out.size _).trans (h2.2.mono (by have := B1.out.size; simp; omega)))
  obtain ⟨Af, cf, rfl, _, _⟩ := h2.len
  rw [hit_one.2]
  clear h2
  by_cases hg : stC n ts = 0
  · have HG := hid hg
    rw [hg, errV_0]
    obtain ⟨n0, n32, l12, tsm⟩ := stC_good hg
    by_cases n20 : n > 20
    · go_wp2_with fail
      go_ret
      exact ⟨rfl, B2.out⟩
    · obtain ⟨N, rfl⟩ : ∃ N : Nat, n = (N : Int) := ⟨n.toNat, by omega⟩
      rw [Int.toNat_natCast] at tsm
      have n20' : N ≤ 20 := by omega
      have ts32 : ∀ s ∈ ts, s < 4294967296 := fun s hs => Nat.lt_of_lt_of_le (tsm s hs) (pow_mono (show N ≤ 32 by omega))
      obtain ⟨l, hl, hcov, hmin⟩ := leastT_ok ts32
      obtain ⟨hC, hne, hbest⟩ := covers_hits l12 tsm n20' hcov hmin
      have LR : leastR N ts = l := by unfold leastR; rw [if_pos hg, hl]; rfl
      have ll12 : l.length ≤ 12 := Nat.le_trans (asc_len hcov.1 (n := ts.length) fun x hx => (hcov.2.1 x hx).2) l12
      rw [LR]
      have TS := hid ts32
      have HC := hid hC
      have HNE := hid hne
      have HBE := hid hbest
      have d20 : decide ((N : Int) > 20) = false := by simp; omega
      clear hg hC hne hbest hl hcov hmin LR tsm ts32 n20
      go_wp2_with fail
      go_loopw [9, 10] (fun sv kv wr => ∃ k : Nat, k ≤ N ∧ kv = .int .i64 k ∧ Hid (HInv w2 sv (setsN ts k) wr)) (fun _ kv _ => N - (intOf kv).toNat)
      case atStart => exact ⟨0, Nat.zero_le _, rfl, World.ownsRow_nil _ _ _ _, Below.refl _ _⟩
      case round =>
        obtain ⟨k, hk, rfl, hS⟩ := hrel
        have sS := hS.out.2.size
        obtain ⟨As, cs, rfl, k3, k4⟩ := hS.out.len
        unfold maxLen at k4
        have sl := setsN_len ts k
        obtain ⟨wo, hwo⟩ : ∃ wo, wo = wr := ⟨_, rfl⟩
        subst hwo
        by_cases hkN : k < N
        · have i2 : (k : Int) < (N : Int) := by omega
          go_wp2_with fail
          go_loopw [11, 12] (fun sv jv wr => ∃ j : Nat, j ≤ ts.length ∧ jv = .int .i64 j ∧ sv = .int .u32 ((lineN ts k j : Nat) : Int) ∧ wr = wo) (fun _ jv _ => ts.length - (intOf jv).toNat)
          case atStart => exact ⟨0, Nat.zero_le _, rfl, rfl, rfl⟩
          case round =>
            obtain ⟨j, hj, rfl, rfl, rfl⟩ := hrel
            have lj := lineN_lt ts k j
            have pj := pow_mono (show j ≤ 12 by omega)
            by_cases hjt : j < ts.length
            · obtain ⟨q, oq, rfl, hqF, hqc⟩ := nat_cell H.out hjt
              have BW := hid (B2.out.trans (hS.out.2.mono B2.out.size))
              have d1 := (BW.out.cell (p := ⟨q, oq + j, none⟩) hqF).trans hqc
              have s32 := TS.out _ (getD_mem hjt)
              have i3 : (j : Int) < (ts.length : Int) := by omega
              have LN : Hid (lineN ts k (j + 1) = if (ts.getD j 0).testBit k then lineN ts k j ||| 2 ^ j else lineN ts k j) := rfl
              clear hqc
              generalize ts.getD j 0 = t at d1 s32 LN
              have eB := bit_int t k
              have eO := u32_or_nat (lineN ts k j) (2 ^ j) (by omega) (by omega)
              have eP : (((2 ^ j : Nat)) : Int) = (2 : Int) ^ j := by push_cast; rfl
              rw [eP] at eO
              generalize hx : lineN ts k j = x at eO LN lj
              generalize hy : x ||| 2 ^ j = y at eO LN
              have HX := hid hx
              clear hx hy eP
              cases hb : t.testBit k with
              | true =>
                rw [hb] at eB LN
                clear hb
                have eW := pow_wrap (show j ≤ 12 by omega)
                go_wp2_with fail
                go_roundw
                case rel => exact ⟨j + 1, by omega, by go_num, by rw [LN.out]; rfl, trivial⟩
                case measure => simp [intOf]; omega
              | false =>
                rw [hb] at eB LN
                clear hb
                go_wp2_with fail
                go_roundw
                case rel => exact ⟨j + 1, by omega, by go_num, by rw [LN.out]; rfl, trivial⟩
                case measure => simp [intOf]; omega
            · obtain rfl : j = ts.length := by omega
              have SN : Hid (setsN ts (k + 1) = if lineN ts k ts.length = 0 then setsN ts k else setsN ts k ++ [lineN ts k ts.length]) := rfl
              generalize lineN ts k ts.length = x at SN lj
              by_cases hx : x = 0
              · subst hx
                go_wp2_with fail
                go_roundw
                case rel => exact ⟨k + 1, by omega, by go_num, by show HInv _ _ _ _; rw [SN.out, if_pos rfl]; exact hS.out⟩
                case measure => simp [intOf]; omega
              · have z1 : ¬ (x : Int) = 0 := by omega
                have SN2 : Hid (setsN ts (k + 1) = setsN ts k ++ [x]) := by show _ = _; rw [SN.out, if_neg hx]
                clear hx
                go_wp2_with (at_builtin; refine wpList_app _ rfl _ _ 22 rfl w2.heap.size 30 i0 (.int .u32 0) 1 4 Tryd.underlying22 hi hz0 hz1 hz2 rfl (by decide) _ _ _ rfl (hS.out.1.alloc _) _ _ 1 [.int .u32 x] rfl (cells_1 _ _ _ (by simp)) (vcell x) (by unfold maxLen; omega) (by omega) (by simp; omega) ?_; intro v5 w5 hown5 hgrow5 _; have O5 := hid (hS.out.app hown5 hgrow5); clear hown5 hgrow5)
                go_roundw
                case rel => exact ⟨k + 1, by omega, by go_num, by show HInv _ _ _ _; rw [SN2.out]; exact O5.out⟩
                case measure => simp [intOf]; omega
        · obtain rfl : k = N := by omega
          have SM : Hid (∀ x ∈ setsN ts k, x < 4294967296) := fun x hx => by have := (hitC_good HC.out).2 x hx; omega
          have IS := hid (hS.out.ints SM.out)
          have B3 := hid (B2.out.trans (hS.out.2.mono B2.out.size))
          generalize setsN ts k = sets at hS HC HNE HBE SM IS
          go_wp2_with fail
          refine (hits_any sets _ _ wo (fun b h => h) IS.out).mono ?_
          rintro e w6 ⟨rh, rfl, h6⟩
          have HR : hitR sets = hitsN sets := if_pos HC.out
          rw [HC.out, errV_0]
          rw [HR] at h6
          have HSM := hid (hitsN_small (hitC_good HC.out).2)
          have hl4 := HSM.out.2
          generalize hitsN sets = hs at h6 HNE HBE HSM hl4
          have H6 := hid h6
          have B6 := hid (B3.out.trans (h6.2.mono B3.out.size))
          obtain ⟨Ah, ch, rfl, _, _⟩ := h6.len
          have hpos : 0 < hs.length := List.length_pos_iff.2 HNE.out
          have z0 : ¬ (hs.length : Int) = 0 := by omega
          have z00 : ((hs.length : Int) == 0) = false := by rw [beq_eq_false_iff_ne]; omega
          clear h6 HR
          go_wp2_with fail
          go_loopw [15, 16] (fun bv iv wr => ∃ i : Nat, i ≤ hs.length ∧ iv = .int .i64 i ∧ bv = .int .i64 ((bestN (hs.take i) : Nat) : Int) ∧ wr = w6) (fun _ iv _ => hs.length - (intOf iv).toNat)
          case atStart => exact ⟨0, Nat.zero_le _, rfl, rfl, rfl⟩
          case round =>
            obtain ⟨i, hi', rfl, rfl, rfl⟩ := hrel
            by_cases hit : i < hs.length
            · obtain ⟨g, c', e1, _, hgl, _, _, hcell⟩ := own_open H6.out.1 (by omega)
              injection e1 with e1 _ e2
              subst e1 e2
              have d1 := (hcell i (by omega)).trans (ucell_at (m := ofN hs) (i := i) (by rw [ofN_len]; exact hit))
              rw [ofN_at] at d1
              have i3 : (i : Int) < (hs.length : Int) := by omega
              have h12 := HSM.out.1 _ (getD_mem hit)
              have BS := hid (bestN_snoc (hs.take i) (hs.getD i 0))
              have TK := hid (take_snocN hit)
              clear hcell
              generalize hs.getD i 0 = h at d1 BS TK h12
              generalize bestN (hs.take i) = b0 at BS
              go_wp2_with fail
              go_loopw [17, 18] (fun mv kv wr' => ∃ q : Nat, q ≤ 12 ∧ kv = .int .i64 q ∧ mv = .int .i64 ((popK h q : Nat) : Int) ∧ wr' = wr) (fun _ kv _ => 12 - (intOf kv).toNat)
              case atStart => exact ⟨0, Nat.zero_le _, rfl, rfl, rfl⟩
              case round =>
                obtain ⟨q, hq, rfl, rfl, rfl⟩ := hrel
                have pq := popK_le h q
                by_cases hq12 : q < 12
                · have i4 : (q : Int) < 12 := by omega
                  have eB := bit_int h q
                  have PS := hid (popK_succ h q)
                  generalize popK h q = p0 at PS pq
                  cases hb : h.testBit q with
                  | true =>
                    rw [hb] at eB PS
                    clear hb
                    go_wp2_with fail
                    go_roundw
                    case rel => exact ⟨q + 1, by omega, by go_num, by rw [PS.out]; push_cast; rfl, trivial⟩
                    case measure => simp [intOf]; omega
                  | false =>
                    rw [hb] at eB PS
                    clear hb
                    go_wp2_with fail
                    go_roundw
                    case rel => exact ⟨q + 1, by omega, by go_num, by rw [PS.out]; rfl, trivial⟩
                    case measure => simp [intOf]; omega
                · obtain rfl : q = 12 := by omega
                  have PE : Hid (popN h = popK h 12) := rfl
                  generalize popK h 12 = p0 at PE pq
                  go_wp2_with fail
                  go_roundw
                  case rel => exact ⟨i + 1, by omega, by go_num, by rw [TK.out, BS.out, PE.out]; congr 1; omega, trivial⟩
                  case measure => simp [intOf]; omega
            · obtain rfl : i = hs.length := by omega
              rw [List.take_length, HBE.out]
              have z1 : ((l.length : Int) == (l.length : Int)) = true := by simp
              go_wp2_with fail
              go_ret
              exact ⟨by simp, B6.out⟩
  · have HE : errV (stC n ts) = .iface 43 (.int .i64 (stC n ts)) := errV_no hg
    have LR : leastR n ts = [] := if_neg hg
    rw [HE, LR]
    clear HE LR hg
    go_wp2_with fail
    go_ret
    exact ⟨rfl, B2.out⟩
end Go.Proofs.YtfkklhmamhcbhaaDoor
