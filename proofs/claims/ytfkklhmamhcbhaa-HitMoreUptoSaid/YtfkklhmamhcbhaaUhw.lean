/- HitMore as a walk. Condition: at most 1048576 sets on either side. -/
import Derived.Test.YtfkklhmamhcbhaaUhi
import Derived.Test.YtfkklhmamhcbhaaUst
namespace Go.Proofs.Ytfkklhmamhcbhaa
open Go.RowKit Go.Deep
theorem nat_of_ints {F : Nat → Prop} {w : World} {v : Value} {zs : List Int} (h : IntsIn .u32 F w v zs) : ∃ l, zs = ofN l := by
  obtain ⟨_, _, _, _, hw, _⟩ := h
  refine ⟨zs.map Int.toNat, ?_⟩
  unfold ofN
  rw [List.map_map]
  conv => lhs; rw [← List.map_id zs]
  apply List.map_congr_left
  intro z hz
  have := hw z hz
  simp [Lit.wf, IntKind.min, IntKind.max, IntKind.signed, IntKind.bits] at this
  show z = ((z.toNat : Nat) : Int)
  omega
theorem hit36 (g : Nat) : Hit [3, 6] g ↔ g &&& 3 ≠ 0 ∧ g &&& 6 ≠ 0 := by simp [Hit]
theorem min36 (x : Nat) : MinHit [3, 6] x ↔ x ∈ [2, 5] := by
  have low : ∀ y, y < 8 → Hit [3, 6] y → (y = 2 ∨ y = 3 ∨ y = 5 ∨ y = 6 ∨ y = 7) := by
    intro y hy h
    rw [hit36] at h
    obtain ⟨h1, h2⟩ := h
    have : y = 0 ∨ y = 1 ∨ y = 2 ∨ y = 3 ∨ y = 4 ∨ y = 5 ∨ y = 6 ∨ y = 7 := by omega
    rcases this with rfl | rfl | rfl | rfl | rfl | rfl | rfl | rfl <;> first | omega | exact absurd rfl h1 | exact absurd rfl h2
  have h2 : Hit [3, 6] 2 := by rw [hit36]; decide
  have h5 : Hit [3, 6] 5 := by rw [hit36]; decide
  constructor
  · intro h
    have hx : x < 8 := min_small (l := [3, 6]) (n := 3) (by intro s hs; simp at hs; omega) h
    rcases low x hx h.1 with rfl | rfl | rfl | rfl | rfl
    · simp
    · have := h.2 2 (by unfold sub; rfl) h2; omega
    · simp
    · have := h.2 2 (by unfold sub; rfl) h2; omega
    · have := h.2 2 (by unfold sub; rfl) h2; omega
  · intro h
    simp at h
    rcases h with rfl | rfl
    · refine ⟨h2, fun g hg hh => ?_⟩
      have := sub_le hg
      rcases low g (by omega) hh with rfl | rfl | rfl | rfl | rfl <;> omega
    · refine ⟨h5, fun g hg hh => ?_⟩
      have := sub_le hg
      rcases low g (by omega) hh with rfl | rfl | rfl | rfl | rfl
      · exact absurd hg (by unfold sub; decide)
      · exact absurd hg (by unfold sub; decide)
      · rfl
      · omega
      · omega
theorem hit_fact : hitC [3, 6] = 0 ∧ (hitR [3, 6]).length = 2 := by
  have h0 : hitC [3, 6] = 0 := by decide
  refine ⟨h0, ?_⟩
  unfold hitR
  rw [if_pos h0]
  obtain ⟨h1, h2⟩ := hitsN_ok [3, 6] (by intro s hs; simp at hs; omega)
  rw [asc_ext h2 (show Asc [2, 5] by unfold Asc; simp) fun x => (h1 x).trans (min36 x)]
  rfl
/-- x lies within y -/
def subB (x y : Nat) : Bool := decide (x &&& (4294967295 - y) = 0)
theorem subB_iff {x y : Nat} (hx : x < 4294967296) (hy : y < 4294967296) : subB x y = true ↔ sub x y := by
  unfold subB
  rw [decide_eq_true_iff, sub_iff]
  have hb : ∀ i, (x &&& (4294967295 - y)).testBit i = (x.testBit i && !y.testBit i) := by
    intro i
    rw [Nat.testBit_and, show 4294967295 - y = 2 ^ 32 - (y + 1) by omega, Nat.testBit_two_pow_sub_succ (by omega)]
    by_cases hi : i < 32
    · simp [hi]
    · have : x.testBit i = false := Nat.testBit_lt_two_pow (Nat.lt_of_lt_of_le hx (show 2 ^ 32 ≤ 2 ^ i from Nat.pow_le_pow_right (by omega) (by omega)))
      simp [this]
  constructor
  · intro h i hi
    have := hb i
    rw [h, Nat.zero_testBit, hi] at this
    simpa using this.symm
  · intro h
    apply Nat.eq_of_testBit_eq
    intro i
    rw [hb, Nat.zero_testBit]
    cases hx : x.testBit i
    · rfl
    · rw [h i hx]; rfl
theorem any_snoc (p : Nat → Bool) {l : List Nat} {k : Nat} (hk : k < l.length) : (l.take (k + 1)).any p = ((l.take k).any p || p (l.getD k 0)) := by
  rw [take_snocN hk, List.any_append]; simp
theorem nat_cell {F : Nat → Prop} {w : World} {A : Option Addr} {n c : Nat} {l : List Nat} {k : Nat} (h : IntsIn .u32 F w (.slice A n c) (ofN l)) (hk : k < l.length) : ∃ b o, A = some ⟨b, o, none⟩ ∧ F b ∧ w.cell? ⟨b, o + k, none⟩ = some (.int .u32 ((l.getD k 0 : Nat) : Int)) := by
  obtain ⟨A', c', e, _, _, h3⟩ := h
  injection e with e1 e2 e3
  subst e1
  obtain ⟨b, o, rfl, hF, hc⟩ := h3 (by rw [ofN_len]; omega)
  exact ⟨b, o, rfl, hF, by rw [hc k (by rw [ofN_len]; exact hk), ← ofN_at]; rfl⟩
theorem HInv.below {w wr : World} {v : Value} {l : List Nat} (h : HInv w v l wr) : Below w.heap.size w wr := h.2
set_option maxRecDepth 100000 in
set_option maxHeartbeats 4000000 in
theorem hitMore_walk (zl : List Int) (vl : Value) (zm : List Int) (vm : Value) (W : World) (hl : IntsIn .u32 (fun b => b < W.heap.size) W vl zl) (hm : IntsIn .u32 (fun b => b < W.heap.size) W vm zm) (bl : zl.length ≤ 1048576) (bm : zm.length ≤ 1048576) :
    Calls Try.prog 3 #[vl, vm] W fun e w' => e = .returned (.bool true) ∧ Below W.heap.size W w' := by
  obtain ⟨l, rfl⟩ := nat_of_ints hl
  obtain ⟨m, rfl⟩ := nat_of_ints hm
  rw [ofN_len] at bl bm
  have HL := hid hl
  have HM := hid hm
  have BL := hid bl
  have BM := hid bm
  have OL := ofN_len l
  have OM := ofN_len m
  obtain ⟨A0, c0, rfl, _, wfl, _⟩ := hl
  obtain ⟨A1, c1, rfl, _, wfm, _⟩ := hm
  rw [OL] at HL ⊢
  rw [OM] at HM ⊢
  have WL := hid wfl
  have WM := hid wfm
  clear wfl wfm bl bm OL OM
  obtain ⟨i0, hi, hz0, hz1, hz2⟩ := info_parts infoU32
  obtain ⟨w1, hw1⟩ : ∃ z, z = W.alloc (.cells #[.int .u32 3, .int .u32 6] 27) := ⟨_, rfl⟩
  have S1 : Hid (w1.heap.size = W.heap.size + 1) := by show _ = _; rw [hw1]; simp
  have B1 : Hid (Below W.heap.size W w1) := by show Below _ _ _; rw [hw1]; exact (Below.refl _ _).alloc (Nat.le_refl _) _
  have X1 : Hid (w1.heap[W.heap.size]? = some (.cells #[.int .u32 3, .int .u32 6] 27 (0, 0))) := by show _ = _; rw [hw1]; exact Has.new W _
  have I1 : Hid (IntsIn .u32 (fun b => b < w1.heap.size) w1 (.slice (some ⟨W.heap.size, 0, none⟩) 2 2) (ofN [3, 6])) := ⟨_, 2, rfl, by simp [maxLen, ofN], by decide, fun _ => ⟨_, 0, rfl, by have := S1.out; omega, fun i hi => by
    match i, hi with
    | 0, _ => exact (Has.cell X1.out 0).trans rfl
    | 1, _ => exact (Has.cell X1.out 1).trans rfl⟩⟩
  go_enter Try.func3, Try.ntmps3
  go_wp2_with fail
  rw [← hw1]
  refine (hits_any [3, 6] _ _ w1 (fun b h => h) I1.out).mono ?_
  rintro e w2 ⟨rf, rfl, h2⟩
  rw [hit_fact.1, errV_0]
  have B2 := hid (B1.out.trans (h2.2.mono (by have := S1.out; omega)))
  obtain ⟨Af, cf, rfl, _, _⟩ := h2.len
  rw [hit_fact.2]
  clear hw1 h2
  go_wp2_with fail
  refine (hits_any l _ _ w2 (fun b h => Nat.lt_of_lt_of_le h B2.out.size) (HL.out.keep (Same.of_below B2.out fun b h => h))).mono ?_
  rintro e w3 ⟨ra, rfl, h3⟩
  have H3 := hid h3
  have B3 := hid (B2.out.trans (h3.2.mono B2.out.size))
  obtain ⟨Aa, ca, rfl, ka, _⟩ := h3.len
  have O0 := hid (World.ownsRow_lit (e := 27) (size := 1) (base := w3.heap.size) w3 #[] 0 (Nat.le_refl _) (by unfold maxLen; omega) rfl)
  have CA : Hid (CellsIn (fun b => b < W.heap.size) (w3.alloc (Obj.cells #[] 27)) 1 (.slice A0 l.length c0) l.length ((ofN l).map (Value.int .u32))) := by
    have := HL.out.cells.keep (w' := w3.alloc (Obj.cells #[] 27)) (Same.of_below (B3.out.alloc B3.out.size _) fun b h => h)
    show CellsIn _ _ _ _ _ _
    rwa [ofN_len] at this
  have s3 := B3.out.size
  clear h3
  go_wp2_with (first
    | (at_builtin; refine wpList_app _ rfl (.tmp 29) (.tmp 30) 22 rfl w3.heap.size 27 i0 (.int .u32 0) 1 4 Try.underlying22 hi hz0 hz1 hz2 rfl (by decide) _ 0 [] rfl O0.out _ _ l.length _ rfl CA.out (ints_one _ _) (by have := BL.out; unfold maxLen; omega) (by have := BL.out; omega) (by simp) ?_; intro v4 w4 hown4 hgrow4 _; have O4 : Hid (w4.ownsRow w3.heap.size 27 1 v4 l.length ((ofN l).map (Value.int .u32))) := (by show World.ownsRow _ _ _ _ _ _ _; simpa using hown4); have P4 : Hid (Below w3.heap.size w3 w4) := ((Below.refl _ _).alloc (Nat.le_refl _) _).grown hgrow4 (by simp) (own_ge O0.out); have s4 := P4.out.size; have B4 := hid (B3.out.trans (P4.out.mono s3)); have CB : Hid (CellsIn (fun b => b < W.heap.size) w4 1 (.slice A1 m.length c1) m.length ((ofN m).map (Value.int .u32))) := (by have := HM.out.cells.keep (w' := w4) (Same.of_below B4.out fun b h => h); show CellsIn _ _ _ _ _ _; rwa [ofN_len] at this); clear hown4 hgrow4)
    | (at_builtin; refine wpList_app _ rfl (.tmp 31) (.tmp 32) 22 rfl w3.heap.size 27 i0 (.int .u32 0) 1 4 Try.underlying22 hi hz0 hz1 hz2 rfl (by decide) _ l.length _ rfl O4.out _ _ m.length _ rfl CB.out (ints_one _ _) (by have := BL.out; have := BM.out; unfold maxLen; omega) (by have := BL.out; have := BM.out; omega) s4 ?_; intro v5 w5 hown5 hgrow5 _; have O5 : Hid (w5.ownsRow w3.heap.size 27 1 v5 (ofN (l ++ m)).length ((ofN (l ++ m)).map (Value.int .u32))) := (by show World.ownsRow _ _ _ _ _ _ _; rw [ofN_app, List.length_append, ofN_len, ofN_len, List.map_append]; exact hown5); have P5 : Hid (Below w3.heap.size w3 w5) := P4.out.grown hgrow5 s4 (own_ge O4.out); clear hown5 hgrow5))
  have WLM : Hid (∀ z ∈ ofN (l ++ m), (Lit.int .u32 z).wf = true) := fun z hz => by
    rw [ofN_app, List.mem_append] at hz
    exact hz.elim (WL.out z) (WM.out z)
  have s5 := P5.out.size
  have B5 := hid (B3.out.trans (P5.out.mono s3))
  refine (hits_any (l ++ m) _ _ w5 (fun b h => h.2) (ints_of_own O5.out WLM.out)).mono ?_
  rintro e w6 ⟨rb, rfl, h6⟩
  have H6 := hid h6
  have B6 := hid (B5.out.trans (h6.2.mono B5.out.size))
  have A6 : Hid (w6.ownsRow w2.heap.size 27 1 (.slice Aa (hitR l).length ca) (hitR l).length ((ofN (hitR l)).map (Value.int .u32))) := own_below H3.out.1 (P5.out.trans (h6.2.mono s5))
  obtain ⟨Ab, cb, rfl, kb, _⟩ := h6.len
  clear h6
  by_cases e1 : hitC l = 0
  · by_cases e2 : hitC (l ++ m) = 0
    · have E1 := hid e1
      have E2 := hid e2
      rw [e1, e2, errV_0]
      have R1 : hitR l = hitsN l := if_pos e1
      have R2 : hitR (l ++ m) = hitsN (l ++ m) := if_pos e2
      rw [R2] at H6
      rw [R1] at A6
      rw [R1, R2]
      obtain ⟨ll, lsm⟩ := hitC_good e1
      obtain ⟨llm, lmsm⟩ := hitC_good e2
      rw [List.length_append] at llm
      obtain ⟨aok, aasc⟩ := hitsN_ok l lsm
      obtain ⟨bok, basc⟩ := hitsN_ok (l ++ m) lmsm
      obtain ⟨asm_, la⟩ := hitsN_small lsm
      obtain ⟨bsm_, lb⟩ := hitsN_small lmsm
      have WITH : Hid (∀ x ∈ hitsN (l ++ m), (hitsN l).any (fun y => subB y x) = true) := fun x hx => by
        obtain ⟨y, y1, y2⟩ := more_within ((bok x).1 hx)
        rw [List.any_eq_true]
        have h1 := (aok y).2 y1
        have h2 := asm_ y h1
        have h3 := bsm_ x hx
        exact ⟨y, h1, (subB_iff (by omega) (by omega)).2 y2⟩
      have SAME : Hid ((∀ y ∈ m, l.any (fun k => subB k y) = true) → hitsN l = hitsN (l ++ m)) := fun h => by
        refine asc_ext aasc basc fun x => ?_
        rw [aok, bok]
        refine (more_same (fun y hy => ?_) x).symm
        obtain ⟨k, k1, k2⟩ := List.any_eq_true.1 (h y hy)
        have h2 := lsm k k1
        have h3 := lmsm y (List.mem_append_right _ hy)
        exact ⟨k, k1, (subB_iff (by omega) (by omega)).1 k2⟩
      have ASM := hid asm_
      have BSM := hid bsm_
      have LSM := hid lsm
      have LMSM := hid lmsm
      clear e1 e2 R1 R2 aok aasc bok basc asm_ bsm_ lsm lmsm
      generalize hitsN l = a at A6 WITH SAME ASM la
      generalize hitsN (l ++ m) = b at H6 WITH SAME BSM lb
      go_wp2_with fail
      go_loopw [11] (fun iv wr => ∃ j : Nat, j ≤ b.length ∧ iv = .int .i64 j ∧ Hid (Below w6.heap.size w6 wr)) (fun iv _ => b.length - (intOf iv).toNat)
      case atStart => exact ⟨0, Nat.zero_le _, rfl, Below.refl _ _⟩
      case round =>
        obtain ⟨j, hj, rfl, hB⟩ := hrel
        obtain ⟨wo, hwo⟩ : ∃ wo, wo = wr := ⟨_, rfl⟩
        subst hwo
        by_cases hlt : j < b.length
        · obtain ⟨g, c', e1, hgb, hgl, _, _, hcell⟩ := own_open H6.out.1 (by omega)
          injection e1 with e1 _ e2
          subst e1 e2
          have c2 := (hcell j (by omega)).trans (ucell_at (m := ofN b) (i := j) (by rw [ofN_len]; exact hlt))
          rw [ofN_at] at c2
          have ANY := hid (WITH.out _ (getD_mem hlt))
          have y12 := BSM.out _ (getD_mem hlt)
          have i3 : (j : Int) < (b.length : Int) := by omega
          clear hcell
          generalize b.getD j 0 = y at c2 ANY y12
          have C2 := hid c2
          clear c2
          go_wp2_with fail
          go_loopw [12, 13] (fun tv kv wr => ∃ k : Nat, k ≤ a.length ∧ kv = .int .i64 k ∧ tv = .bool ((a.take k).any fun x => subB x y) ∧ Hid (Below w6.heap.size w6 wr)) (fun _ kv _ => a.length - (intOf kv).toNat)
          case atStart => exact ⟨0, Nat.zero_le _, rfl, rfl, hB⟩
          case round =>
            obtain ⟨k, hk, rfl, rfl, hT⟩ := hrel
            by_cases hkt : k < a.length
            · obtain ⟨ga, c', e1, _, hgal, _, _, hcell⟩ := own_open A6.out (by omega)
              injection e1 with e1 _ e2
              subst e1 e2
              have d1 := (hT.out.cell (p := ⟨ga, k, none⟩) hgal).trans ((hcell k (by omega)).trans (ucell_at (m := ofN a) (i := k) (by rw [ofN_len]; exact hkt)))
              rw [ofN_at] at d1
              have d2 := (hT.out.cell (p := ⟨g, j, none⟩) hgl).trans C2.out
              have x12 := ASM.out _ (getD_mem hkt)
              have SN := hid (any_snoc (fun x => subB x y) hkt)
              have i4 : (k : Int) < (a.length : Int) := by omega
              clear hcell
              generalize a.getD k 0 = x at d1 SN x12
              have eN := u32_andNot_nat x y (by omega) (by omega)
              generalize (a.take k).any (fun x => subB x y) = t at SN
              have SB : Hid (subB x y = decide ((x &&& (4294967295 - y)) = 0)) := rfl
              generalize x &&& (4294967295 - y) = q at eN SB
              cases t with
              | true =>
                go_upto_region 15 with fail
                go_quiet (fail)
                go_wp2_with fail
                go_roundw
                case rel => exact ⟨k + 1, by omega, by go_num, by rw [SN.out]; rfl, below_drewN hT.out _⟩
                case measure => simp [intOf]; omega
              | false =>
                by_cases hq : q = 0
                · have z1 : ((q : Int) == 0) = true := by rw [hq]; rfl
                  have z2 : Hid (decide (q = 0) = true) := by show _ = _; rw [hq]; rfl
                  clear hq
                  go_upto_region 15 with fail
                  go_quiet (fail)
                  go_wp2_with fail
                  go_roundw
                  case rel => exact ⟨k + 1, by omega, by go_num, by rw [SN.out, SB.out, z2.out]; rfl, below_drewN hT.out _⟩
                  case measure => simp [intOf]; omega
                · have z1 : ((q : Int) == 0) = false := by rw [beq_eq_false_iff_ne]; omega
                  have z2 : Hid (decide (q = 0) = false) := by show _ = _; simpa using hq
                  clear hq
                  go_upto_region 15 with fail
                  go_quiet (fail)
                  go_wp2_with fail
                  go_roundw
                  case rel => exact ⟨k + 1, by omega, by go_num, by rw [SN.out, SB.out, z2.out]; rfl, below_drewN hT.out _⟩
                  case measure => simp [intOf]; omega
            · obtain rfl : k = a.length := by omega
              rw [List.take_length, ANY.out]
              go_wp2_with fail
              go_roundw
              case rel => exact ⟨j + 1, by omega, by go_num, hT⟩
              case measure => simp [intOf]; omega
        · obtain rfl : j = b.length := by omega
          go_wp2_with fail
          go_loopw [14] (fun iv wr => ∃ j : Nat, j ≤ m.length ∧ iv = .int .i64 j ∧ Hid (∀ i, i < j → l.any (fun k => subB k (m.getD i 0)) = true) ∧ Hid (Below w6.heap.size w6 wr)) (fun iv _ => m.length - (intOf iv).toNat)
          case atStart => exact ⟨0, Nat.zero_le _, rfl, fun i hi => by omega, hB⟩
          case round =>
            obtain ⟨j, hj, rfl, hold, hB⟩ := hrel
            obtain ⟨wo, hwo⟩ : ∃ wo, wo = wr := ⟨_, rfl⟩
            subst hwo
            by_cases hlt : j < m.length
            · obtain ⟨g, o, rfl, hgW, hcell⟩ := nat_cell HM.out hlt
              have C2 := hid (((B6.out.trans (hB.out.mono B6.out.size)).cell (p := ⟨g, o + j, none⟩) hgW).trans hcell)
              have y12 := LMSM.out _ (List.mem_append_right _ (getD_mem hlt))
              have i3 : (j : Int) < (m.length : Int) := by omega
              clear hcell
              generalize hy : m.getD j 0 = y at C2 y12
              have HY := hid hy
              clear hy
              go_wp2_with fail
              go_loopw [15, 16] (fun tv kv wr => ∃ k : Nat, k ≤ l.length ∧ kv = .int .i64 k ∧ tv = .bool ((l.take k).any fun x => subB x y) ∧ Hid (Below wo.heap.size wo wr)) (fun _ kv _ => l.length - (intOf kv).toNat)
              case atStart => exact ⟨0, Nat.zero_le _, rfl, rfl, Below.refl _ _⟩
              case round =>
                obtain ⟨k, hk, rfl, rfl, hT⟩ := hrel
                by_cases hkt : k < l.length
                · obtain ⟨ga, oa, rfl, hgaW, hcell⟩ := nat_cell HL.out hkt
                  have BW := hid ((B6.out.trans (hB.out.mono B6.out.size)).trans (hT.out.mono (B6.out.trans (hB.out.mono B6.out.size)).size))
                  have d1 := (BW.out.cell (p := ⟨ga, oa + k, none⟩) hgaW).trans hcell
                  have d2 := (hT.out.cell (p := ⟨g, o + j, none⟩) (Nat.lt_of_lt_of_le hgW (B6.out.trans (hB.out.mono B6.out.size)).size)).trans C2.out
                  have x12 := LSM.out _ (getD_mem hkt)
                  have SN := hid (any_snoc (fun x => subB x y) hkt)
                  have i4 : (k : Int) < (l.length : Int) := by omega
                  clear hcell
                  generalize l.getD k 0 = x at d1 SN x12
                  have eN := u32_andNot_nat x y (by omega) (by omega)
                  generalize (l.take k).any (fun x => subB x y) = t at SN
                  have SB : Hid (subB x y = decide ((x &&& (4294967295 - y)) = 0)) := rfl
                  generalize x &&& (4294967295 - y) = q at eN SB
                  cases t with
                  | true =>
                    go_upto_region 25 with fail
                    go_quiet (fail)
                    go_wp2_with fail
                    go_roundw
                    case rel => exact ⟨k + 1, by omega, by go_num, by rw [SN.out]; rfl, below_drewN hT.out _⟩
                    case measure => simp [intOf]; omega
                  | false =>
                    by_cases hq : q = 0
                    · have z1 : ((q : Int) == 0) = true := by rw [hq]; rfl
                      have z2 : Hid (decide (q = 0) = true) := by show _ = _; rw [hq]; rfl
                      clear hq
                      go_upto_region 25 with fail
                      go_quiet (fail)
                      go_wp2_with fail
                      go_roundw
                      case rel => exact ⟨k + 1, by omega, by go_num, by rw [SN.out, SB.out, z2.out]; rfl, below_drewN hT.out _⟩
                      case measure => simp [intOf]; omega
                    · have z1 : ((q : Int) == 0) = false := by rw [beq_eq_false_iff_ne]; omega
                      have z2 : Hid (decide (q = 0) = false) := by show _ = _; simpa using hq
                      clear hq
                      go_upto_region 25 with fail
                      go_quiet (fail)
                      go_wp2_with fail
                      go_roundw
                      case rel => exact ⟨k + 1, by omega, by go_num, by rw [SN.out, SB.out, z2.out]; rfl, below_drewN hT.out _⟩
                      case measure => simp [intOf]; omega
                · obtain rfl : k = l.length := by omega
                  rw [List.take_length]
                  cases ht : l.any (fun x => subB x y) with
                  | true =>
                    have N : Hid (∀ i, i < j + 1 → l.any (fun k => subB k (m.getD i 0)) = true) := fun i hi => by
                      by_cases e : i = j
                      · subst e; rw [HY.out]; exact ht
                      · exact hold.out i (by omega)
                    clear ht
                    go_wp2_with fail
                    go_roundw
                    case rel => exact ⟨j + 1, by omega, by go_num, N, hB.out.trans (hT.out.mono hB.out.size)⟩
                    case measure => simp [intOf]; omega
                  | false =>
                    clear ht
                    go_wp2_with fail
                    go_ret
                    exact ⟨rfl, B6.out.trans ((hB.out.trans (hT.out.mono hB.out.size)).mono B6.out.size)⟩
            · obtain rfl : j = m.length := by omega
              have EQ : a = b := SAME.out fun y hy => by
                obtain ⟨i, hi, rfl⟩ := List.getElem_of_mem hy
                have := hold.out i hi
                rwa [List.getD_eq_getElem?_getD, List.getElem?_eq_getElem hi] at this
              have EA := hid EQ
              have lla := hid (ofN_len a)
              have llb := hid (ofN_len b)
              have AW := hid (ofN_wf (l := a) fun x hx => by have := ASM.out x hx; omega)
              have BWF := hid (ofN_wf (l := b) fun x hx => by have := BSM.out x hx; omega)
              have IA : Hid (IntsIn .u32 (fun _ => True) wo (.slice Aa a.length ca) (ofN a)) := by
                have h := own_below A6.out hB.out
                show IntsIn _ _ _ _ _
                rw [← ofN_len a] at h ⊢
                exact (ints_of_own h AW.out).more fun _ _ => trivial
              have IB : Hid (IntsIn .u32 (fun _ => True) wo (.slice Ab b.length cb) (ofN b)) := by
                have h := own_below H6.out.1 hB.out
                show IntsIn _ _ _ _ _
                rw [← ofN_len b] at h ⊢
                exact (ints_of_own h BWF.out).more fun _ _ => trivial
              clear EQ
              go_wp2_with fail
              refine (sets_any (ofN a) (ofN b) _ _ _ wo IA.out IB.out).mono ?_
              rintro e w9 ⟨rfl, q, rfl⟩
              have D : decide (ofN a = ofN b) = true := by rw [EA.out]; simp
              rw [D]
              clear D
              go_wp2_with fail
              go_ret
              exact ⟨rfl, below_drewN (B6.out.trans (hB.out.mono B6.out.size)) _⟩
    · rw [e1, errV_0, errV_no e2]
      have E2 := hid e2
      clear e1 e2
      go_wp2_with fail
      go_ret
      exact ⟨rfl, B6.out⟩
  · rw [errV_no e1]
    clear e1
    go_wp2_with fail
    go_ret
    exact ⟨rfl, B6.out⟩
end Go.Proofs.Ytfkklhmamhcbhaa
