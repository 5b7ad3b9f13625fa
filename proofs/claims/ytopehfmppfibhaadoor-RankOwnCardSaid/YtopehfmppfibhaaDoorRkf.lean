/- What rank.branches returns of a right generator, clear of one block. Condition: that. -/
import Derived.Test.YtopehfmppfibhaaDoorRkd
namespace Go.Proofs.YtopehfmppfibhaaDoor
open Go.RowKit Go.Deep
def BInvD (d B : Nat) (v : Value) (ll : List (List Ge)) (w : World) : Prop :=
  ∃ cs, w.ownsRow B 22 1 v ll.length cs ∧ ∀ i, (h : i < ll.length) → ∃ r, cs[i]? = some r ∧ GesV (fun b => (b < w.heap.size ∧ b ≠ d) ∧ v.ownBlock ≠ some b) w r ll[i]
theorem BInvD.nil_ (d B : Nat) (w : World) : BInvD d B (.slice none 0 0) [] w := ⟨[], World.ownsRow_nil _ _ _ _, fun i h => by simp at h⟩
theorem BInvD.brs {d B : Nat} {v : Value} {ll : List (List Ge)} {w : World} (hd : d < B) (h : BInvD d B v ll w) : BrsV (fun b => b < w.heap.size ∧ b ≠ d) w v ll := by
  obtain ⟨cs, h1, h2⟩ := h
  rcases h1.2 with ⟨rfl, h0⟩ | ⟨g, cap, cur, rfl, hb, hh, hc1, hc2, _⟩
  · exact ⟨none, 0, by rw [h0], by omega, by omega, fun h => absurd h (by omega)⟩
  · refine ⟨_, cap, rfl, hc1, by unfold maxLen at hc2; omega, fun hn => ⟨g, 0, rfl, ⟨Has.lt hh, by omega⟩, fun i hi => ?_⟩⟩
    obtain ⟨r, h3, h4⟩ := h2 i hi
    exact ⟨r, by rw [Nat.zero_add]; exact (h1.cellAt i (by omega)).trans h3, h4.more fun b hb => hb.1⟩
theorem binvD_snoc {d B : Nat} {v v5 r : Value} {ll : List (List Ge)} {x : List Ge} {w w5 : World} {cs : List Value} (hB : B ≤ w.heap.size) (h1 : w.ownsRow B 22 1 v ll.length cs) (h2 : ∀ i, (h : i < ll.length) → ∃ r, cs[i]? = some r ∧ GesV (fun b => (b < w.heap.size ∧ b ≠ d) ∧ v.ownBlock ≠ some b) w r ll[i])
    (hx : GesV (fun b => (b < w.heap.size ∧ b ≠ d) ∧ v.ownBlock ≠ some b) w r x) (hown5 : w5.ownsRow B 22 1 v5 (ll.length + 1) (cs ++ [r])) (hgrow5 : w.grownBy w5 v.ownBlock) (hat5 : v5.ownBlock = v.ownBlock ∨ v5.ownBlock = some w.heap.size) :
    BInvD d B v5 (ll ++ [x]) w5 ∧ Below B w w5 := by
  have s5 := hgrow5.size
  have SMF : Same (fun b => (b < w.heap.size ∧ b ≠ d) ∧ v.ownBlock ≠ some b) w w5 := fun b h => hgrow5.block b h.1.1 (fun e => h.2 e.symm)
  have MF : ∀ b, ((b < w.heap.size ∧ b ≠ d) ∧ v.ownBlock ≠ some b) → ((b < w5.heap.size ∧ b ≠ d) ∧ v5.ownBlock ≠ some b) := fun b k => ⟨⟨by have := k.1.1; omega, k.1.2⟩, fun e => by
    rcases hat5 with h | h
    · rw [h] at e; exact k.2 e
    · rw [h] at e; injection e with e; have := k.1; omega⟩
  refine ⟨⟨cs ++ [r], by rw [List.length_append]; exact hown5, fun i hi => ?_⟩, (Below.refl _ _).grown hgrow5 hB fun k hk => own_ge h1 k hk⟩
  have l1 : cs.length = ll.length * 1 := h1.1
  by_cases hl : i < ll.length
  · obtain ⟨r', h3, h4⟩ := h2 i hl
    exact ⟨r', by rw [List.getElem?_append_left (by omega)]; exact h3, by rw [List.getElem_append_left hl]; exact (h4.keep SMF).more MF⟩
  · have e : i = ll.length := by rw [List.length_append] at hi; simp at hi; omega
    subst e
    exact ⟨r, by rw [List.getElem?_append_right (by omega), show ll.length - cs.length = 0 by omega]; rfl, by simpa using (hx.keep SMF).more MF⟩
def BranchesPostD (d : Nat) (g : Ge) (w : World) (e : Ending) (w' : World) : Prop := ∃ v, e = .returned v ∧ BrsV (fun b => b < w'.heap.size ∧ b ≠ d) w' v g.brs ∧ (g.brs = [] → v = .slice none 0 0) ∧ Below w.heap.size w w'
set_option maxRecDepth 100000 in
set_option maxHeartbeats 2000000 in
theorem branchesD_int (a b : Int) (A : Option Addr) (n cp : Nat) (w : World) (d : Nat) (hd : d < w.heap.size) (h1 : oneE 2 a b n = 0) :
    Calls Tryd.prog 32 #[.agg #[.int .i64 2, .int .i64 a, .int .i64 b, .slice A n cp]] w fun e w' => ∃ v, e = .returned v ∧ BrsV (fun b => b < w'.heap.size ∧ b ≠ d) w' v (List.replicate (b - a + 1).toNat []) ∧ v ≠ .slice none 0 0 ∧ Below w.heap.size w w' := by
  obtain ⟨q1, q2, q3⟩ := oneE_int h1
  obtain ⟨m, hm⟩ : ∃ m : Nat, b - a = m := ⟨(b - a).toNat, by omega⟩
  have E2 : Hid ((b - a + 1).toNat = m + 1) := by show _ = _; rw [hm]; omega
  have q4 : wrap64 (b - a) = (m : Int) := by rw [q3, hm]
  obtain ⟨N, hN⟩ : ∃ N, N = m + 1 := ⟨_, rfl⟩
  have q5 : wrap64 ((m : Int) + 1) = (N : Int) := by unfold wrap64; omega
  have HN := hid hN
  have hmk := run_make_row' (P := Tryd.prog) 66 22 (.slice none 0 0) 24 Tryd.underlying66 infoGes rfl .i64 .i64 N (by omega) (by omega)
  simp only [madeG_list] at hmk
  replace hmk : ∀ w : World, Sem.run Tryd.prog (Instr.makeSlice 66 (.int .i64 N) (.int .i64 N)) w = .ok (.slice (some ⟨w.heap.size, 0, none⟩) N N) (w.alloc (.cells (nrowG N) 22)) := hmk
  have N1 : N ≤ 1001 := by omega
  obtain ⟨W, hW⟩ : ∃ W, W = w.alloc (.cells #[.int .i64 2, .int .i64 a, .int .i64 b, .slice A n cp] 24) := ⟨_, rfl⟩
  have BW : Hid (Below w.heap.size w W) := by show Below _ _ _; rw [hW]; exact (Below.refl _ _).alloc (Nat.le_refl _) _
  have BF : Hid (Below w.heap.size w (W.alloc (.cells (nrowG N) 22))) := BW.out.alloc BW.out.size _
  have RV : Hid (BrsV (fun b => b < (W.alloc (.cells (nrowG N) 22)).heap.size ∧ b ≠ d) (W.alloc (.cells (nrowG N) 22)) (.slice (some ⟨W.heap.size, 0, none⟩) N N) (List.replicate N [])) := by
    refine ⟨_, N, by rw [List.length_replicate], by rw [List.length_replicate]; exact Nat.le_refl _, by omega, fun _ => ⟨W.heap.size, 0, rfl, ⟨by simp, by rw [hW]; simp; omega⟩, fun i hi => ?_⟩⟩
    rw [List.length_replicate] at hi
    refine ⟨.slice none 0 0, ?_, by rw [List.getElem_replicate]; exact ⟨none, 0, rfl, by simp, by simp, fun h => absurd h (by simp)⟩⟩
    rw [Nat.zero_add, (Has.cell (Has.new W (.cells (nrowG N) 22)) i)]
    unfold nrowG
    simp [hi]
  have SW : Hid (W.heap.size = w.heap.size + 1) := by show _ = _; rw [hW]; simp
  have HW := hid hW
  clear h1 q1 q2 q3 hm hN hW BW
  go_enter Tryd.func32, Tryd.ntmps32
  go_wp2_with fail
  go_ret
  rw [← HW.out]
  exact ⟨.slice (some ⟨w.heap.size + 1, 0, none⟩) N N, rfl, by rw [E2.out, ← HN.out, ← SW.out]; exact RV.out, by simp, BF.out⟩
set_option maxRecDepth 100000 in
set_option maxHeartbeats 2000000 in
theorem branchesD_many (m : Nat) (b : Int) (y : Ge) (A : Option Addr) (cp : Nat) (w : World) (d : Nat) (hd : d < w.heap.size) (hm : m ≤ 5) (hs : ∃ bl off, A = some ⟨bl, off, none⟩ ∧ (bl < w.heap.size ∧ bl ≠ d) ∧ GesIn (fun b => b < w.heap.size ∧ b ≠ d) w [y] bl off) (_hcp : 1 ≤ cp) (_hcp2 : cp ≤ 9223372036854775807) :
    Calls Tryd.prog 32 #[.agg #[.int .i64 4, .int .i64 m, .int .i64 b, .slice A 1 cp]] w fun e w' => ∃ v, e = .returned v ∧ BrsV (fun b => b < w'.heap.size ∧ b ≠ d) w' v ((List.range (m + 1)).map fun i => List.replicate i y) ∧ Below w.heap.size w w' := by
  obtain ⟨bl, off, rfl, lb, hex⟩ := hs
  obtain ⟨W, hW⟩ : ∃ W, W = w.alloc (.cells #[.int .i64 4, .int .i64 m, .int .i64 b, .slice (some ⟨bl, off, none⟩) 1 cp] 24) := ⟨_, rfl⟩
  have SW : W.heap.size = w.heap.size + 1 := by rw [hW]; simp
  have BW : Hid (Below w.heap.size w W) := by show Below _ _ _; rw [hW]; exact (Below.refl _ _).alloc (Nat.le_refl _) _
  have X0 := hid (Has.new w (.cells #[.int .i64 4, .int .i64 m, .int .i64 b, .slice (some ⟨bl, off, none⟩) 1 cp] 24))
  rw [← hW] at X0
  have HW := hid hW
  have LB := hid lb
  obtain ⟨a1, b1, c1, e1, q1, q2, q3, q4, hy⟩ := (GesIn.keep (Same.of_below BW.out (fun b h => h.1)) [y] lb hex).at_ (i := 0) (by simp)
  have HY : Hid (GeIn (fun b => b < w.heap.size ∧ b ≠ d) W y a1 b1 c1 e1) := hy
  have TA := hid (times_any y)
  have R0 := World.ownsRow_nil
  obtain ⟨ig, hi1, hy0, hy1, hy2⟩ := info_parts infoGes
  generalize hG : y = G at HY TA hex ⊢
  obtain ⟨k1, m1, n1, s1⟩ := y
  obtain ⟨A1, cp1, rfl, rfl, rfl, rfl, _, _, _⟩ := (show GeIn (fun b => b < w.heap.size ∧ b ≠ d) W (.mk k1 m1 n1 s1) a1 b1 c1 e1 from by rw [hG]; exact HY.out).box
  simp only [Nat.zero_mul, Nat.add_zero] at q1 q2 q3 q4
  have Q := hid (show W.cell? ⟨bl, off, none⟩ = some (.int .i64 k1) ∧ W.cell? ⟨bl, off + 1, none⟩ = some (.int .i64 m1) ∧ W.cell? ⟨bl, off + 2, none⟩ = some (.int .i64 n1) ∧ W.cell? ⟨bl, off + 3, none⟩ = some (.slice A1 s1.length cp1) from ⟨q1, q2, q3, q4⟩)
  clear hex hy hW hG q1 q2 q3 q4 R0 lb
  have m1' : wrap64 ((m : Int) + 1) = (m : Int) + 1 := by unfold wrap64; omega
  go_enter Tryd.func32, Tryd.ntmps32
  go_wp2_with fail
  rw [← HW.out]
  go_loopw [3, 23] (fun ov iv wr => ∃ (i : Nat), i ≤ m + 1 ∧ iv = .int .i64 i ∧ Hid (BInvD d W.heap.size ov ((List.range i).map fun i => List.replicate i G) wr) ∧ Hid (Below W.heap.size W wr)) (fun _ iv _ => m + 1 - (intOf iv).toNat)
  case atStart => exact ⟨0, Nat.zero_le _, rfl, BInvD.nil_ _ _ _, Below.refl _ _⟩
  case round =>
    obtain ⟨i, hi, rfl, hO, hB⟩ := hrel
    obtain ⟨wo, rfl⟩ : ∃ wo : World, wo = wr := ⟨_, rfl⟩
    have lB := hB.out.size
    by_cases hlt : i < m + 1
    · have X1 := Has.below X0.out hB.out (by omega)
      have x0 := Has.cell X1 0
      have x1 := Has.cell X1 1
      have x2 := Has.cell X1 2
      have x3 := Has.cell X1 3
      simp at x0 x1 x2 x3
      obtain ⟨q1, q2, q3, q4⟩ := Q.out
      have lb := LB.out.1
      have r1 := (hB.out.cell (p := ⟨bl, off, none⟩) (by show bl < _; omega)).trans q1
      have r2 := (hB.out.cell (p := ⟨bl, off + 1, none⟩) (by show bl < _; omega)).trans q2
      have r3 := (hB.out.cell (p := ⟨bl, off + 2, none⟩) (by show bl < _; omega)).trans q3
      have r4 := (hB.out.cell (p := ⟨bl, off + 3, none⟩) (by show bl < _; omega)).trans q4
      have i1 : (i : Int) < (m : Int) + 1 := by omega
      clear X1 q1 q2 q3 q4
      go_wp2_with fail
      refine (TA.out i (by omega) (fun b => b < w.heap.size ∧ b ≠ d) _ _ _ _ wo (fun q hq => by omega) (GeIn.keep (fun q hq => hB.out.block q (by omega)) _ HY.out)).mono ?_
      rintro e w2 ⟨v2, rfl, hv2, hb2⟩
      obtain ⟨A2, c2, rfl, z1, z2, z3⟩ := hv2
      have HV2 : Hid (GesV (fun b => (wo.heap.size ≤ b ∧ b < w2.heap.size) ∨ (b < w.heap.size ∧ b ≠ d)) w2 (.slice A2 (List.replicate i G).length c2) (List.replicate i G)) := ⟨A2, c2, rfl, z1, z2, z3⟩
      rw [List.length_replicate] at HV2 ⊢
      have B2 := hid hb2
      have s2 := hb2.size
      obtain ⟨cs, o1, o2⟩ := hO.out
      rw [List.length_map, List.length_range] at o1
      have O1 := hid (own_below o1 hb2)
      have OW := hid (own_lt o1)
      have O2 := hid o2
      have AO := hid (O1.out.alloc (.cells #[.slice A2 i c2] 22))
      have CO := hid (cells_oneG w2 (.slice A2 i c2) 22 rfl)
      clear hb2 z1 z2 z3 x0 x1 x2 x3 r1 r2 r3 r4 o1 o2
      go_wp2_with (at_builtin; refine wpList_app _ rfl (.tmp 26) (.tmp 33) 66 rfl W.heap.size 22 ig (.slice none 0 0) 1 24 Tryd.underlying66 hi1 hy0 hy1 hy2 rfl (by decide) _ _ _ rfl AO.out _ _ 1 _ rfl CO.out (by intro u hu; simp at hu; subst hu; rfl) (by unfold maxLen; omega) (by omega) (by simp; omega) ?_; intro v1 w1 hown hgrow hat; have R1 := hid hown; have G1 := hid hgrow; have T1 := hid hat; clear hown hgrow hat)
      have L1 : ((List.range i).map fun i => List.replicate i G).length = i := by simp
      have NB := hid (binvD_snoc (d := d) (B := W.heap.size) (w := w2.alloc (.cells #[.slice A2 i c2] 22)) (w5 := w1) (r := .slice A2 i c2) (ll := (List.range i).map fun i => List.replicate i G) (x := List.replicate i G) (cs := cs) (by simp; omega) (by rw [L1]; exact AO.out) (fun j hj => by
        obtain ⟨r, h3, h4⟩ := O2.out j hj
        exact ⟨r, h3, (h4.keep fun q hq => (Below.heap_alloc _ _ _ (by have := hq.1.1; omega)).trans (B2.out.block q hq.1.1)).more fun q hq => ⟨⟨by have := hq.1.1; simp; omega, hq.1.2⟩, hq.2⟩⟩) ((HV2.out.keep fun q hq => Below.heap_alloc _ _ _ (by rcases hq with h | h <;> omega)).more fun q hq => ⟨⟨by simp; rcases hq with h | h <;> omega, by rcases hq with h | h <;> omega⟩, fun e => by have h1 := OW.out q e; have h2 := own_ge O1.out q e; rcases hq with h | h <;> omega⟩) (by rw [L1]; exact R1.out) G1.out T1.out)
      have e : (List.range (i + 1)).map (fun i => List.replicate i G) = ((List.range i).map fun i => List.replicate i G) ++ [List.replicate i G] := by rw [List.range_succ, List.map_append]; rfl
      rw [← e] at NB
      have BF : Hid (Below W.heap.size W w1) := (hB.out.trans (((B2.out.alloc s2 _).mono lB).trans (NB.out.2.mono (Nat.le_refl _))))
      have NI := hid NB.out.1
      clear e NB L1 CO G1 T1 R1 AO
      go_roundw
      case rel => exact ⟨i + 1, by omega, by go_num, NI, BF⟩
      case measure => simp [intOf]; omega
    · obtain rfl : i = m + 1 := by omega
      have BF := hid (BW.out.trans (hB.out.mono (by omega)))
      have FV := hid (hO.out.brs (by omega))
      go_wp2_with fail
      go_ret
      exact ⟨_, rfl, FV.out, BF.out⟩
set_option maxRecDepth 100000 in
set_option maxHeartbeats 2000000 in
theorem branchesD_any_of (a b : Int) (s : List Ge) (A : Option Addr) (cp : Nat) (w : World) (d : Nat) (hd : d < w.heap.size) (h30 : s.length ≤ 30) (hs : 0 < s.length → ∃ bl off, A = some ⟨bl, off, none⟩ ∧ (bl < w.heap.size ∧ bl ≠ d) ∧ GesIn (fun b => b < w.heap.size ∧ b ≠ d) w s bl off) (hcp : s.length ≤ cp) (hcp2 : cp ≤ 9223372036854775807) :
    Calls Tryd.prog 32 #[.agg #[.int .i64 5, .int .i64 a, .int .i64 b, .slice A s.length cp]] w fun e w' => ∃ v, e = .returned v ∧ BrsV (fun b => b < w'.heap.size ∧ b ≠ d) w' v (s.map fun y => [y]) ∧ Below w.heap.size w w' := by
  have HS := hid hs
  obtain ⟨W, hW⟩ : ∃ W, W = w.alloc (.cells #[.int .i64 5, .int .i64 a, .int .i64 b, .slice A s.length cp] 24) := ⟨_, rfl⟩
  have SW : W.heap.size = w.heap.size + 1 := by rw [hW]; simp
  have BW : Hid (Below w.heap.size w W) := by show Below _ _ _; rw [hW]; exact (Below.refl _ _).alloc (Nat.le_refl _) _
  have HW := hid hW
  obtain ⟨ig, hi1, hy0, hy1, hy2⟩ := info_parts infoGes
  clear hs hW
  go_enter Tryd.func32, Tryd.ntmps32
  go_wp2_with fail
  rw [← HW.out]
  go_loopw [3, 41] (fun ov iv wr => ∃ (i : Nat), i ≤ s.length ∧ iv = .int .i64 i ∧ Hid (BInvD d W.heap.size ov ((s.take i).map fun y => [y]) wr) ∧ Hid (Below W.heap.size W wr)) (fun _ iv _ => s.length - (intOf iv).toNat)
  case atStart => exact ⟨0, Nat.zero_le _, rfl, by rw [List.take_zero]; exact BInvD.nil_ _ _ _, Below.refl _ _⟩
  case round =>
    obtain ⟨i, hi, rfl, hO, hB⟩ := hrel
    obtain ⟨wo, rfl⟩ : ∃ wo : World, wo = wr := ⟨_, rfl⟩
    have lB := hB.out.size
    by_cases hlt : i < s.length
    · obtain ⟨bl, off, rfl, lb, hex⟩ := HS.out (by omega)
      obtain ⟨a1, b1, c1, e1, q1, q2, q3, q4, hy⟩ := (GesIn.keep (w' := wo) (fun q hq => (hB.out.block q (by omega)).trans (BW.out.block q hq.1)) s lb hex).at_ hlt
      have HY := hid hy
      have TK := hid (gtake_succ hlt)
      obtain ⟨y, hy0⟩ : ∃ y, y = s[i] := ⟨_, rfl⟩
      rw [← hy0] at HY TK hy
      obtain ⟨k1, m1, n1, s1⟩ := y
      obtain ⟨A1, cp1, rfl, rfl, rfl, rfl, _, _, _⟩ := hy.box
      have i1 : (i : Int) < (s.length : Int) := by omega
      have HI := hid hlt
      obtain ⟨cs, o1, o2⟩ := hO.out
      have L1 : ((s.take i).map fun y => [y]).length = i := by simp; omega
      rw [L1] at o1
      have O1 := hid o1
      have O2 := hid o2
      have OW := hid (own_lt o1)
      obtain ⟨w2, hw2⟩ : ∃ w2, w2 = (wo.alloc (.cells #[.int .i64 k1, .int .i64 m1, .int .i64 n1, .slice A1 s1.length cp1] 24)).alloc (.cells #[.int .i64 k1, .int .i64 m1, .int .i64 n1, .slice A1 s1.length cp1] 24) := ⟨_, rfl⟩
      have B2 : Hid (Below wo.heap.size wo w2) := by show Below _ _ _; rw [hw2]; exact ((Below.refl _ _).alloc (Nat.le_refl _) _).alloc (by simp) _
      have s2 : w2.heap.size = wo.heap.size + 2 := by rw [hw2]; simp
      have HV2 : Hid (GesV (fun b => b < w2.heap.size ∧ wo.heap.size ≤ b ∨ (b < w.heap.size ∧ b ≠ d)) w2 (.slice (some ⟨wo.heap.size + 1, 0, none⟩) 1 1) [.mk k1 m1 n1 s1]) := by
        have X1 := Has.newAt (g := wo.heap.size + 1) (wo.alloc (.cells #[.int .i64 k1, .int .i64 m1, .int .i64 n1, .slice A1 s1.length cp1] 24)) (.cells #[.int .i64 k1, .int .i64 m1, .int .i64 n1, .slice A1 s1.length cp1] 24) (by simp)
        rw [← hw2] at X1
        refine ⟨_, 1, rfl, by simp, by omega, fun _ => ⟨wo.heap.size + 1, 0, rfl, .inl (by omega), GesIn.mk_ fun j hj => ?_⟩⟩
        obtain rfl : j = 0 := by simpa using hj
        exact ⟨_, _, _, _, (Has.cell X1 0).trans rfl, (Has.cell X1 1).trans rfl, (Has.cell X1 2).trans rfl, (Has.cell X1 3).trans rfl, GeIn.more (fun q hq => .inr hq) _ (GeIn.keep (fun q hq => B2.out.block q (by omega)) _ HY.out)⟩
      have AO := hid ((own_below o1 B2.out).alloc (.cells #[.slice (some ⟨wo.heap.size + 1, 0, none⟩) 1 1] 22))
      have CO := hid (cells_oneG (g := wo.heap.size + 1 + 1) w2 (.slice (some ⟨wo.heap.size + 1, 0, none⟩) 1 1) 22 (by omega))
      have W2 := hid hw2
      rw [hw2] at AO CO
      clear hex hy hy0 o1 o2 hw2 hO lb
      go_wp2_with (at_builtin; refine wpList_app _ rfl (.tmp 45) (.tmp 48) 66 rfl W.heap.size 22 ig (.slice none 0 0) 1 24 Tryd.underlying66 hi1 hy0 hy1 hy2 rfl (by decide) _ _ _ rfl AO.out _ _ 1 _ rfl CO.out (by intro u hu; simp at hu; subst hu; rfl) (by unfold maxLen; omega) (by omega) (by simp; omega) ?_; intro v1 w1 hown hgrow hat; have R1 := hid hown; have G1 := hid hgrow; have T1 := hid hat; clear hown hgrow hat)
      rw [← W2.out] at G1 T1 AO
      have NB := hid (binvD_snoc (d := d) (B := W.heap.size) (w := w2.alloc (.cells #[.slice (some ⟨wo.heap.size + 1, 0, none⟩) 1 1] 22)) (w5 := w1) (r := .slice (some ⟨wo.heap.size + 1, 0, none⟩) 1 1) (ll := (s.take i).map fun y => [y]) (x := [.mk k1 m1 n1 s1]) (cs := cs) (by simp; omega) (by rw [L1]; exact AO.out) (fun j hj => by
        obtain ⟨r, h3, h4⟩ := O2.out j hj
        exact ⟨r, h3, (h4.keep fun q hq => (Below.heap_alloc _ _ _ (by have := hq.1.1; omega)).trans (B2.out.block q hq.1.1)).more fun q hq => ⟨⟨by have := hq.1.1; simp; omega, hq.1.2⟩, hq.2⟩⟩) ((HV2.out.keep fun q hq => Below.heap_alloc _ _ _ (by rcases hq with h | h <;> omega)).more fun q hq => ⟨⟨by simp; rcases hq with h | h <;> omega, by rcases hq with h | h <;> omega⟩, fun e => by have h1 := OW.out q e; have h2 := own_ge O1.out q e; rcases hq with h | h <;> omega⟩) (by rw [L1]; exact R1.out) G1.out T1.out)
      have e : (s.take (i + 1)).map (fun y => [y]) = ((s.take i).map fun y => [y]) ++ [[.mk k1 m1 n1 s1]] := by rw [TK.out, List.map_append]; rfl
      rw [← e] at NB
      have BF : Hid (Below W.heap.size W w1) := (hB.out.trans (((B2.out.alloc (by omega) _).mono lB).trans (NB.out.2.mono (Nat.le_refl _))))
      have NI := hid NB.out.1
      clear e NB L1 CO G1 T1 R1 AO
      go_roundw
      case rel => exact ⟨i + 1, by have := HI.out; omega, by go_num, NI, BF⟩
      case measure => simp [intOf]; have := HI.out; omega
    · obtain rfl : i = s.length := by omega
      have BF := hid (BW.out.trans (hB.out.mono (by omega)))
      have FV := hid (hO.out.brs (by omega))
      rw [List.take_length] at FV
      go_wp2_with fail
      go_ret
      exact ⟨_, rfl, FV.out, BF.out⟩
/-- of a right generator that is no Both -/
theorem branchesD_good (g : Ge) (hg : GoodG g) (hk : g.k ≠ 3) (u v x c : Value) (w : World) (d : Nat) (hd : d < w.heap.size) (hx : GeIn (fun b => b < w.heap.size ∧ b ≠ d) w g u v x c) :
    Calls Tryd.prog 32 #[.agg #[u, v, x, c]] w (BranchesPostD d g w) := by
  obtain ⟨k, a, b, s⟩ := g
  obtain ⟨hkk, h2, h4, h5, _⟩ := right_kind hg.right
  have O1 := (Ge.err_parts hg.right).1
  have hw := hg.wide
  obtain ⟨A, cp, rfl, rfl, rfl, rfl, l1, l2, hs⟩ := hx.box
  rcases hkk with rfl | rfl | rfl | rfl | rfl
  · refine (branches_just a b A s.length cp w).mono ?_
    rintro e w1 ⟨rfl, hb⟩
    have e : (Ge.mk 1 a b s).brs = [] := by rw [Ge.brs, if_neg (by decide), if_neg (by decide), if_neg (by decide)]
    refine ⟨_, rfl, ?_, fun _ => rfl, hb⟩
    rw [e]
    exact ⟨none, 0, rfl, by simp, by omega, fun h => absurd h (by simp)⟩
  · refine (branchesD_int a b A s.length cp w d hd O1).mono ?_
    rintro e w1 ⟨v, rfl, h1, h3, hb⟩
    have e : (Ge.mk 2 a b s).brs = List.replicate (b - a + 1).toNat [] := by rw [Ge.brs, if_pos rfl]
    refine ⟨v, rfl, by rw [e]; exact h1, fun h => ?_, hb⟩
    rw [e] at h
    have := congrArg List.length h
    simp at this
    have := (h2 rfl).1
    omega
  · exact absurd rfl hk
  · obtain ⟨a0, a5, sl⟩ := h4 rfl
    obtain ⟨m, rfl⟩ : ∃ m : Nat, a = m := ⟨a.toNat, by omega⟩
    match s, sl with
    | [y], _ =>
      obtain ⟨bl, off, rfl, hb, hex⟩ := hs (by simp)
      refine (branchesD_many m b y _ cp w d hd (by omega) ⟨bl, off, rfl, hb, hex⟩ (by simpa using l1) l2).mono ?_
      rintro e w1 ⟨v, rfl, h1, hb⟩
      have e : (Ge.mk 4 m b [y]).brs = (List.range (m + 1)).map fun i => List.replicate i y := by
        rw [Ge.brs, if_neg (by decide), if_pos rfl]; rfl
      refine ⟨v, rfl, by rw [e]; exact h1, fun h => ?_, hb⟩
      rw [e] at h
      have := congrArg List.length h
      simp at this
  · refine (branchesD_any_of a b s A cp w d hd hw hs l1 l2).mono ?_
    rintro e w1 ⟨v, rfl, h1, hb⟩
    have e : (Ge.mk 5 a b s).brs = s.map fun y => [y] := by rw [Ge.brs, if_neg (by decide), if_neg (by decide), if_pos rfl]
    refine ⟨v, rfl, by rw [e]; exact h1, fun h => ?_, hb⟩
    rw [e] at h
    have := h5 rfl
    have := congrArg List.length h
    simp at this
    subst this
    simp at *
end Go.Proofs.YtopehfmppfibhaaDoor
