/- What rose.Less returns of a tape that replays: a list and no fault; of noughts that all mend to it an empty list. Conditions: the generator checks; the tape replays; its choices are 0 to 1000. -/
import Derived.Test.YtkpgedejabahaaaRtr
import Derived.Test.YtkpgedejabahaaaGrp
import Derived.Test.YtkpgedejabahaaaGnw
namespace Go.Proofs.Ytkpgedejabahaaa
open Go.RowKit Go.Deep
/-- a list of tapes in a row of its own -/
def TriesX (B : Nat) (P : Prop) (w : World) (n : Nat) (v : Value) (xs : List Value) : Prop := w.ownsRow B 25 1 v n xs ∧ ∀ u ∈ xs, ∃ zs, IntsIn .i64 (fun b => B ≤ b ∧ b < w.heap.size ∧ v.ownBlock ≠ some b) w u zs ∧ (P → ∀ z ∈ zs, z = 0)
section
variable {B n m : Nat} {P : Prop} {w w' w5 : World} {v v5 : Value} {xs news : List Value} {o : Obj}
theorem TriesX.nil : TriesX B P w 0 (.slice none 0 0) [] := ⟨World.ownsRow_nil _ _ _ _, fun u hu => by cases hu⟩
theorem TriesX.keep (h : TriesX B P w n v xs) (hs : ∀ b, B ≤ b → b < w.heap.size → w'.heap[b]? = w.heap[b]?) (hz : w.heap.size ≤ w'.heap.size) : TriesX B P w' n v xs := by
  refine ⟨own_keep h.1 fun k hk => hs k (own_ge h.1 k hk) (own_lt h.1 k hk), fun u hu => ?_⟩
  obtain ⟨zs, h1, h2⟩ := h.2 u hu
  exact ⟨zs, (h1.keep fun b hb => hs b hb.1 hb.2.1).more fun b hb => ⟨hb.1, by omega, hb.2.2⟩, h2⟩
theorem TriesX.app (h : TriesX B P w n v xs) (hnew : ∀ u ∈ news, ∃ zs, IntsIn .i64 (fun b => B ≤ b ∧ b < w.heap.size ∧ v.ownBlock ≠ some b) w u zs ∧ (P → ∀ z ∈ zs, z = 0)) (ho : w5.ownsRow B 25 1 v5 (n + m) (xs ++ news)) (hg : (w.alloc o).grownBy w5 v.ownBlock) (ha : v5.ownBlock = v.ownBlock ∨ v5.ownBlock = some (w.alloc o).heap.size) : TriesX B P w5 (n + m) v5 (xs ++ news) := by
  have sg := hg.size
  simp only [World.size_alloc] at sg
  refine ⟨ho, fun u hu => ?_⟩
  have key : ∀ zs, IntsIn .i64 (fun b => B ≤ b ∧ b < w.heap.size ∧ v.ownBlock ≠ some b) w u zs → IntsIn .i64 (fun b => B ≤ b ∧ b < w5.heap.size ∧ v5.ownBlock ≠ some b) w5 u zs := fun zs h1 =>
    (h1.keep fun b hb => (hg.block b (by simp; omega) fun e => hb.2.2 e.symm).trans (Below.heap_alloc _ _ _ hb.2.1)).more fun b hb => ⟨hb.1, by omega, by
      rcases ha with e | e
      · rw [e]; exact hb.2.2
      · rw [e]; intro h; injection h with h; simp at h; omega⟩
  rcases List.mem_append.1 hu with hu | hu
  · obtain ⟨zs, h1, h2⟩ := h.2 u hu; exact ⟨zs, key zs h1, h2⟩
  · obtain ⟨zs, h1, h2⟩ := hnew u hu; exact ⟨zs, key zs h1, h2⟩
theorem TriesX.at_ (h : TriesX B P w n v xs) {i : Nat} (hi : i < n) : ∃ g c u zs, v = .slice (some ⟨g, 0, none⟩) n c ∧ B ≤ g ∧ g < w.heap.size ∧ w.cell? ⟨g, i, none⟩ = some u ∧ IntsIn .i64 (fun b => B ≤ b ∧ b < w.heap.size) w u zs ∧ (P → ∀ z ∈ zs, z = 0) := by
  obtain ⟨g, c, e, h1, h2, _, _, h3⟩ := own_open h.1 (by omega)
  have hl := h.1.1
  have hi' : i < xs.length := by omega
  obtain ⟨zs, h4, h5⟩ := h.2 xs[i] (List.getElem_mem hi')
  exact ⟨g, c, xs[i], zs, e, h1, h2, by rw [h3 i (by omega), List.getElem?_eq_getElem hi'], h4.more fun b hb => ⟨hb.1, hb.2.1⟩, h5⟩
end
/-- a tape that is tried -/
def TryV (B : Nat) (P : Prop) (w : World) (u : Value) : Prop := ∃ zs, IntsIn .i64 (fun b => B ≤ b ∧ b < w.heap.size) w u zs ∧ (P → ∀ z ∈ zs, z = 0)
theorem TryV.keep {B B' : Nat} {P : Prop} {w w' : World} {u : Value} (h : TryV B P w u) (hb : Below B' w w') (hB : w.heap.size ≤ B') : TryV B P w' u := by
  obtain ⟨zs, h1, h2⟩ := h
  have := hb.size
  exact ⟨zs, (h1.keep (Same.of_below hb fun b h => by omega)).more fun b h => ⟨h.1, by omega⟩, h2⟩
theorem TryV.own {B B' n : Nat} {P : Prop} {w : World} {e : TypeId} {r : Value} {zs : List Int} (h : w.ownsRow B' e 1 r n (zs.map (Value.int .i64))) (hB : B ≤ B') (hw : ∀ z ∈ zs, 0 ≤ z ∧ z ≤ 1000) (hP : ¬ P) : TryV B P w r :=
  ⟨zs, (own_intsR h (wf1000 hw)).more fun b hb => ⟨Nat.le_trans hB (own_ge h b hb), own_lt h b hb⟩, fun h => absurd h hP⟩
theorem TryV.new_ {B : Nat} {P : Prop} {w : World} {u v : Value} (h : TryV B P w u) (hv : v.ownBlock = none) : ∃ zs, IntsIn .i64 (fun b => B ≤ b ∧ b < w.heap.size ∧ v.ownBlock ≠ some b) w u zs ∧ (P → ∀ z ∈ zs, z = 0) := by
  obtain ⟨zs, h1, h2⟩ := h
  exact ⟨zs, h1.more fun b hb => ⟨hb.1, hb.2, by rw [hv]; simp⟩, h2⟩
theorem set1000 {l : List Int} (h : ∀ z ∈ l, 0 ≤ z ∧ z ≤ 1000) {j : Nat} {x : Int} (hx : 0 ≤ x ∧ x ≤ 1000) : ∀ z ∈ l.set j x, 0 ≤ z ∧ z ≤ 1000 := fun z hz => by
  rcases List.mem_or_eq_of_mem_set hz with h1 | h1
  · exact h z h1
  · rw [h1]; exact hx
theorem cells_threeG (w : World) (x y z : Value) (t : TypeId) {g : Nat} (hg : g = w.heap.size) : CellsIn (fun b => b = g) (w.alloc (.cells #[x, y, z] t)) 1 (.slice (some ⟨g, 0, none⟩) 3 3) 3 [x, y, z] := by
  subst hg
  exact ⟨_, 3, rfl, rfl, fun _ => ⟨w.heap.size, 0, rfl, rfl, fun j u hj => by
    match j, hj with
    | 0, hj => simp at hj; subst hj; simp
    | 1, hj => simp at hj; subst hj; simp
    | 2, hj => simp at hj; subst hj; simp⟩⟩
theorem below_app {B : Nat} {w0 w w5 : World} {o : Obj} {r : Option Nat} (h : Below B w0 w) (hB : B ≤ w.heap.size) (hg : (w.alloc o).grownBy w5 r) (hr : ∀ k, r = some k → B ≤ k) : Below B w0 w5 :=
  (h.alloc hB o).grown hg (by simp; omega) hr
theorem less_below (w : World) (o1 o2 : Obj) : Below w.heap.size w ((w.alloc o1).alloc o2) := ((Below.refl _ _).alloc (Nat.le_refl _) _).alloc (by simp) _
def LessPost (P : Prop) (w : World) (e : Ending) (w' : World) : Prop := ∃ A n c, e = .returned (.tuple #[.slice A n c, .nilIface]) ∧ Below w.heap.size w w' ∧ (P → n = 0)
set_option maxRecDepth 100000 in
set_option maxHeartbeats 4000000 in
theorem less_any (g : Ge) (l : List Int) (z : Va) (P : Prop) (F : Nat → Prop) (u v x c lv : Value) (w : World) (hF : ∀ b, F b → b < w.heap.size) (hx : GeIn F w g u v x c) (hl : IntsIn .i64 F w lv l) (hc : chkG g = 0) (hr : g.made.run (replayF l) 0 = .ok (l.length, z)) (hz : ∀ z ∈ l, 0 ≤ z ∧ z ≤ 1000) (hn : l.length ≤ 1000000000) (hP : P → (∀ z ∈ l, z = 0) ∧ ∀ t, (∀ z ∈ t, z = 0) → mendL g t = l) :
    Calls Try.prog 11 #[.agg #[u, v, x, c], lv] w (LessPost P w) := by
  have HX := hid hx
  have HL := hid hl
  have HF := hid hF
  have HP := hid hP
  have HZ := hid hz
  have HC := hid hc
  have RP := hid (replay_ok g l z F u v x c lv)
  have RN := hid hr
  have TA := hid (try_any g l)
  obtain ⟨k, a, b, s⟩ := g
  obtain ⟨A, cp, rfl, rfl, rfl, rfl, l1, l2, _⟩ := hx.box
  generalize hG : Ge.mk k a b s = G at *
  obtain ⟨Al, cl, rfl, lm, _, la⟩ := hl
  unfold maxLen at lm
  have LA := hid la
  clear hF hx hG hP hz hc hr la
  have hmf : ∀ (fn : Fn) (first cap : Array Value) (w : World), (Instr.makeFunc fn first cap).run Try.prog w = .ok (.func fn first cap) w := fun _ _ _ _ => rfl
  have W2 : Hid (Below w.heap.size w ((w.alloc (.cells #[.int .i64 k, .int .i64 a, .int .i64 b, .slice A s.length cp] 24)).alloc (.cells #[.slice Al l.length cl] 25))) := ((Below.refl _ _).alloc (Nat.le_refl _) _).alloc (by simp) _
  have X0 : Hid (((w.alloc (.cells #[.int .i64 k, .int .i64 a, .int .i64 b, .slice A s.length cp] 24)).alloc (.cells #[.slice Al l.length cl] 25)).heap[w.heap.size]? = some (.cells #[.int .i64 k, .int .i64 a, .int .i64 b, .slice A s.length cp] 24 (0, 0))) := Has.alloc (Has.new _ _) _
  have X1 : Hid (((w.alloc (.cells #[.int .i64 k, .int .i64 a, .int .i64 b, .slice A s.length cp] 24)).alloc (.cells #[.slice Al l.length cl] 25)).heap[w.heap.size + 1]? = some (.cells #[.slice Al l.length cl] 25 (0, 0))) := Has.newAt _ _ (by simp)
  go_enter Try.func11, Try.ntmps11
  go_wp2_with fail
  refine (RP.out _ (fun b hb => by have := HF.out b hb; simp; omega) (GeIn.keep (Same.of_below W2.out HF.out) _ HX.out) (HL.out.keep (Same.of_below W2.out HF.out)) HC.out RN.out).mono ?_
  rintro e w3 ⟨rl, rn, rA, rlen, rc, rfl, hb⟩
  have s1 := hb.size
  simp only [World.size_alloc] at s1
  have B3 := hid (W2.out.trans (hb.mono (by simp; omega)))
  have Y0 := hid (Has.below X0.out hb (by simp; omega))
  have Y1 := hid (Has.below X1.out hb (by simp))
  have y1 := Has.cell Y1.out 0
  simp at y1
  have lY : w.heap.size + 1 < w3.heap.size := Has.lt Y1.out
  have lY0 : w.heap.size < w3.heap.size := by omega
  clear hb X0 X1 RP RN W2
  go_wp2_with fail
  go_loopw [30] (fun iv wr => ∃ (j n : Nat) (D : Nat → Prop), j ≤ l.length ∧ iv = .int .i64 j ∧ Hid (LessR (w3.heap.size + 1) n D wr) ∧ n ≤ 4 * j ∧ Hid (P → n = 0) ∧ Hid (Below w3.heap.size w3 wr)) (fun iv _ => l.length - (intOf iv).toNat)
  case atStart =>
    refine ⟨0, 0, fun b => b = w3.heap.size + 1, Nat.zero_le _, rfl, ⟨.slice none 0 0, [], fun b => by simp [Value.ownBlock], Has.newAt _ _ (by simp), World.ownsRow_nil _ _ _ _⟩, Nat.zero_le _, fun _ => rfl, less_below _ _ _⟩
  case round =>
    obtain ⟨j, n, D, hj, rfl, LR, nj, NP, BR⟩ := hrel
    obtain ⟨wo, hwo⟩ : ∃ wo, wo = wr := ⟨_, rfl⟩
    subst hwo
    by_cases hlt : j < l.length
    · obtain ⟨bl, ol, rfl, fl, hcl⟩ := LA.out (by omega)
      have cj : wo.cell? ⟨bl, ol + j, none⟩ = some (.int .i64 (at0 l j)) := by
        rw [Same.cell (Same.of_below (B3.out.trans (BR.out.mono (by omega))) HF.out) fl]
        exact hcl j hlt
      have K1 := hid (Has.below Y1.out BR.out (by omega))
      have k1 := Has.cell K1.out 0
      simp at k1
      have sr := BR.out.size
      have HLr : Hid (IntsIn .i64 (fun b => b < w3.heap.size) wo (.slice (some ⟨bl, ol, none⟩) l.length cl) l) := (HL.out.keep (Same.of_below (B3.out.trans (BR.out.mono (by omega))) HF.out)).more fun b hb => by have := HF.out b hb; omega
      have HX0 : Hid (P → at0 l j = 0) := fun h => at0_zero (HP.out h).1 j
      have hxr : 0 ≤ at0 l j ∧ at0 l j ≤ 1000 := HZ.out _ (by unfold at0; rw [List.getD_eq_getElem?_getD, List.getElem?_eq_getElem hlt]; exact List.getElem_mem hlt)
      generalize at0 l j = x at *
      have j1 : (j : Int) < (l.length : Int) := by omega
      clear hcl y1
      by_cases hp : 0 < x
      case' pos =>
        have NPr : Hid (¬ P) := fun h => by have := HX0.out h; omega
        have x2 : 0 ≤ x / 2 ∧ x / 2 ≤ 1000 := by omega
        go_wp2_with fail
        refine (with_any l (fun b => b < w3.heap.size) _ (w.heap.size + 1) j 0 wo (fun b hb => by omega) HLr.out k1 hlt hn).mono ?_
        rintro e wa ⟨ra, rfl, oa, ba⟩
        have Ba := hid ba
        obtain ⟨Aa, ca, rfl⟩ := own_slice3 oa
        have Va1 : Hid (TryV wo.heap.size P wa (.slice Aa l.length ca)) := TryV.own oa (Nat.le_refl _) (set1000 HZ.out (by omega)) NPr.out
        have K2 := hid (Has.below K1.out ba (by omega))
        have k2 := Has.cell K2.out 0
        simp at k2
        have sa := ba.size
        clear oa ba
        go_wp2_with fail
        refine (with_any l (fun b => b < w3.heap.size) _ (w.heap.size + 1) j (x / 2) wa (fun b hb => by omega) (HLr.out.keep (Same.of_below Ba.out fun b hb => by omega)) k2 hlt hn).mono ?_
        rintro e wb ⟨rb, rfl, ob, bb⟩
        obtain ⟨Ab, cb, rfl⟩ := own_slice3 ob
        have Bb : Hid (Below wo.heap.size wo wb) := Ba.out.trans (bb.mono (by omega))
        have Va2 : Hid (TryV wo.heap.size P wb (.slice Aa l.length ca)) := Va1.out.keep bb (Nat.le_refl _)
        have Vb2 : Hid (TryV wo.heap.size P wb (.slice Ab l.length cb)) := TryV.own ob (by omega) (set1000 HZ.out x2) NPr.out
        have K3 := hid (Has.below K2.out bb (by omega))
        have k3 := Has.cell K3.out 0
        simp at k3
        have sb := bb.size
        clear ob bb
        go_wp2_with fail
        refine (with_any l (fun b => b < w3.heap.size) _ (w.heap.size + 1) j (x - 1) wb (fun b hb => by omega) (HLr.out.keep (Same.of_below Bb.out fun b hb => by omega)) k3 hlt hn).mono ?_
        rintro e wc ⟨rc3, rfl, oc, bc⟩
        obtain ⟨Ac, cc, rfl⟩ := own_slice3 oc
        have Bc : Hid (Below wo.heap.size wo wc) := Bb.out.trans (bc.mono (by omega))
        have Va3 : Hid (TryV wo.heap.size P wc (.slice Aa l.length ca)) := Va2.out.keep bc (Nat.le_refl _)
        have Vb3 : Hid (TryV wo.heap.size P wc (.slice Ab l.length cb)) := Vb2.out.keep bc (Nat.le_refl _)
        have Vc3 : Hid (TryV wo.heap.size P wc (.slice Ac l.length cc)) := TryV.own oc (by omega) (set1000 HZ.out (by omega)) NPr.out
        have NEW : Hid (∀ u ∈ [Value.slice Aa l.length ca, Value.slice Ab l.length cb, Value.slice Ac l.length cc], ∃ zs, IntsIn .i64 (fun b => wo.heap.size ≤ b ∧ b < wc.heap.size ∧ (Value.slice none 0 0).ownBlock ≠ some b) wc u zs ∧ (P → ∀ z ∈ zs, z = 0)) := fun u hu => by
          simp only [List.mem_cons, List.not_mem_nil, or_false] at hu
          rcases hu with rfl | rfl | rfl
          · exact Va3.out.new_ rfl
          · exact Vb3.out.new_ rfl
          · exact Vc3.out.new_ rfl
        have ONE : Hid (∀ u ∈ [Value.slice Aa l.length ca, Value.slice Ab l.length cb, Value.slice Ac l.length cc], u.oneCell' = true) := fun u hu => by
          simp only [List.mem_cons, List.not_mem_nil, or_false] at hu
          rcases hu with rfl | rfl | rfl <;> rfl
        obtain ⟨i0, hi0, hz0, hz1, hz2⟩ := info_parts infoInts
        have sc := bc.size
        have LC : Hid (wo.heap.size ≤ wc.heap.size) := by show _ ≤ _; omega
        clear oc bc
        go_wp2_with (at_builtin; refine wpList_app _ rfl (.tmp 37) (.tmp 51) 37 rfl wo.heap.size 25 i0 (.slice none 0 0) 1 24 Try.underlying37 hi0 hz0 hz1 hz2 rfl (by decide) _ 0 [] rfl (World.ownsRow_nil _ _ _ _) _ _ 3 [Value.slice Aa l.length ca, Value.slice Ab l.length cb, Value.slice Ac l.length cc] rfl (cells_threeG _ _ _ _ _ (by simp)) ONE.out (by unfold maxLen; omega) (by omega) (by have := LC.out; simp; omega) ?_; intro tv w5 hown5 hgrow5 hat5; obtain ⟨nt, xs, NT, TX⟩ : ∃ nt xs, nt ≤ 3 ∧ Hid (TriesX wo.heap.size P w5 nt tv xs) := ⟨_, _, by omega, TriesX.app (m := 3) TriesX.nil NEW.out hown5 hgrow5 hat5⟩; have BW : Hid (Below wo.heap.size wo w5) := below_app Bc.out LC.out hgrow5 (by intro k hk; cases hk); have K5 := Has.cell (Has.below K1.out BW.out (by omega)) 0; simp at K5; clear hown5 hgrow5 hat5)
        clear k2 k3 K2 K3 Va1 Va2 Va3 Vb2 Vb3 Vc3 NEW ONE hi0 hz0 hz1 hz2
      case' neg =>
        have hp0 : x ≤ 0 := by omega
        clear hp
        go_wp2_with fail
        obtain ⟨tv, nt, xs, NT, htv, TX⟩ : ∃ tv nt xs, nt ≤ 3 ∧ Value.slice none 0 0 = tv ∧ Hid (TriesX wo.heap.size P wo nt tv xs) := ⟨_, 0, [], by omega, rfl, TriesX.nil⟩
        rw [htv]
        have BW := hid (Below.refl wo.heap.size wo)
      all_goals
        refine (clone_any l (fun b => b < w3.heap.size) _ _ (fun b hb => by have := BW.out.size; omega) (HLr.out.keep (Same.of_below BW.out fun b hb => by omega)) (by omega)).mono ?_
        rintro e w7 ⟨v7, rfl, o7, _, b7⟩
        obtain ⟨g7, c7, rfl, hg7, hl7, _, _, _⟩ := own_open o7 (by omega)
        have O7 := hid o7
        have B7 := hid b7
        have H7 := hid hg7
        clear o7 b7 hg7 hl7
        go_wp2_with fail
        refine (del_any O7.out hlt (wf1000 HZ.out)).mono ?_
        rintro e w8 ⟨dv, rfl, di, b8⟩
        have B8 := hid (B7.out.trans b8)
        have BW8 := hid (BW.out.trans (B8.out.mono BW.out.size))
        have s8 := B8.out.size
        have sW := BW.out.size
        have TX8 := hid (TX.out.keep (fun b _ hb => B8.out.block b hb) s8)
        have NEW : Hid (∀ u ∈ [dv], ∃ zs, IntsIn .i64 (fun b => wo.heap.size ≤ b ∧ b < w8.heap.size ∧ tv.ownBlock ≠ some b) w8 u zs ∧ (P → ∀ z ∈ zs, z = 0)) := fun u hu => by
          simp only [List.mem_cons, List.not_mem_nil, or_false] at hu
          subst hu
          have h7 := own_ge O7.out g7 rfl
          have h7' := own_lt O7.out g7 rfl
          refine ⟨_, di.more fun b hb => ⟨by omega, by have := b8.size; omega, fun h => ?_⟩, fun h z hz => ?_⟩
          · have := own_lt TX.out.1 b h; omega
          · rcases List.mem_append.1 hz with hz | hz
            · exact (HP.out h).1 z (List.mem_of_mem_take hz)
            · exact (HP.out h).1 z (List.mem_of_mem_drop hz)
        obtain ⟨Ad, cd, rfl, _, _, _⟩ := di
        obtain ⟨i0, hi0, hz0, hz1, hz2⟩ := info_parts infoInts
        have LC : Hid (wo.heap.size ≤ w8.heap.size) := by show _ ≤ _; omega
        clear O7 B7 H7 b8
        generalize (List.take j l ++ List.drop (j + 1) l).length = dn at *
        go_wp2_with (at_builtin; refine wpList_app _ rfl (.tmp 53) (.tmp 60) 37 rfl wo.heap.size 25 i0 (.slice none 0 0) 1 24 Try.underlying37 hi0 hz0 hz1 hz2 rfl (by decide) _ _ _ rfl (TX8.out.1.alloc _) _ _ 1 [.slice Ad dn cd] rfl (cells_oneG _ _ _ (by simp)) (by intro u hu; simp at hu; subst hu; rfl) (by unfold maxLen; omega) (by omega) (by have := LC.out; simp; omega) ?_; intro v9 w9 hown9 hgrow9 hat9; have TX9 := hid (TriesX.app TX8.out NEW.out hown9 hgrow9 hat9); have BW9 : Hid (Below wo.heap.size wo w9) := below_app BW8.out LC.out hgrow9 (own_ge TX8.out.1); obtain ⟨A9, c9, rfl⟩ := own_slice3 hown9; clear hown9 hgrow9 hat9)
        go_loopw [63] (fun iv wi => ∃ (i n' : Nat) (D' : Nat → Prop), i ≤ nt + 1 ∧ iv = .int .i64 i ∧ Hid (LessR (w3.heap.size + 1) n' D' wi) ∧ Hid (∀ b, D' b → b < wo.heap.size ∨ w9.heap.size ≤ b) ∧ n' ≤ n + i ∧ Hid (P → n' = 0) ∧ Hid (Below w3.heap.size w3 wi) ∧ Hid (∀ b, wo.heap.size ≤ b → b < w9.heap.size → wi.heap[b]? = w9.heap[b]?) ∧ w9.heap.size ≤ wi.heap.size) (fun iv _ => nt + 1 - (intOf iv).toNat)
        case atStart => exact ⟨0, n, D, Nat.zero_le _, rfl, LR.out.keep fun b hb => BW9.out.block b (LR.out.lt b hb).2, fun b hb => .inl (LR.out.lt b hb).2, by omega, NP, BR.out.trans (BW9.out.mono sr), fun _ _ _ => rfl, Nat.le_refl _⟩
        case round =>
          obtain ⟨i, n', D', hi, rfl, L1, D1, n1, P1, B1, S1, z1⟩ := hrel
          by_cases h2 : i < nt + 1
          · obtain ⟨g9, c9', u9, zs9, e9, ga, gb, q9, i9, p9⟩ := TX9.out.at_ h2
            simp only [Value.slice.injEq, true_and] at e9
            obtain ⟨rfl, rfl⟩ := e9
            have q8 : wr.cell? ⟨g9, i, none⟩ = some u9 := (World.cell?_of_block (w := w9) (S1.out g9 ga gb)).trans q9
            have i2 : (i : Int) < (nt : Int) + 1 := by omega
            have s9 := BW9.out.size
            have si := B1.out.size
            have I9 : Hid (IntsIn .i64 (fun b => b < wr.heap.size) wr u9 zs9) := (i9.keep fun b hb => S1.out b hb.1 hb.2).more fun b hb => by omega
            have IL : Hid (IntsIn .i64 (fun b => b < wr.heap.size) wr (.slice (some ⟨bl, ol, none⟩) l.length cl) l) := (HL.out.keep (Same.of_below (B3.out.trans (B1.out.mono (by omega))) HF.out)).more fun b hb => by have := HF.out b hb; omega
            have IG : Hid (GeIn (fun b => b < wr.heap.size) wr G (.int .i64 k) (.int .i64 a) (.int .i64 b) (.slice A s.length cp)) := GeIn.more (fun b hb => by have := HF.out b hb; omega) _ (GeIn.keep (Same.of_below (B3.out.trans (B1.out.mono (by omega))) HF.out) _ HX.out)
            have PZ := hid p9
            have G1 := hid (Has.below Y0.out B1.out (by omega))
            have G2 := hid (Has.below Y1.out B1.out (by omega))
            have TC := hid (TA.out zs9 (fun b => b < wr.heap.size) D' _ _ _ _ _ u9 (w3.heap.size + 1) w.heap.size (w.heap.size + 1) n' wr (fun b h => h) IG.out I9.out IL.out G1.out G2.out L1.out HC.out (by omega))
            obtain ⟨A9', c9'', rfl, _, _, _⟩ := i9
            clear p9 q9 ga gb
            go_wp2_with fail
            refine TC.out.mono ?_
            rintro e w10 ⟨rfl, ho, D'', n'', L2, D2, n2, p2⟩
            have OH := hid ho
            have s10 := ho.1.size
            have HL2 := hid L2
            have HD2 := hid D2
            have HP2 := hid p2
            clear ho L2 D2 p2
            go_wp2_with fail
            go_roundw
            case rel =>
              refine ⟨i + 1, n'', D'', by omega, by go_num, HL2.out, fun b hb => ?_, by omega, fun h => ?_, ?_, fun b h1 h3 => ?_, by omega⟩
              · rcases HD2.out b hb with h | h
                · exact D1.out b h
                · exact .inr (by omega)
              · rw [HP2.out ((HP.out h).2 _ (PZ.out h))]; exact P1.out h
              · exact B1.out.trans ⟨OH.out.1.os, OH.out.1.tape, OH.out.1.output, s10, fun b hb => OH.out.2 b (by omega) (fun h => by have := (L1.out.lt b h).1; omega)⟩
              · exact (OH.out.2 b (by omega) (fun h => by rcases D1.out b h with h | h <;> omega)).trans (S1.out b h1 h3)
            case measure => simp [intOf]; omega
          · obtain rfl : i = nt + 1 := by omega
            go_wp2_with fail
            go_roundw
            case rel => exact ⟨j + 1, n', D', by omega, by go_num, L1, by omega, P1, B1⟩
            case measure => simp [intOf]; omega
    · obtain rfl : j = l.length := by omega
      obtain ⟨v0, xs0, r1, r2, r3⟩ := LR.out
      obtain ⟨A0, c0, rfl⟩ := own_slice3 r3
      have BR3 := hid (B3.out.trans (BR.out.mono (by omega)))
      have q0 := Has.cell r2 0
      simp at q0
      clear r1 r2 r3
      go_wp2_with fail
      go_ret2
      exact ⟨_, _, _, rfl, BR3.out, NP.out⟩
end Go.Proofs.Ytkpgedejabahaaa
