/- What rose.Less returns of whatever tape: the fault of its replay, or just the tapes that are less, each in a row of its own. No conditions. -/
import Derived.Test.YtopehfmppfibhaaDoorRtx
import Derived.Test.YtopehfmppfibhaaDoorGnr
namespace Go.Proofs.YtopehfmppfibhaaDoor
open Go.RowKit Go.Deep
/-- what is tried at a place -/
def triesL (l : List Int) (j : Nat) : List (List Int) := (if 0 < at0 l j then [l.set j 0, l.set j (at0 l j / 2), l.set j (at0 l j - 1)] else []) ++ [l.take j ++ l.drop (j + 1)]
def lessTo (g : Ge) (l : List Int) : Nat → List (List Int)
  | 0 => []
  | j + 1 => lessTo g l j ++ (triesL l j).flatMap (keepG g l)
/-- the tapes that are less -/
def lessL (g : Ge) (l : List Int) : List (List Int) := lessTo g l l.length
theorem keepG_len (g : Ge) (l m : List Int) : (keepG g l m).length ≤ 1 := by unfold keepG; split <;> simp
theorem tries_len (l : List Int) (j : Nat) : (triesL l j).length ≤ 4 := by unfold triesL; split <;> simp
theorem kflat_len (g : Ge) (l : List Int) : ∀ ms : List (List Int), (ms.flatMap (keepG g l)).length ≤ ms.length
  | [] => by simp
  | m :: ms => by
    have h1 := keepG_len g l m
    have h2 := kflat_len g l ms
    rw [List.flatMap_cons, List.length_append, List.length_cons]; omega
theorem lessTo_len (g : Ge) (l : List Int) : ∀ j, (lessTo g l j).length ≤ 4 * j
  | 0 => by simp [lessTo]
  | j + 1 => by
    have h1 := lessTo_len g l j
    have h2 := kflat_len g l (triesL l j)
    have h3 := tries_len l j
    rw [lessTo, List.length_append]; omega
theorem run_replay_in {α : Type} (t : List Int) : ∀ (c : Ch α) (n pos pos' : Nat) (x : α), c.le n → c.run (replayF t) pos = .ok (pos', x) → pos ≤ pos' ∧ pos' ≤ pos + n ∧ ∀ i, pos ≤ i → i < pos' → 0 ≤ at0 t i ∧ at0 t i ≤ 1000
  | .done _, _, _, _, _, _, hr => by
    rw [Ch.run] at hr
    injection hr with hr
    injection hr with hr _
    subst hr
    exact ⟨Nat.le_refl _, by omega, fun i h1 h2 => by omega⟩
  | .ask _ _, 0, _, _, _, h, _ => by rw [Ch.le] at h; exact h.elim
  | .ask m k, n + 1, pos, pos', x, hc, hr => by
    rw [Ch.le] at hc
    rw [Ch.run] at hr
    unfold replayF at hr
    by_cases h1 : pos < t.length
    · by_cases h2 : 0 ≤ at0 t pos ∧ at0 t pos ≤ m
      · rw [if_pos h1, if_pos h2] at hr
        obtain ⟨a, b, c⟩ := run_replay_in t (k (at0 t pos)) n (pos + 1) pos' x (hc.2.2 _ h2.1 h2.2) hr
        refine ⟨by omega, by omega, fun i h3 h4 => ?_⟩
        by_cases e : i = pos
        · subst e; exact ⟨h2.1, by have := hc.2.1; omega⟩
        · exact c i (by omega) h4
      · rw [if_pos h1, if_neg h2] at hr; cases hr
    · rw [if_neg h1] at hr; cases hr
theorem replR_ok {g : Ge} {l : List Int} {z : Va} (h : replR g l = .ok z) : chkG g = 0 ∧ g.made.run (replayF l) 0 = .ok (l.length, z) ∧ l.length ≤ 1000000000 ∧ ∀ x ∈ l, 0 ≤ x ∧ x ≤ 1000 := by
  unfold replR at h
  split at h
  · cases h
  · rename_i hc
    have hc0 : chkG g = 0 := by omega
    cases hr : g.made.run (replayF l) 0 with
    | error c => rw [hr] at h; cases h
    | ok p =>
      obtain ⟨pos, y⟩ := p
      rw [hr] at h
      simp only at h
      split at h
      · cases h
      · injection h with h
        subst h
        obtain ⟨h1, h2⟩ := chkG_good hc0
        obtain ⟨_, b, c⟩ := run_replay_in l g.made (31 ^ 6) 0 pos y (made_le g 6 (Ge.parts_high g 0 6 rfl h1) (Ge.parts_wide g 0 h1) h2) hr
        have hp : pos ≤ l.length := by
          have key : ∀ (c : Ch Va) (p p' : Nat) (x : Va), p ≤ l.length → c.run (replayF l) p = .ok (p', x) → p' ≤ l.length := by
            intro c
            induction c with
            | done _ => intro p p' x hp hr; rw [Ch.run] at hr; injection hr with hr; injection hr with hr _; omega
            | ask m k ih =>
              intro p p' x hp hr
              rw [Ch.run] at hr
              unfold replayF at hr
              by_cases h1 : p < l.length
              · by_cases h2 : 0 ≤ at0 l p ∧ at0 l p ≤ m
                · rw [if_pos h1, if_pos h2] at hr; exact ih _ (p + 1) p' x (by omega) hr
                · rw [if_pos h1, if_neg h2] at hr; cases hr
              · rw [if_neg h1] at hr; cases hr
          exact key _ 0 pos y (Nat.zero_le _) hr
        obtain rfl : pos = l.length := by omega
        refine ⟨hc0, rfl, by have : 31 ^ 6 = 887503681 := by decide
                             omega, fun x hx => ?_⟩
        obtain ⟨i, hi, rfl⟩ := List.getElem_of_mem hx
        have := c i (Nat.zero_le _) hi
        unfold at0 at this
        rwa [List.getD_eq_getElem?_getD, List.getElem?_eq_getElem hi] at this
/-- a list of tapes in a row of its own -/
def TriesE (B : Nat) (w : World) (v : Value) (xs : List Value) (ll : List (List Int)) : Prop := w.ownsRow B 25 1 v ll.length xs ∧ ∀ (i : Nat) r row, xs[i]? = some r → ll[i]? = some row → IntsIn .i64 (fun b => B ≤ b ∧ b < w.heap.size ∧ v.ownBlock ≠ some b) w r row
section
variable {B : Nat} {w w' w5 : World} {v v5 : Value} {xs news : List Value} {ll lln : List (List Int)} {o : Obj}
theorem TriesE.nil : TriesE B w (.slice none 0 0) [] [] := ⟨World.ownsRow_nil _ _ _ _, by simp⟩
theorem TriesE.keep (h : TriesE B w v xs ll) (hs : ∀ b, B ≤ b → b < w.heap.size → w'.heap[b]? = w.heap[b]?) (hz : w.heap.size ≤ w'.heap.size) : TriesE B w' v xs ll := by
  refine ⟨own_keep h.1 fun k hk => hs k (own_ge h.1 k hk) (own_lt h.1 k hk), fun i r row h1 h2 => ?_⟩
  exact ((h.2 i r row h1 h2).keep fun b hb => hs b hb.1 hb.2.1).more fun b hb => ⟨hb.1, by omega, hb.2.2⟩
theorem TriesE.len (h : TriesE B w v xs ll) : xs.length = ll.length := by have := h.1.1; omega
theorem TriesE.app (h : TriesE B w v xs ll) (_hl : news.length = lln.length) (hnew : ∀ (i : Nat) r row, news[i]? = some r → lln[i]? = some row → IntsIn .i64 (fun b => B ≤ b ∧ b < w.heap.size ∧ v.ownBlock ≠ some b) w r row) (ho : w5.ownsRow B 25 1 v5 (ll.length + lln.length) (xs ++ news)) (hg : (w.alloc o).grownBy w5 v.ownBlock) (ha : v5.ownBlock = v.ownBlock ∨ v5.ownBlock = some (w.alloc o).heap.size) : TriesE B w5 v5 (xs ++ news) (ll ++ lln) := by
  have sg := hg.size
  simp only [World.size_alloc] at sg
  have key : ∀ u zs, IntsIn .i64 (fun b => B ≤ b ∧ b < w.heap.size ∧ v.ownBlock ≠ some b) w u zs → IntsIn .i64 (fun b => B ≤ b ∧ b < w5.heap.size ∧ v5.ownBlock ≠ some b) w5 u zs := fun u zs h1 =>
    (h1.keep fun b hb => (hg.block b (by simp; omega) fun e => hb.2.2 e.symm).trans (Below.heap_alloc _ _ _ hb.2.1)).more fun b hb => ⟨hb.1, by omega, by
      rcases ha with e | e
      · rw [e]; exact hb.2.2
      · rw [e]; intro h; injection h with h; simp at h; omega⟩
  have hlen := h.len
  refine ⟨by rw [List.length_append]; exact ho, fun i r row h1 h2 => ?_⟩
  by_cases hi : i < xs.length
  · rw [List.getElem?_append_left hi] at h1
    rw [List.getElem?_append_left (by omega)] at h2
    exact key _ _ (h.2 i r row h1 h2)
  · rw [List.getElem?_append_right (by omega)] at h1
    rw [List.getElem?_append_right (by omega), ← hlen] at h2
    exact key _ _ (hnew _ r row h1 h2)
theorem TriesE.at_ (h : TriesE B w v xs ll) {i : Nat} (hi : i < ll.length) : ∃ g c u, v = .slice (some ⟨g, 0, none⟩) ll.length c ∧ B ≤ g ∧ g < w.heap.size ∧ w.cell? ⟨g, i, none⟩ = some u ∧ IntsIn .i64 (fun b => B ≤ b ∧ b < w.heap.size) w u ll[i] := by
  obtain ⟨g, c, e, h1, h2, _, _, h3⟩ := own_open h.1 (by omega)
  have hl := h.len
  have hi' : i < xs.length := by omega
  exact ⟨g, c, xs[i], e, h1, h2, by rw [h3 i (by omega), List.getElem?_eq_getElem hi'], (h.2 i xs[i] ll[i] (List.getElem?_eq_getElem hi') (List.getElem?_eq_getElem hi)).more fun b hb => ⟨hb.1, hb.2.1⟩⟩
end
/-- a tape that is tried -/
def TryE (B : Nat) (w : World) (u : Value) (zs : List Int) : Prop := IntsIn .i64 (fun b => B ≤ b ∧ b < w.heap.size) w u zs
theorem TryE.keep {B B' : Nat} {w w' : World} {u : Value} {zs : List Int} (h : TryE B w u zs) (hb : Below B' w w') (hB : w.heap.size ≤ B') : TryE B w' u zs := by
  have := hb.size
  exact (IntsIn.keep h (Same.of_below hb fun b h => by omega)).more fun b h => ⟨h.1, by omega⟩
theorem TryE.own {B B' n : Nat} {w : World} {e : TypeId} {r : Value} {zs : List Int} (h : w.ownsRow B' e 1 r n (zs.map (Value.int .i64))) (hB : B ≤ B') (hw : ∀ z ∈ zs, 0 ≤ z ∧ z ≤ 1000) : TryE B w r zs :=
  (own_intsR h (wf1000 hw)).more fun b hb => ⟨Nat.le_trans hB (own_ge h b hb), own_lt h b hb⟩
theorem ktake_flat {g : Ge} {l : List Int} {ms : List (List Int)} {i : Nat} (hi : i < ms.length) : (ms.take (i + 1)).flatMap (keepG g l) = (ms.take i).flatMap (keepG g l) ++ keepG g l ms[i] := by
  rw [List.take_succ_eq_append_getElem hi, List.flatMap_append]; simp
theorem set1000 {l : List Int} (h : ∀ z ∈ l, 0 ≤ z ∧ z ≤ 1000) {j : Nat} {x : Int} (hx : 0 ≤ x ∧ x ≤ 1000) : ∀ z ∈ l.set j x, 0 ≤ z ∧ z ≤ 1000 := fun z hz => by
  rcases List.mem_or_eq_of_mem_set hz with h1 | h1
  · exact h z h1
  · rw [h1]; exact hx
theorem cells_threeG (w : World) (x y z : Value) (t : TypeId) {g : Nat} (hg : g = w.heap.size) : CellsIn (fun b => b = g) (w.alloc (.cells #[x, y, z] t)) 1 (.slice (some ⟨g, 0, none⟩) 3 3) 3 [x, y, z] := by
  subst hg
  exact ⟨_, 3, rfl, rfl, fun _ => ⟨w.heap.size, 0, rfl, rfl, fun j u hj => by
    match j, hj with
    | 0, hj => simp at hj; subst hj; simp
    | 1, hj => simp at hj; subst hj; simp
    | 2, hj => simp at hj; subst hj; simp⟩⟩
theorem below_app {B : Nat} {w0 w w5 : World} {o : Obj} {r : Option Nat} (h : Below B w0 w) (hB : B ≤ w.heap.size) (hg : (w.alloc o).grownBy w5 r) (hr : ∀ k, r = some k → B ≤ k) : Below B w0 w5 :=
  (h.alloc hB o).grown hg (by simp; omega) hr
theorem less_below (w : World) (o1 o2 : Obj) : Below w.heap.size w ((w.alloc o1).alloc o2) := ((Below.refl _ _).alloc (Nat.le_refl _) _).alloc (by simp) _
def LessP (g : Ge) (l : List Int) (w : World) (e : Ending) (w' : World) : Prop := Below w.heap.size w w' ∧ match replR g l with
  | .error c => c ≠ 0 ∧ e = .returned (.tuple #[.slice none 0 0, errV c])
  | .ok _ => ∃ v cs, e = .returned (.tuple #[v, .nilIface]) ∧ w'.ownsRow w.heap.size 25 1 v (lessL g l).length cs ∧ OwnRows w.heap.size v w' cs (lessL g l)
set_option maxRecDepth 100000 in
set_option maxHeartbeats 4000000 in
theorem less_is (g : Ge) (l : List Int) (F : Nat → Prop) (u v x c lv : Value) (w : World) (hF : ∀ b, F b → b < w.heap.size) (hx : GeIn F w g u v x c) (hl : IntsIn .i64 F w lv l) :
    Calls Tryd.prog 10 #[.agg #[u, v, x, c], lv] w (LessP g l w) := by
  have HX := hid hx
  have HL := hid hl
  have HF := hid hF
  have RP := hid (replay_any g l F u v x c lv)
  have ROK := hid (fun z h => @replR_ok g l z h)
  have LE : Hid (∀ c w' e, Below w.heap.size w w' → replR g l = .error c → c ≠ 0 → e = .returned (.tuple #[.slice none 0 0, errV c]) → LessP g l w e w') := fun c w' e h1 h2 h3 h4 => ⟨h1, by rw [h2]; exact ⟨h3, h4⟩⟩
  have LO : Hid (∀ z w' v cs, Below w.heap.size w w' → replR g l = .ok z → w'.ownsRow w.heap.size 25 1 v (lessL g l).length cs → OwnRows w.heap.size v w' cs (lessL g l) → LessP g l w (.returned (.tuple #[v, .nilIface])) w') := fun z w' v cs h1 h2 h3 h4 => ⟨h1, by rw [h2]; exact ⟨v, cs, rfl, h3, h4⟩⟩
  have TA := hid (try_is g l)
  have L0 : Hid (lessTo g l 0 = []) := rfl
  have LN : Hid (∀ j, lessTo g l (j + 1) = lessTo g l j ++ (triesL l j).flatMap (keepG g l)) := fun _ => rfl
  have LL : Hid (lessTo g l l.length = lessL g l) := rfl
  have LB := hid (lessTo_len g l)
  have LF := hid (kflat_len g l)
  obtain ⟨k, a, b, s⟩ := g
  obtain ⟨A, cp, rfl, rfl, rfl, rfl, l1, l2, _⟩ := hx.box
  generalize hG : Ge.mk k a b s = G at *
  obtain ⟨Al, cl, rfl, lm, _, la⟩ := hl
  unfold maxLen at lm
  have LA := hid la
  clear hF hx hG la
  have hmf : ∀ (fn : Fn) (first cap : Array Value) (w : World), (Instr.makeFunc fn first cap).run Tryd.prog w = .ok (.func fn first cap) w := fun _ _ _ _ => rfl
  have W2 : Hid (Below w.heap.size w ((w.alloc (.cells #[.int .i64 k, .int .i64 a, .int .i64 b, .slice A s.length cp] 24)).alloc (.cells #[.slice Al l.length cl] 25))) := ((Below.refl _ _).alloc (Nat.le_refl _) _).alloc (by simp) _
  have X0 : Hid (((w.alloc (.cells #[.int .i64 k, .int .i64 a, .int .i64 b, .slice A s.length cp] 24)).alloc (.cells #[.slice Al l.length cl] 25)).heap[w.heap.size]? = some (.cells #[.int .i64 k, .int .i64 a, .int .i64 b, .slice A s.length cp] 24 (0, 0))) := Has.alloc (Has.new _ _) _
  have X1 : Hid (((w.alloc (.cells #[.int .i64 k, .int .i64 a, .int .i64 b, .slice A s.length cp] 24)).alloc (.cells #[.slice Al l.length cl] 25)).heap[w.heap.size + 1]? = some (.cells #[.slice Al l.length cl] 25 (0, 0))) := Has.newAt _ _ (by simp)
  go_enter Tryd.func10, Tryd.ntmps10
  go_wp2_with fail
  refine (RP.out _ (fun b hb => by have := HF.out b hb; simp; omega) (GeIn.keep (Same.of_below W2.out HF.out) _ HX.out) (HL.out.keep (Same.of_below W2.out HF.out))).mono ?_
  rintro e w3 ⟨hb, he⟩
  have s1 := hb.size
  simp only [World.size_alloc] at s1
  have B3 := hid (W2.out.trans (hb.mono (by simp; omega)))
  have Y0 := hid (Has.below X0.out hb (by simp; omega))
  have Y1 := hid (Has.below X1.out hb (by simp))
  have y1 := Has.cell Y1.out 0
  simp at y1
  have lY : w.heap.size + 1 < w3.heap.size := Has.lt Y1.out
  have lY0 : w.heap.size < w3.heap.size := by omega
  clear X0 X1 RP
  generalize hrr : replR G l = rr at *
  cases rr with
  | error ce =>
    obtain ⟨hne, rfl⟩ := he
    have NE := hid hne
    rw [errV_no hne]
    clear hb hne W2 hrr
    go_wp2_with fail
    go_ret2
    exact LE.out ce _ _ (B3.out.alloc (by omega) _) rfl NE.out (by rw [errV_no NE.out]; rfl)
  | ok zv =>
  obtain ⟨vl, vn, vs⟩ := zv
  obtain ⟨c5, rfl, hv5, _⟩ := he
  obtain ⟨rA, rc, rfl⟩ := hv5.slice
  obtain ⟨hc0, _, hn, hz0⟩ := ROK.out _ rfl
  have HC := hid hc0
  have HZ := hid hz0
  clear hb hv5 W2 hc0 hz0 hrr
  go_wp2_with fail
  go_loopw [30] (fun iv wr => ∃ (j : Nat) (D : Nat → Prop), j ≤ l.length ∧ iv = .int .i64 j ∧ Hid (LessX (w3.heap.size + 1) (lessTo G l j) D wr) ∧ Hid (Below w3.heap.size w3 wr)) (fun iv _ => l.length - (intOf iv).toNat)
  case atStart =>
    refine ⟨0, fun b => b = w3.heap.size + 1, Nat.zero_le _, rfl, ?_, less_below _ _ _⟩
    rw [L0.out]
    exact ⟨.slice none 0 0, [], fun b => by simp [Value.ownBlock], Has.newAt _ _ (by simp), World.ownsRow_nil _ _ _ _, OwnRows.nil_⟩
  case round =>
    obtain ⟨j, D, hj, rfl, LR, BR⟩ := hrel
    have nj := LB.out j
    obtain ⟨wo, hwo⟩ : ∃ wo, wo = wr := ⟨_, rfl⟩
    subst hwo
    by_cases hlt : j < l.length
    · obtain ⟨bl, ol, rfl, fl, hcl⟩ := LA.out (by omega)
      have cj : wo.cell? ⟨bl, ol + j, none⟩ = some (.int .i64 (at0 l j)) := by
        rw [Same.cell (Same.of_below (B3.out.trans (BR.out.mono (by omega))) HF.out) fl]
        exact hcl j hlt
      have K1 := hid (Has.below Y1.out BR.out (by omega))
      have k1 := Has.cell K1.out 0
      simp at k1
      have sr := BR.out.size
      have HLr : Hid (IntsIn .i64 (fun b => b < w3.heap.size) wo (.slice (some ⟨bl, ol, none⟩) l.length cl) l) := (HL.out.keep (Same.of_below (B3.out.trans (BR.out.mono (by omega))) HF.out)).more fun b hb => by have := HF.out b hb; omega
      have TD : Hid (triesL l j = (if 0 < at0 l j then [l.set j 0, l.set j (at0 l j / 2), l.set j (at0 l j - 1)] else []) ++ [l.take j ++ l.drop (j + 1)]) := rfl
      have hxr : 0 ≤ at0 l j ∧ at0 l j ≤ 1000 := HZ.out _ (by unfold at0; rw [List.getD_eq_getElem?_getD, List.getElem?_eq_getElem hlt]; exact List.getElem_mem hlt)
      generalize at0 l j = x at *
      have j1 : (j : Int) < (l.length : Int) := by omega
      clear hcl y1
      by_cases hp : 0 < x
      case' pos =>
        have TD2 : Hid ([l.set j 0, l.set j (x / 2), l.set j (x - 1)] ++ [l.take j ++ l.drop (j + 1)] = triesL l j) := by show _ = _; rw [TD.out, if_pos hp]
        have x2 : 0 ≤ x / 2 ∧ x / 2 ≤ 1000 := by omega
        go_wp2_with fail
        refine (with_any l (fun b => b < w3.heap.size) _ (w.heap.size + 1) j 0 wo (fun b hb => by omega) HLr.out k1 hlt hn).mono ?_
        rintro e wa ⟨ra, rfl, oa, ba⟩
        have Ba := hid ba
        obtain ⟨Aa, ca, rfl⟩ := own_slice3 oa
        have Va1 : Hid (TryE wo.heap.size wa (.slice Aa l.length ca) (l.set j 0)) := TryE.own oa (Nat.le_refl _) (set1000 HZ.out (by omega))
        have K2 := hid (Has.below K1.out ba (by omega))
        have k2 := Has.cell K2.out 0
        simp at k2
        have sa := ba.size
        clear oa ba
        go_wp2_with fail
        refine (with_any l (fun b => b < w3.heap.size) _ (w.heap.size + 1) j (x / 2) wa (fun b hb => by omega) (HLr.out.keep (Same.of_below Ba.out fun b hb => by omega)) k2 hlt hn).mono ?_
        rintro e wb ⟨rb, rfl, ob, bb⟩
        obtain ⟨Ab, cb, rfl⟩ := own_slice3 ob
        have Bb : Hid (Below wo.heap.size wo wb) := Ba.out.trans (bb.mono (by omega))
        have Va2 : Hid (TryE wo.heap.size wb (.slice Aa l.length ca) (l.set j 0)) := Va1.out.keep bb (Nat.le_refl _)
        have Vb2 : Hid (TryE wo.heap.size wb (.slice Ab l.length cb) (l.set j (x / 2))) := TryE.own ob (by omega) (set1000 HZ.out x2)
        have K3 := hid (Has.below K2.out bb (by omega))
        have k3 := Has.cell K3.out 0
        simp at k3
        have sb := bb.size
        clear ob bb
        go_wp2_with fail
        refine (with_any l (fun b => b < w3.heap.size) _ (w.heap.size + 1) j (x - 1) wb (fun b hb => by omega) (HLr.out.keep (Same.of_below Bb.out fun b hb => by omega)) k3 hlt hn).mono ?_
        rintro e wc ⟨rc3, rfl, oc, bc⟩
        obtain ⟨Ac, cc, rfl⟩ := own_slice3 oc
        have Bc : Hid (Below wo.heap.size wo wc) := Bb.out.trans (bc.mono (by omega))
        have Va3 : Hid (TryE wo.heap.size wc (.slice Aa l.length ca) (l.set j 0)) := Va2.out.keep bc (Nat.le_refl _)
        have Vb3 : Hid (TryE wo.heap.size wc (.slice Ab l.length cb) (l.set j (x / 2))) := Vb2.out.keep bc (Nat.le_refl _)
        have Vc3 : Hid (TryE wo.heap.size wc (.slice Ac l.length cc) (l.set j (x - 1))) := TryE.own oc (by omega) (set1000 HZ.out (by omega))
        have NEW : Hid (∀ (i : Nat) r row, [Value.slice Aa l.length ca, Value.slice Ab l.length cb, Value.slice Ac l.length cc][i]? = some r → [l.set j 0, l.set j (x / 2), l.set j (x - 1)][i]? = some row → IntsIn .i64 (fun b => wo.heap.size ≤ b ∧ b < wc.heap.size ∧ (Value.slice none 0 0).ownBlock ≠ some b) wc r row) := fun i r row h1 h2 => by
          have nb : ∀ b, (Value.slice none 0 0).ownBlock ≠ some b := fun b e => by cases e
          match i, h1, h2 with
          | 0, h1, h2 => simp at h1 h2; subst h1 h2; exact IntsIn.more Va3.out fun b hb => ⟨hb.1, hb.2, nb b⟩
          | 1, h1, h2 => simp at h1 h2; subst h1 h2; exact IntsIn.more Vb3.out fun b hb => ⟨hb.1, hb.2, nb b⟩
          | 2, h1, h2 => simp at h1 h2; subst h1 h2; exact IntsIn.more Vc3.out fun b hb => ⟨hb.1, hb.2, nb b⟩
          | i + 3, h1, h2 => simp at h1
        have ONE : Hid (∀ u ∈ [Value.slice Aa l.length ca, Value.slice Ab l.length cb, Value.slice Ac l.length cc], u.oneCell' = true) := fun u hu => by
          simp only [List.mem_cons, List.not_mem_nil, or_false] at hu
          rcases hu with rfl | rfl | rfl <;> rfl
        obtain ⟨i0, hi0, hz0, hz1, hz2⟩ := info_parts infoInts
        have sc := bc.size
        have LC : Hid (wo.heap.size ≤ wc.heap.size) := by show _ ≤ _; omega
        clear oc bc
        go_wp2_with (at_builtin; refine wpList_app _ rfl (.tmp 37) (.tmp 51) 27 rfl wo.heap.size 25 i0 (.slice none 0 0) 1 24 Tryd.underlying27 hi0 hz0 hz1 hz2 rfl (by decide) _ 0 [] rfl (World.ownsRow_nil _ _ _ _) _ _ 3 [Value.slice Aa l.length ca, Value.slice Ab l.length cb, Value.slice Ac l.length cc] rfl (cells_threeG _ _ _ _ _ (by simp)) ONE.out (by unfold maxLen; omega) (by omega) (by have := LC.out; simp; omega) ?_; intro tv w5 hown5 hgrow5 hat5; obtain ⟨tl, xs, NT, TL, TX⟩ : ∃ (tl : List (List Int)) (xs : List Value), tl.length ≤ 3 ∧ Hid (tl ++ [l.take j ++ l.drop (j + 1)] = triesL l j) ∧ Hid (TriesE wo.heap.size w5 tv xs tl) := ⟨_, _, by simp, TD2.out, TriesE.app (lln := [l.set j 0, l.set j (x / 2), l.set j (x - 1)]) TriesE.nil rfl NEW.out hown5 hgrow5 hat5⟩; have BW : Hid (Below wo.heap.size wo w5) := below_app Bc.out LC.out hgrow5 (by intro k hk; cases hk); have K5 := Has.cell (Has.below K1.out BW.out (by omega)) 0; simp at K5; clear hown5 hgrow5 hat5)
        clear k2 k3 K2 K3 Va1 Va2 Va3 Vb2 Vb3 Vc3 NEW ONE hi0 hz0 hz1 hz2 TD2
      case' neg =>
        have hp0 : x ≤ 0 := by omega
        clear hp
        go_wp2_with fail
        obtain ⟨tv, tl, xs, NT, TL, htv, TX⟩ : ∃ (tv : Value) (tl : List (List Int)) (xs : List Value), tl.length ≤ 3 ∧ Hid (tl ++ [l.take j ++ l.drop (j + 1)] = triesL l j) ∧ Value.slice none 0 0 = tv ∧ Hid (TriesE wo.heap.size wo tv xs tl) := ⟨_, [], [], by simp, (by show _ = _; rw [TD.out, if_neg (by omega)]), rfl, TriesE.nil⟩
        rw [htv]
        have BW := hid (Below.refl wo.heap.size wo)
      all_goals
        refine (clone_any l (fun b => b < w3.heap.size) _ _ (fun b hb => by have := BW.out.size; omega) (HLr.out.keep (Same.of_below BW.out fun b hb => by omega)) (by omega)).mono ?_
        rintro e w7 ⟨v7, rfl, o7, _, b7⟩
        obtain ⟨g7, c7, rfl, hg7, hl7, _, _, _⟩ := own_open o7 (by omega)
        have O7 := hid o7
        have B7 := hid b7
        have H7 := hid hg7
        clear o7 b7 hg7 hl7
        go_wp2_with fail
        refine (del_any O7.out hlt (wf1000 HZ.out)).mono ?_
        rintro e w8 ⟨dv, rfl, di, b8⟩
        have B8 := hid (B7.out.trans b8)
        have BW8 := hid (BW.out.trans (B8.out.mono BW.out.size))
        have s8 := B8.out.size
        have sW := BW.out.size
        have TX8 := hid (TX.out.keep (fun b _ hb => B8.out.block b hb) s8)
        have NEW : Hid (∀ (i : Nat) r row, [dv][i]? = some r → [l.take j ++ l.drop (j + 1)][i]? = some row → IntsIn .i64 (fun b => wo.heap.size ≤ b ∧ b < w8.heap.size ∧ tv.ownBlock ≠ some b) w8 r row) := fun i r row h1 h2 => by
          match i, h1, h2 with
          | 0, h1, h2 =>
            simp at h1 h2
            subst h1 h2
            have h7 := own_ge O7.out g7 rfl
            have h7' := own_lt O7.out g7 rfl
            exact di.more fun b hb => ⟨by omega, by have := b8.size; omega, fun h => by have := own_lt TX.out.1 b h; omega⟩
          | i + 1, h1, h2 => simp at h1
        obtain ⟨Ad, cd, rfl, _, _, _⟩ := di
        obtain ⟨i0, hi0, hz0, hz1, hz2⟩ := info_parts infoInts
        have LC : Hid (wo.heap.size ≤ w8.heap.size) := by show _ ≤ _; omega
        clear O7 B7 H7 b8
        obtain ⟨dl, hdl⟩ : ∃ dl, dl = List.take j l ++ List.drop (j + 1) l := ⟨_, rfl⟩
        rw [← hdl] at NEW TL ⊢
        clear hdl
        generalize dl.length = dn at *
        go_wp2_with (at_builtin; refine wpList_app _ rfl (.tmp 53) (.tmp 60) 27 rfl wo.heap.size 25 i0 (.slice none 0 0) 1 24 Tryd.underlying27 hi0 hz0 hz1 hz2 rfl (by decide) _ _ _ rfl (TX8.out.1.alloc _) _ _ 1 [.slice Ad dn cd] rfl (cells_oneG _ _ _ (by simp)) (by intro u hu; simp at hu; subst hu; rfl) (by unfold maxLen; omega) (by omega) (by have := LC.out; simp; omega) ?_; intro v9 w9 hown9 hgrow9 hat9; have TX9 := hid (TriesE.app (lln := [dl]) TX8.out rfl NEW.out hown9 hgrow9 hat9); rw [TL.out] at TX9; have NT9 : (triesL l j).length = tl.length + 1 := (by rw [← TL.out]; simp); have BW9 : Hid (Below wo.heap.size wo w9) := below_app BW8.out LC.out hgrow9 (own_ge TX8.out.1); obtain ⟨A9, c9, rfl⟩ := own_slice3 hown9; clear hown9 hgrow9 hat9)
        go_loopw [63] (fun iv wi => ∃ (i : Nat) (D' : Nat → Prop), i ≤ tl.length + 1 ∧ iv = .int .i64 i ∧ Hid (LessX (w3.heap.size + 1) (lessTo G l j ++ ((triesL l j).take i).flatMap (keepG G l)) D' wi) ∧ Hid (∀ b, D' b → b < wo.heap.size ∨ w9.heap.size ≤ b) ∧ Hid (Below w3.heap.size w3 wi) ∧ Hid (∀ b, wo.heap.size ≤ b → b < w9.heap.size → wi.heap[b]? = w9.heap[b]?) ∧ w9.heap.size ≤ wi.heap.size) (fun iv _ => tl.length + 1 - (intOf iv).toNat)
        case atStart => exact ⟨0, D, Nat.zero_le _, rfl, (by show LessX _ _ _ _; rw [List.take_zero, List.flatMap_nil, List.append_nil]; exact LR.out.keep fun b _ hb => BW9.out.block b hb), fun b hb => .inl (LR.out.lt b hb).2, BR.out.trans (BW9.out.mono sr), fun _ _ _ => rfl, Nat.le_refl _⟩
        case round =>
          obtain ⟨i, D', hi, rfl, L1, D1, B1, S1, z1⟩ := hrel
          by_cases h2 : i < tl.length + 1
          · have h2' : i < (triesL l j).length := by omega
            obtain ⟨g9, c9', u9, e9, ga, gb, q9, i9⟩ := TX9.out.at_ h2'
            have FS := hid (ktake_flat (g := G) (l := l) h2')
            have LB2 : (lessTo G l j ++ ((triesL l j).take i).flatMap (keepG G l)).length ≤ 1000000000000 := by
              have k1 := LF.out ((triesL l j).take i)
              have k2 : ((triesL l j).take i).length ≤ 4 := by rw [List.length_take]; have := tries_len l j; omega
              rw [List.length_append]; omega
            obtain ⟨zs9, hz9⟩ : ∃ z, z = (triesL l j)[i] := ⟨_, rfl⟩
            rw [← hz9] at i9 FS
            rw [NT9] at e9
            simp only [Value.slice.injEq, true_and] at e9
            obtain ⟨rfl, rfl⟩ := e9
            have q8 : wr.cell? ⟨g9, i, none⟩ = some u9 := (World.cell?_of_block (w := w9) (S1.out g9 ga gb)).trans q9
            have i2 : (i : Int) < (tl.length : Int) + 1 := by omega
            have s9 := BW9.out.size
            have si := B1.out.size
            have I9 : Hid (IntsIn .i64 (fun b => b < wr.heap.size) wr u9 zs9) := (i9.keep fun b hb => S1.out b hb.1 hb.2).more fun b hb => by omega
            have IL : Hid (IntsIn .i64 (fun b => b < wr.heap.size) wr (.slice (some ⟨bl, ol, none⟩) l.length cl) l) := (HL.out.keep (Same.of_below (B3.out.trans (B1.out.mono (by omega))) HF.out)).more fun b hb => by have := HF.out b hb; omega
            have IG : Hid (GeIn (fun b => b < wr.heap.size) wr G (.int .i64 k) (.int .i64 a) (.int .i64 b) (.slice A s.length cp)) := GeIn.more (fun b hb => by have := HF.out b hb; omega) _ (GeIn.keep (Same.of_below (B3.out.trans (B1.out.mono (by omega))) HF.out) _ HX.out)
            have G1 := hid (Has.below Y0.out B1.out (by omega))
            have G2 := hid (Has.below Y1.out B1.out (by omega))
            have TC := hid (TA.out zs9 (fun b => b < wr.heap.size) D' _ _ _ _ _ u9 (w3.heap.size + 1) w.heap.size (w.heap.size + 1) _ wr (fun b h => h) IG.out I9.out IL.out G1.out G2.out L1.out HC.out LB2)
            obtain ⟨A9', c9'', rfl, _, _, _⟩ := i9
            clear q9 ga gb hz9 LB2 h2'
            go_wp2_with fail
            refine TC.out.mono ?_
            rintro e w10 ⟨rfl, ho, D'', L2, D2⟩
            have OH := hid ho
            have s10 := ho.1.size
            have HL2 := hid L2
            have HD2 := hid D2
            rw [List.append_assoc, ← FS.out] at HL2
            clear ho L2 D2
            go_wp2_with fail
            go_roundw
            case rel =>
              refine ⟨i + 1, D'', by omega, by go_num, HL2.out, fun b hb => ?_, ?_, fun b h1 h3 => ?_, by omega⟩
              · rcases HD2.out b hb with h | h
                · exact D1.out b h
                · exact .inr (by omega)
              · exact B1.out.trans ⟨OH.out.1.os, OH.out.1.tape, OH.out.1.output, s10, fun b hb => OH.out.2 b (by omega) (fun h => by have := (L1.out.lt b h).1; omega)⟩
              · exact (OH.out.2 b (by omega) (fun h => by rcases D1.out b h with h | h <;> omega)).trans (S1.out b h1 h3)
            case measure => simp [intOf]; omega
          · obtain rfl : i = tl.length + 1 := by omega
            have L3 : Hid (LessX (w3.heap.size + 1) (lessTo G l (j + 1)) D' wr) := by
              show LessX _ _ _ _
              rw [LN.out]
              have := L1.out
              rw [← NT9, List.take_length] at this
              exact this
            go_wp2_with fail
            go_roundw
            case rel => exact ⟨j + 1, D', by omega, by go_num, L3, B1⟩
            case measure => simp [intOf]; omega
    · obtain rfl : j = l.length := by omega
      have LR2 := LR.out
      rw [LL.out] at LR2
      obtain ⟨v0, xs0, r1, r2, r3, r4⟩ := LR2
      have BR3 := hid (B3.out.trans (BR.out.mono (by omega)))
      have q0 := Has.cell r2 0
      simp at q0
      have FIN := hid (LO.out _ wo v0 xs0 BR3.out rfl (own_baseR r3 (by omega)) (r4.base (by omega)))
      obtain ⟨A0, c0, rfl⟩ := own_slice3 r3
      generalize (lessL G l).length = nl at *
      clear r1 r2 r3 r4 nj
      go_wp2_with fail
      go_ret2
      exact FIN.out
end Go.Proofs.YtopehfmppfibhaaDoor
