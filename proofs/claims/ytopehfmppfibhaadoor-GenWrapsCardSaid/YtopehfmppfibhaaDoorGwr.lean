/- The law GenWraps: it returns true, and all that the call was given reads as before. Condition: the listed variables hold what they list. -/
import Derived.Test.YtopehfmppfibhaaDoorVtt
import Derived.Test.YtopehfmppfibhaaDoorGjs
import Derived.Test.YtopehfmppfibhaaDoorSpo
import Derived.Test.YtopehfmppfibhaaDoorIna
import Derived.Test.YtopehfmppfibhaaDoorRcp
import Derived.Test.YtopehfmppfibhaaDoorAse
import Derived.Test.YtopehfmppfibhaaDoorAst
import Derived.Test.YtopehfmppfibhaaDoorHle
import Derived.Deep.QuietTactic
import Derived.BigQuiet
namespace Go.Proofs.YtopehfmppfibhaaDoor
open Go.RowKit Go.Deep
theorem replR_mendedW {g : Ge} (hc : chkG g = 0) (t : List Int) : ∃ z, replR g (mendL g t) = .ok z := by
  obtain ⟨z, hz⟩ := replay_mendL g t hc
  exact ⟨z, by unfold replR; rw [if_neg (by omega), hz]; simp⟩
theorem replay_shift {α : Type} (t : List Int) (x : Int) : ∀ (c : Ch α) (pos pos' : Nat) (z : α), c.run (replayF t) pos = .ok (pos', z) → c.run (replayF (x :: t)) (pos + 1) = .ok (pos' + 1, z)
  | .done _, pos, pos', z, h => by
    rw [Ch.run] at h ⊢
    injection h with h
    injection h with h1 h2
    subst h1 h2; rfl
  | .ask m k, pos, pos', z, h => by
    rw [Ch.run] at h ⊢
    have e : at0 (x :: t) (pos + 1) = at0 t pos := by unfold at0; simp
    unfold replayF at h ⊢
    rw [e]
    by_cases h1 : pos < t.length
    · by_cases h2 : 0 ≤ at0 t pos ∧ at0 t pos ≤ m
      · rw [if_pos h1, if_pos h2] at h
        rw [if_pos (by simpa using h1), if_pos h2]
        exact replay_shift t x (k (at0 t pos)) (pos + 1) pos' z h
      · rw [if_pos h1, if_neg h2] at h; cases h
    · rw [if_neg h1] at h; cases h
/-- one of one generator -/
theorem wrap_chk {g : Ge} (hc : chkG g = 0) (k : Int) (hk : k = 3 ∨ k = 5) : chkG (.mk k 0 0 [g]) = if ((Ge.mk 3 0 0 [g]).parts 0).2 then 0 else 4 := by
  have e : (Ge.mk k 0 0 [g]).parts 0 = (Ge.mk 3 0 0 [g]).parts 0 := by rw [Ge.parts, Ge.parts]
  unfold chkG
  rw [e]
  have he := (chkG_good hc).2
  have e2 : (Ge.mk k 0 0 [g]).err = 0 := by
    rw [Ge.err]
    have : oneE k 0 0 [g].length = 0 := by
      rcases hk with rfl | rfl <;> simp [oneE]
    rw [if_neg (by rw [this]; simp), Ges.err, if_neg (by rw [he]; simp), Ges.err]
  rw [e2]
theorem wrap_any {g : Ge} {m : List Int} {z : Va} (h : replR g m = .ok z) : (replR (.mk 5 0 0 [g]) (0 :: m) = .ok z ∧ replR (.mk 3 0 0 [g]) m = .ok (.mk true 0 [z])) ∨ (replR (.mk 5 0 0 [g]) (0 :: m) = .error 4 ∧ replR (.mk 3 0 0 [g]) m = .error 4) := by
  obtain ⟨hc, hr, _, _⟩ := replR_ok h
  have c5 := wrap_chk hc 5 (.inr rfl)
  have c3 := wrap_chk hc 3 (.inl rfl)
  by_cases hp : ((Ge.mk 3 0 0 [g]).parts 0).2 = true
  · left
    rw [if_pos hp] at c5 c3
    constructor
    · unfold replR
      rw [if_neg (by omega)]
      have : (Ge.mk 5 0 0 [g]).made.run (replayF (0 :: m)) 0 = .ok (m.length + 1, z) := by
        rw [Ge.made]
        simp only [madeM, show ¬ ((5 : Int) = 1) by decide, show ¬ ((5 : Int) = 2) by decide, show ¬ ((5 : Int) = 3) by decide, show ¬ ((5 : Int) = 4) by decide, if_false, if_true]
        rw [Ch.run]
        have e0 : replayF (0 :: m) 0 (((Ges.mades [g]).length : Int) - 1) = .ok (1, 0) := by
          unfold replayF
          rw [if_pos (by simp), if_pos (by simp [at0, mades_len])]
          simp [at0]
        rw [e0]
        simp only
        rw [show (Ges.mades [g]).getD (0 : Int).toNat (.done default) = g.made by simp [Ges.mades]]
        exact replay_shift m 0 g.made 0 m.length z hr
      rw [this]
      simp
    · unfold replR
      rw [if_neg (by omega)]
      have : (Ge.mk 3 0 0 [g]).made.run (replayF m) 0 = .ok (m.length, .mk true 0 [z]) := by
        rw [Ge.made]
        simp only [madeM, show ¬ ((3 : Int) = 1) by decide, show ¬ ((3 : Int) = 2) by decide, if_false, if_true]
        rw [bind_list_run, Ges.mades, Ges.mades, all_cons_run, hr]
        simp [thenR, glueR, listR, Ch.all, Ch.run]
      rw [this]
      simp
  · right
    rw [if_neg hp] at c5 c3
    constructor
    · unfold replR; rw [if_pos (by omega), c5]
    · unfold replR; rw [if_pos (by omega), c3]
/-- three operations that may come up -/
theorem branch3L {P : Program} {md : Region.Mode} {ops : Array Oper} {Q : Exit → Act → World → Prop} {S : World → Prop} {Ls : List Nat} {i j l : Nat} {o p q : Oper} {fuel : Nat} {listed : Array Bool} {a : Act} {w : World} (hr : Region.ready md ops listed = [i, j, l]) (ho : ops[i]? = some o) (hp : ops[j]? = some p) (hq : ops[l]? = some q)
    (h : ∀ K' : Act → World → Prop, Shut (∀ a w, (S w ∨ i ∈ Ls) → wpAnyL P md ops Q S Ls fuel (listed.setIfInBounds i true) a w → K' a w) → if Region.wanted o (yielded ops a.tmps) = true then Oper.wp P o a w K' Q else K' (a.put o.dst undef) w)
    (h2 : ∀ K' : Act → World → Prop, Shut (∀ a w, (S w ∨ j ∈ Ls) → wpAnyL P md ops Q S Ls fuel (listed.setIfInBounds j true) a w → K' a w) → if Region.wanted p (yielded ops a.tmps) = true then Oper.wp P p a w K' Q else K' (a.put p.dst undef) w)
    (h3 : ∀ K' : Act → World → Prop, Shut (∀ a w, (S w ∨ l ∈ Ls) → wpAnyL P md ops Q S Ls fuel (listed.setIfInBounds l true) a w → K' a w) → if Region.wanted q (yielded ops a.tmps) = true then Oper.wp P q a w K' Q else K' (a.put q.dst undef) w) :
    wpAnyL P md ops Q S Ls (fuel + 1) listed a w :=
  ⟨fun h0 => (by rw [hr] at h0; cases h0), fun k hk => by
    rw [hr] at hk
    rcases List.mem_cons.1 hk with rfl | hk
    · exact wpOp_step ho (fun K' hK => h K' (fun a w hS hW => hK a w ⟨hS, hW⟩))
    · rcases List.mem_cons.1 hk with rfl | hk
      · exact wpOp_step hp (fun K' hK => h2 K' (fun a w hS hW => hK a w ⟨hS, hW⟩))
      · obtain rfl : k = l := by simpa using hk
        exact wpOp_step hq (fun K' hK => h3 K' (fun a w hS hW => hK a w ⟨hS, hW⟩))⟩
/-- what a replay left: a value, or a fault -/
def ResV (F : Nat → Prop) (w : World) (r : Except Int Va) (l : Bool) (n : Int) (A : Option Addr) (len cp : Nat) (ev : Value) : Prop := match r with
  | .ok z => ev = .nilIface ∧ VaIn F w z (.bool l) (.int .i64 n) (.slice A len cp)
  | .error c => ev = errV c
theorem ResV.keep_ {F : Nat → Prop} {w w' : World} {r : Except Int Va} {l : Bool} {n : Int} {A : Option Addr} {len cp : Nat} {ev : Value} (h : ResV F w r l n A len cp ev) (hs : Same F w w') : ResV F w' r l n A len cp ev := by
  cases r with
  | error c => exact h
  | ok z => exact ⟨h.1, VaIn.keep hs _ h.2⟩
def ResPost (r : Except Int Va) (u : World) (e : Ending) (w' : World) : Prop := ∃ l n A len cp ev, e = .returned (.tuple #[.agg #[.bool l, .int .i64 n, .slice A len cp], ev]) ∧ Below u.heap.size u w' ∧ ResV (fun b => u.heap.size ≤ b ∧ b < w'.heap.size) w' r l n A len cp ev
def WrapOk (n0 : Nat) (wz : World) (g : Nat) (ev : Value) (r : Except Int Va) (wx : World) : Prop := n0 ≤ g ∧ Below n0 wz wx ∧ ∃ l n A len cp F, wx.heap[g]? = some (.cells #[.bool l, .int .i64 n, .slice A len cp] 47 (0, 0)) ∧ (∀ b, F b → n0 ≤ b ∧ b < wx.heap.size) ∧ ResV F wx r l n A len cp ev
theorem res_of {g : Ge} {t : List Int} {F : Nat → Prop} {u v x c tv : Value} {w : World} (hF : ∀ b, F b → b < w.heap.size) (hx : GeIn F w g u v x c) (ht : IntsIn .i64 F w tv t) :
    Calls Tryd.prog 20 #[.agg #[u, v, x, c], tv] w (ResPost (replR g t) w) := by
  refine (replay_any g t F u v x c tv w hF hx ht).mono ?_
  rintro e w' ⟨hb, he⟩
  cases hr : replR g t with
  | error cc =>
    rw [hr] at he
    obtain ⟨_, rfl⟩ := he
    exact ⟨_, _, none, 0, 0, _, rfl, hb, rfl⟩
  | ok z =>
    rw [hr] at he
    obtain ⟨zl, zn, zs⟩ := z
    obtain ⟨c, rfl, hv, hw⟩ := he
    have hva := hv.va (k := zl) hw
    obtain ⟨A, cp, rfl⟩ := hv.slice
    exact ⟨_, _, A, _, cp, _, rfl, hb, rfl, VaIn.more (fun b h => ⟨h.1, h.2.1⟩) _ hva⟩
theorem ge_wrap {F : Nat → Prop} {w : World} {g : Ge} {k : Int} {gG : Nat} {u v x c : Value} (hk : (Lit.int .i64 k).wf = true) (hF : F gG) (hg : GeIn F w g u v x c) (h0 : w.cell? ⟨gG, 0, none⟩ = some u) (h1 : w.cell? ⟨gG, 1, none⟩ = some v) (h2 : w.cell? ⟨gG, 2, none⟩ = some x) (h3 : w.cell? ⟨gG, 3, none⟩ = some c) :
    GeIn F w (.mk k 0 0 [g]) (.int .i64 k) (.int .i64 0) (.int .i64 0) (.slice (some ⟨gG, 0, none⟩) 1 1) := by
  rw [GeIn]
  refine ⟨rfl, rfl, rfl, hk, by decide, by decide, _, 1, rfl, by simp [maxLen], fun _ => ⟨gG, 0, rfl, hF, ?_⟩⟩
  rw [GesIn]
  exact ⟨⟨u, v, x, c, h0, h1, h2, h3, hg⟩, by rw [GesIn]; trivial⟩
set_option maxRecDepth 100000 in
set_option maxHeartbeats 4000000 in
theorem genWraps_walk (g : Ge) (vg : Value) (l : List Int) (v : Value) (W : World) (hL : (∀ w', Below W.heap.size W w' → Tab w') ∧ Laid W) (hg : ∃ u x y c, vg = .agg #[u, x, y, c] ∧ GeIn (fun b => b < W.heap.size) W g u x y c) (hv : IntsIn .i64 (fun b => b < W.heap.size) W v l) (_hz : l.length * 8 ≤ 140737488351232) :
    Calls Tryd.prog 7 #[vg, v] W (LawPost W) := by
  obtain ⟨u1, u2, u3, u4, rfl, hg⟩ := hg
  have HT := hid hL.1
  have HL := hid hL.2
  have HG := hid hg
  have HV := hid hv
  have WFG := hid (GeIn.wf (k := g.k) (a := g.a) (b := g.b) (s := g.s) (by cases g; exact hg))
  have MA := hid (mend_any g)
  have RA := hid (replay_any g)
  have MR : Hid (chkG g = 0 → mendR g l = mendL g l) := fun h => by unfold mendR; rw [if_pos h]
  have RM := hid (fun h => @replR_mendedW g h l)
  have MG : Hid (chkG g = 0 → (∀ z ∈ mendL g l, 0 ≤ z ∧ z ≤ 1000) ∧ (mendL g l).length ≤ 1000000000) := fun h => ⟨mendL_range g l h, mendL_len g l h⟩
  have RS := hid (fun t z h => @replay_size g t z h)
  have WR := hid (fun m z h => @wrap_any g m z h)
  have R5 := hid (fun m F u v x c tv w => replay_any (.mk 5 0 0 [g]) m F u v x c tv w)
  have R3 := hid (fun m F u v x c tv w => replay_any (.mk 3 0 0 [g]) m F u v x c tv w)
  obtain ⟨k, a, b, s⟩ := g
  generalize hG : Ge.mk k a b s = G at *
  have hg' := hg
  rw [← hG] at hg'
  obtain ⟨A, cp, rfl, rfl, rfl, rfl, _, _, _⟩ := hg'.box
  obtain ⟨Az, cz, rfl, _, _, _⟩ := hv
  have B0 : Hid (Below W.heap.size W (W.alloc (.cells #[.int .i64 k, .int .i64 a, .int .i64 b, .slice A s.length cp] 24))) := (Below.refl _ _).alloc (Nat.le_refl _) _
  have X0 := hid (Has.new W (.cells #[.int .i64 k, .int .i64 a, .int .i64 b, .slice A s.length cp] 24))
  clear hL hg hg' hG
  go_enter Tryd.func7, Tryd.ntmps7
  go_wp2_with fail
  refine (just_any _).mono ?_
  rintro e w1 ⟨rfl, hb⟩
  have s1 := hb.size
  simp only [World.size_alloc] at s1
  have B1 := hid (B0.out.trans (hb.mono (by simp)))
  have X1 := hid (Has.below X0.out hb (by simp))
  have x0 := Has.cell X1.out 0
  have x1 := Has.cell X1.out 1
  have x2 := Has.cell X1.out 2
  have x3 := Has.cell X1.out 3
  simp at x0 x1 x2 x3
  clear hb X0 B0
  go_wp2_with fail
  refine (MA.out l (fun b => b < W.heap.size) _ _ _ _ _ w1 (fun b hb => by omega) (GeIn.keep (Same.of_below B1.out fun b h => h) _ HG.out) (HV.out.keep (Same.of_below B1.out fun b h => h))).mono ?_
  rintro e w2 ⟨v2, rfl, hO, hb⟩
  have s2 := hb.size
  have B2 := hid (B1.out.trans (hb.mono (by omega)))
  have X2 := hid (Has.below X1.out hb (by omega))
  by_cases hc : chkG G = 0
  case neg =>
    obtain ⟨At, ct, rfl⟩ := own_slice3 hO
    rw [errV_no hc]
    clear hb hO x0 x1 x2 x3 hc
    go_wp2_with fail
    go_ret
    exact ⟨rfl, B2.out⟩
  rw [MR.out hc] at hO
  obtain ⟨M, hM⟩ : ∃ M, M = mendL G l := ⟨_, rfl⟩
  rw [← hM] at hO
  obtain ⟨mr, ml⟩ := MG.out hc
  rw [← hM] at mr ml
  have GR := hid mr
  obtain ⟨z, hz⟩ := RM.out hc
  rw [← hM] at hz
  have RZ := hid hz
  have SZ := hid (RS.out M z hz)
  have WW := hid (WR.out M z hz)
  have I2 := hid (ints_blockC hO (wf1000 mr))
  have L2 := hid (own_lt hO)
  obtain ⟨A2, c2, rfl⟩ := own_slice3 hO
  obtain ⟨zl, zn, zs⟩ := z
  rw [hc, errV_0]
  clear x0 x1 x2 x3
  have y0 := Has.cell X2.out 0
  have y1 := Has.cell X2.out 1
  have y2 := Has.cell X2.out 2
  have y3 := Has.cell X2.out 3
  simp at y0 y1 y2 y3
  clear hb hO hc hM mr hz X1 B1
  go_wp2_with fail
  refine (RA.out M (fun b => b < w2.heap.size) _ _ _ _ _ w2 (fun b h => h) (GeIn.more (fun b hb => by omega) _ (GeIn.keep (Same.of_below B2.out fun b h => h) _ HG.out)) (I2.out.more fun b h => L2.out b h)).mono ?_
  rintro e w3 ⟨hb, he⟩
  rw [RZ.out] at he
  obtain ⟨c3, rfl, hv3, hwf⟩ := he
  have s3 := hb.size
  have VT := hid (hv3.va (k := zl) hwf)
  obtain ⟨A3, cp3, rfl⟩ := hv3.slice
  have E3 : Hid (Below w3.heap.size w3 (w3.alloc (.cells #[.bool zl, .int .i64 zn, .slice A3 zs.length cp3] 47))) := (Below.refl _ _).alloc (Nat.le_refl _) _
  have B3 : Hid (Below W.heap.size W (w3.alloc (.cells #[.bool zl, .int .i64 zn, .slice A3 zs.length cp3] 47))) := (B2.out.trans (hb.mono (by omega))).trans (E3.out.mono (by omega))
  have Z3 := hid (Has.new w3 (.cells #[.bool zl, .int .i64 zn, .slice A3 zs.length cp3] 47))
  have V3 := hid (VaIn.more (F' := fun b => b < w3.heap.size) (fun b h => h.2.1) _ (VaIn.keep (fun b h => E3.out.block b h.2.1) _ VT.out))
  have I3 := hid (((I2.out.keep (Same.of_below hb L2.out)).keep (Same.of_below E3.out fun b h => by have := L2.out b h; omega)).more (F' := fun b => b < w2.heap.size) fun b h => L2.out b h)
  have X3 := hid (Has.below (Has.below X2.out hb (by omega)) E3.out (by omega))
  clear hb hv3 hwf VT y0 y1 y2 y3 X2 B2 E3
  obtain ⟨i0, hi0, hq0, hq1, hq2⟩ := info_parts infoInt
  obtain ⟨r5, hr5⟩ : ∃ r5, r5 = replR (.mk 5 0 0 [G]) (0 :: M) := ⟨_, rfl⟩
  have HR5 := hid hr5
  obtain ⟨wb, hwb⟩ : ∃ wb, wb = w3.alloc (.cells #[.bool zl, .int .i64 zn, .slice A3 zs.length cp3] 47) := ⟨_, rfl⟩
  rw [← hwb] at B3 Z3 V3 I3 X3
  have sb : w3.heap.size < wb.heap.size := by rw [hwb]; simp
  have HWB := hid hwb
  have y0 := Has.cell X3.out 0
  have y1 := Has.cell X3.out 1
  have y2 := Has.cell X3.out 2
  have y3 := Has.cell X3.out 3
  simp at y0 y1 y2 y3
  clear hr5
  go_upto_region 6 with fail
  rw [← hwb]
  clear hwb
  obtain ⟨wz, hwz⟩ : ∃ wz, wz = wb.drew := ⟨_, rfl⟩
  obtain ⟨n0, hn0⟩ : ∃ n0, n0 = wz.heap.size := ⟨_, rfl⟩
  have szb : wb.heap.size ≤ wz.heap.size := by rw [hwz]; exact Nat.le_refl _
  have lWz : W.heap.size < n0 := by omega
  have BZ : Hid (Below W.heap.size W wz) := by show Below _ _ _; rw [hwz]; exact B3.out.drew
  have IM : Hid (IntsIn .i64 (fun b => b < n0) wz (.slice A2 M.length c2) M) := by show IntsIn _ _ _ _ _; rw [hwz]; exact (I3.out.keep fun _ _ => rfl).more fun b h => by omega
  have ZZ : Hid (wz.heap[w3.heap.size]? = some (.cells #[.bool zl, .int .i64 zn, .slice A3 zs.length cp3] 47 (0, 0))) := by show _ = _; rw [hwz]; exact Z3.out
  have VZ : Hid (VaIn (fun b => b < n0) wz (.mk zl zn zs) (.bool zl) (.int .i64 zn) (.slice A3 zs.length cp3)) := by show VaIn _ _ _ _ _ _; rw [hwz]; exact VaIn.more (fun b h => by omega) _ (VaIn.keep (w := wb) (w' := wb.drew) (fun _ _ => rfl) _ V3.out)
  have GZ : Hid (GeIn (fun b => b < n0) wz G (.int .i64 k) (.int .i64 a) (.int .i64 b) (.slice A s.length cp)) := GeIn.more (fun b h => by omega) _ (GeIn.keep (Same.of_below BZ.out fun b h => h) _ HG.out)
  have XZ : Hid (wz.heap[W.heap.size]? = some (.cells #[.int .i64 k, .int .i64 a, .int .i64 b, .slice A s.length cp] 24 (0, 0))) := by show _ = _; rw [hwz]; exact X3.out
  have RC : Hid (∀ (gG : Nat) (u : World) (AR : Option Addr) (cR : Nat), n0 ≤ gG → Below n0 wz u → u.heap[gG]? = some (.cells #[.int .i64 k, .int .i64 a, .int .i64 b, .slice A s.length cp] 24 (0, 0)) → u.ownsRow n0 3 1 (.slice AR (1 + M.length) cR) (1 + M.length) ([.int .i64 0] ++ M.map (Value.int .i64)) → Calls Tryd.prog 20 #[.agg #[.int .i64 5, .int .i64 0, .int .i64 0, .slice (some ⟨gG, 0, none⟩) 1 1], .slice AR (1 + M.length) cR] u (ResPost r5 u)) := by
    show ∀ (gG : Nat) (u : World) (AR : Option Addr) (cR : Nat), n0 ≤ gG → _
    intro gG u AR cR hg hb hx ho
    rw [HR5.out]
    have hsz := hb.size
    have hi : IntsIn .i64 (fun b => b < u.heap.size) u (.slice AR (1 + M.length) cR) (0 :: M) := (ints_blockC (zs := 0 :: M) (by simpa using ho) (wf1000 fun z hz => by
      rcases List.mem_cons.1 hz with rfl | hz
      · omega
      · exact GR.out z hz)).more fun b h => own_lt ho b h
    refine res_of (fun b h => h) (ge_wrap (by decide) (Has.lt hx) (GeIn.more (fun b h => by omega) _ (GeIn.keep (Same.of_below hb fun b h => h) _ GZ.out)) ((Has.cell hx 0).trans rfl) ((Has.cell hx 1).trans rfl) ((Has.cell hx 2).trans rfl) ((Has.cell hx 3).trans rfl)) hi
  clear I3 V3 X3 Z3 I2 L2 HWB
  go_cut [10, 11] (fun v10 v11 wx => ∃ (g : Nat) (ev : Value), v10 = .pointer (some ⟨g, 0, none⟩) ∧ v11 = ev ∧ Hid (WrapOk n0 wz g ev r5 wx))
  case first =>
    refine wp_region_l (S := (fun w' => w'.cell? ⟨W.heap.size, 0, none⟩ = some (.int .i64 k) ∧ w'.cell? ⟨W.heap.size, 1, none⟩ = some (.int .i64 a) ∧ w'.cell? ⟨W.heap.size, 2, none⟩ = some (.int .i64 b) ∧ w'.cell? ⟨W.heap.size, 3, none⟩ = some (.slice A s.length cp))) (Ls := []) (by kernel_rfl) ⟨y0, y1, y2, y3⟩ (fun hHeld => ?_)
    rw [← hwz] at hHeld ⊢
    have BLwz : Hid (Below n0 wz wz) := Below.refl _ _
    have SAwz : n0 ≤ wz.heap.size := Nat.le_of_eq hn0
    have SBwz : wz.heap.size ≤ n0 := Nat.le_of_eq hn0.symm
    obtain ⟨hz0, hz1, hz2, hz3⟩ := hHeld
    have hHeld : (fun w' => w'.cell? ⟨W.heap.size, 0, none⟩ = some (.int .i64 k) ∧ w'.cell? ⟨W.heap.size, 1, none⟩ = some (.int .i64 a) ∧ w'.cell? ⟨W.heap.size, 2, none⟩ = some (.int .i64 b) ∧ w'.cell? ⟨W.heap.size, 3, none⟩ = some (.slice A s.length cp)) wz := ⟨hz0, hz1, hz2, hz3⟩
    clear hwz
    refine takeL [] (i := 0) (d := 37) (oi := _) (v := ?_) rfl rfl (by kernel_rfl) (by kernel_rfl) (by kernel_rfl) (by kernel_rfl) (by kernel_rfl) (fun _ _ _ h => h) (Or.inl ⟨by rfl, ?_⟩) (by assumption) ?_
    rotate_left
    · intro wz hSw; (try dsimp only at hSw); go_simp; (try with_reducible rfl)
    try simp only [Act.put, List.setIfInBounds_toArray, List.set_cons_zero, List.set_cons_succ]
    refine takeL [] (i := 4) (d := 41) (oi := _) (v := ?_) rfl rfl (by kernel_rfl) (by kernel_rfl) (by kernel_rfl) (by kernel_rfl) (by kernel_rfl) (fun _ _ _ h => h) (Or.inl ⟨by rfl, ?_⟩) (by assumption) ?_
    rotate_left
    · intro wz hSw; (try dsimp only at hSw); go_simp; (try with_reducible rfl)
    try simp only [Act.put, List.setIfInBounds_toArray, List.set_cons_zero, List.set_cons_succ]
    refine branch3L (i := 1) (j := 3) (l := 10) (o := _) (p := _) (q := _) (by kernel_rfl) rfl rfl rfl (fun K' hK => ?_) (fun K' hK => ?_) (fun K' hK => ?_)
    · go_simp
      obtain ⟨gG, hgG⟩ : ∃ g, g = wz.heap.size := ⟨_, rfl⟩
      obtain ⟨u1, hu1⟩ : ∃ y, y = wz.alloc (.cells #[.int .i64 k, .int .i64 a, .int .i64 b, .slice A s.length cp] 24) := ⟨_, rfl⟩
      have SAu1 : wz.heap.size + 1 ≤ u1.heap.size := by rw [hu1]; simp
      have BLu1 : Hid (Below n0 wz u1) := by show Below _ _ _; rw [hu1]; exact BLwz.out.alloc (by omega) _
      have gegG : wz.heap.size ≤ gG := by omega
      have logG : n0 ≤ gG := by omega
      have higG : gG < u1.heap.size := by omega
      have XG : Hid (u1.heap[gG]? = some (.cells #[.int .i64 k, .int .i64 a, .int .i64 b, .slice A s.length cp] 24 (0, 0))) := by show _ = _; rw [hu1, hgG]; exact Has.new _ _
      have hHeld : (fun w' => w'.cell? ⟨W.heap.size, 0, none⟩ = some (.int .i64 k) ∧ w'.cell? ⟨W.heap.size, 1, none⟩ = some (.int .i64 a) ∧ w'.cell? ⟨W.heap.size, 2, none⟩ = some (.int .i64 b) ∧ w'.cell? ⟨W.heap.size, 3, none⟩ = some (.slice A s.length cp)) u1 := ⟨(BLu1.out.cell (p := ⟨W.heap.size, 0, none⟩) lWz).trans hz0, (BLu1.out.cell (p := ⟨W.heap.size, 1, none⟩) lWz).trans hz1, (BLu1.out.cell (p := ⟨W.heap.size, 2, none⟩) lWz).trans hz2, (BLu1.out.cell (p := ⟨W.heap.size, 3, none⟩) lWz).trans hz3⟩
      (try rw [← hgG])
      (try rw [← hu1])
      refine hK.out _ _ (Or.inl hHeld) ?_
      clear hK K' hgG hu1
      try simp only [Act.put, List.setIfInBounds_toArray, List.set_cons_zero, List.set_cons_succ]
      refine takeL [] (i := 2) (d := 39) (oi := _) (v := ?_) rfl rfl (by kernel_rfl) (by kernel_rfl) (by kernel_rfl) (by kernel_rfl) (by kernel_rfl) (fun _ _ _ h => h) (Or.inl ⟨by rfl, ?_⟩) (by assumption) ?_
      rotate_left
      · intro wz hSw; (try dsimp only at hSw); go_simp; (try with_reducible rfl)
      try simp only [Act.put, List.setIfInBounds_toArray, List.set_cons_zero, List.set_cons_succ]
      refine branchL (i := 3) (j := 10) (o := _) (p := _) (by kernel_rfl) rfl rfl (fun K' hK => ?_) (fun K' hK => ?_)
      · go_simp
        obtain ⟨gR, hgR⟩ : ∃ g, g = u1.heap.size := ⟨_, rfl⟩
        obtain ⟨u2, hu2⟩ : ∃ y, y = u1.alloc (.cells #[.int .i64 0] 3) := ⟨_, rfl⟩
        have SAu2 : u1.heap.size + 1 ≤ u2.heap.size := by rw [hu2]; simp
        have BLu2 : Hid (Below n0 wz u2) := by show Below _ _ _; rw [hu2]; exact BLu1.out.alloc (by omega) _
        have gegR : u1.heap.size ≤ gR := by omega
        have logR : n0 ≤ gR := by omega
        have higR : gR < u2.heap.size := by omega
        have OR : Hid (u2.ownsRow n0 3 1 (.slice (some ⟨gR, 0, none⟩) 1 1) 1 [.int .i64 0]) := by show World.ownsRow _ _ _ _ _ _ _; rw [hu2, hgR]; exact World.ownsRow_lit (e := 3) (size := 1) (base := n0) u1 #[.int .i64 0] 1 (by omega) (by unfold maxLen; omega) rfl
        have XG : Hid (u2.heap[gG]? = some (.cells #[.int .i64 k, .int .i64 a, .int .i64 b, .slice A s.length cp] 24 (0, 0))) := by show _ = _; rw [hu2]; exact Has.alloc XG.out _
        have hHeld : (fun w' => w'.cell? ⟨W.heap.size, 0, none⟩ = some (.int .i64 k) ∧ w'.cell? ⟨W.heap.size, 1, none⟩ = some (.int .i64 a) ∧ w'.cell? ⟨W.heap.size, 2, none⟩ = some (.int .i64 b) ∧ w'.cell? ⟨W.heap.size, 3, none⟩ = some (.slice A s.length cp)) u2 := ⟨(BLu2.out.cell (p := ⟨W.heap.size, 0, none⟩) lWz).trans hz0, (BLu2.out.cell (p := ⟨W.heap.size, 1, none⟩) lWz).trans hz1, (BLu2.out.cell (p := ⟨W.heap.size, 2, none⟩) lWz).trans hz2, (BLu2.out.cell (p := ⟨W.heap.size, 3, none⟩) lWz).trans hz3⟩
        (try rw [← hgR])
        (try rw [← hu2])
        refine hK.out _ _ (Or.inl hHeld) ?_
        clear hK K' hgR hu2
        try simp only [Act.put, List.setIfInBounds_toArray, List.set_cons_zero, List.set_cons_succ]
        refine branchL (i := 5) (j := 10) (o := _) (p := _) (by kernel_rfl) rfl rfl (fun K' hK => ?_) (fun K' hK => ?_)
        · refine step_app _ (by rfl) (.tmp 40) (.tmp 41) 25 (by rfl) n0 3 i0 (.int .i64 0) 1 8 Tryd.underlying25 hi0 hq0 hq1 hq2 rfl (by decide) (.slice (some ⟨gR, 0, none⟩) 1 1) 1 [.int .i64 0] (by simp [Act.eval]) (by exact OR.out) _ (.slice A2 M.length c2) M.length (M.map (Value.int .i64)) (by simp [Act.eval]) (by exact (IM.out.keep (Same.of_below BLu2.out fun b h => h)).cells) (ints_one _ _) (by unfold maxLen; omega) (by omega) (by omega) ?_
          intro v6 u3 hown hgrow hat
          have SAu3 : u2.heap.size ≤ u3.heap.size := hgrow.size
          have BLu3 : Hid (Below n0 wz u3) := BLu2.out.grown hgrow (by omega) (own_ge OR.out)
          have XG : Hid (u3.heap[gG]? = some (.cells #[.int .i64 k, .int .i64 a, .int .i64 b, .slice A s.length cp] 24 (0, 0))) := (hgrow.block gG (by omega) (fun e => by simp [Value.ownBlock] at e; omega)).trans XG.out
          have OR := hid hown
          obtain ⟨AR, cR, rfl⟩ := own_slice3 hown
          clear hown hgrow hat
          have hHeld : (fun w' => w'.cell? ⟨W.heap.size, 0, none⟩ = some (.int .i64 k) ∧ w'.cell? ⟨W.heap.size, 1, none⟩ = some (.int .i64 a) ∧ w'.cell? ⟨W.heap.size, 2, none⟩ = some (.int .i64 b) ∧ w'.cell? ⟨W.heap.size, 3, none⟩ = some (.slice A s.length cp)) u3 := ⟨(BLu3.out.cell (p := ⟨W.heap.size, 0, none⟩) lWz).trans hz0, (BLu3.out.cell (p := ⟨W.heap.size, 1, none⟩) lWz).trans hz1, (BLu3.out.cell (p := ⟨W.heap.size, 2, none⟩) lWz).trans hz2, (BLu3.out.cell (p := ⟨W.heap.size, 3, none⟩) lWz).trans hz3⟩
          refine hK.out _ _ (Or.inl hHeld) ?_
          clear hK K'
          try simp only [Act.put, List.setIfInBounds_toArray]
          refine branchL (i := 6) (j := 10) (o := _) (p := _) (by kernel_rfl) rfl rfl (fun K' hK => ?_) (fun K' hK => ?_)
          · go_simp
            go_at_call 20
            refine (RC.out gG u3 AR cR logG BLu3.out XG.out OR.out).mono ?_
            rintro e u4 ⟨rl, rn, rA, rlen, rc, ev, rfl, hb, hres⟩
            have SAu4 : u3.heap.size ≤ u4.heap.size := hb.size
            have BLu4 : Hid (Below n0 wz u4) := BLu3.out.trans (hb.mono (by omega))
            have RES := hid hres
            clear hb hres
            have hHeld : (fun w' => w'.cell? ⟨W.heap.size, 0, none⟩ = some (.int .i64 k) ∧ w'.cell? ⟨W.heap.size, 1, none⟩ = some (.int .i64 a) ∧ w'.cell? ⟨W.heap.size, 2, none⟩ = some (.int .i64 b) ∧ w'.cell? ⟨W.heap.size, 3, none⟩ = some (.slice A s.length cp)) u4 := ⟨(BLu4.out.cell (p := ⟨W.heap.size, 0, none⟩) lWz).trans hz0, (BLu4.out.cell (p := ⟨W.heap.size, 1, none⟩) lWz).trans hz1, (BLu4.out.cell (p := ⟨W.heap.size, 2, none⟩) lWz).trans hz2, (BLu4.out.cell (p := ⟨W.heap.size, 3, none⟩) lWz).trans hz3⟩
            refine hK.out _ _ (Or.inl hHeld) ?_
            clear hK K'
            try simp only [Act.put, List.setIfInBounds_toArray, List.set_cons_zero, List.set_cons_succ]
            refine takeL [] (i := 7) (d := 36) (oi := _) (v := ?_) rfl rfl (by kernel_rfl) (by kernel_rfl) (by kernel_rfl) (by kernel_rfl) (by kernel_rfl) (fun _ _ _ h => h) (Or.inl ⟨by rfl, ?_⟩) (by assumption) ?_
            rotate_left
            · intro wz hSw; (try dsimp only at hSw); go_simp; (try with_reducible rfl)
            try simp only [Act.put, List.setIfInBounds_toArray, List.set_cons_zero, List.set_cons_succ]
            refine takeL [] (i := 8) (d := 44) (oi := _) (v := ?_) rfl rfl (by kernel_rfl) (by kernel_rfl) (by kernel_rfl) (by kernel_rfl) (by kernel_rfl) (fun _ _ _ h => h) (Or.inl ⟨by rfl, ?_⟩) (by assumption) ?_
            rotate_left
            · intro wz hSw; (try dsimp only at hSw); go_simp; (try with_reducible rfl)
            try simp only [Act.put, List.setIfInBounds_toArray, List.set_cons_zero, List.set_cons_succ]
            refine takeL [] (i := 9) (d := 45) (oi := _) (v := ?_) rfl rfl (by kernel_rfl) (by kernel_rfl) (by kernel_rfl) (by kernel_rfl) (by kernel_rfl) (fun _ _ _ h => h) (Or.inl ⟨by rfl, ?_⟩) (by assumption) ?_
            rotate_left
            · intro wz hSw; (try dsimp only at hSw); go_simp; (try with_reducible rfl)
            try simp only [Act.put, List.setIfInBounds_toArray, List.set_cons_zero, List.set_cons_succ]
            refine nxtL (i := 10) (o := _) (by kernel_rfl) rfl (fun K' hK => ?_)
            go_simp
            obtain ⟨gV, hgV⟩ : ∃ g, g = u4.heap.size := ⟨_, rfl⟩
            obtain ⟨u5, hu5⟩ : ∃ y, y = u4.alloc (.cells #[.bool false, .int .i64 0, .slice none 0 0] 47) := ⟨_, rfl⟩
            have SAu5 : u4.heap.size + 1 ≤ u5.heap.size := by rw [hu5]; simp
            have BLu5 : Hid (Below n0 wz u5) := by show Below _ _ _; rw [hu5]; exact BLu4.out.alloc (by omega) _
            have gegV : u4.heap.size ≤ gV := by omega
            have logV : n0 ≤ gV := by omega
            have VK : Hid (∀ b, b < u4.heap.size → u5.heap[b]? = u4.heap[b]?) := by show ∀ b, _ → _; intro b h; rw [hu5]; exact Below.heap_alloc _ _ _ h
            have higV : gV < u5.heap.size := by omega
            have XV : Hid (u5.heap[gV]? = some (.cells #[.bool false, .int .i64 0, .slice none 0 0] 47 (0, 0))) := by show _ = _; rw [hu5, hgV]; exact Has.new _ _
            have hHeld : (fun w' => w'.cell? ⟨W.heap.size, 0, none⟩ = some (.int .i64 k) ∧ w'.cell? ⟨W.heap.size, 1, none⟩ = some (.int .i64 a) ∧ w'.cell? ⟨W.heap.size, 2, none⟩ = some (.int .i64 b) ∧ w'.cell? ⟨W.heap.size, 3, none⟩ = some (.slice A s.length cp)) u5 := ⟨(BLu5.out.cell (p := ⟨W.heap.size, 0, none⟩) lWz).trans hz0, (BLu5.out.cell (p := ⟨W.heap.size, 1, none⟩) lWz).trans hz1, (BLu5.out.cell (p := ⟨W.heap.size, 2, none⟩) lWz).trans hz2, (BLu5.out.cell (p := ⟨W.heap.size, 3, none⟩) lWz).trans hz3⟩
            (try rw [← hgV])
            (try rw [← hu5])
            refine hK.out _ _ (Or.inl hHeld) ?_
            clear hK K' hgV hu5
            try simp only [Act.put, List.setIfInBounds_toArray, List.set_cons_zero, List.set_cons_succ]
            have c0 := Has.cell XV.out 0
            have c1 := Has.cell XV.out 1
            have c2' := Has.cell XV.out 2
            have f0 := Has.froz XV.out 0
            have f1 := Has.froz XV.out 1
            have f2 := Has.froz XV.out 2
            simp at c0 c1 c2'
            have S6 := hid (set3 XV.out (.bool rl) (.int .i64 rn) (.slice rA rlen rc))
            have hHeld : (fun w' => w'.cell? ⟨W.heap.size, 0, none⟩ = some (.int .i64 k) ∧ w'.cell? ⟨W.heap.size, 1, none⟩ = some (.int .i64 a) ∧ w'.cell? ⟨W.heap.size, 2, none⟩ = some (.int .i64 b) ∧ w'.cell? ⟨W.heap.size, 3, none⟩ = some (.slice A s.length cp)) (((u5.setCell ⟨gV, 0, none⟩ (.bool rl)).setCell ⟨gV, 1, none⟩ (.int .i64 rn)).setCell ⟨gV, 2, none⟩ (.slice rA rlen rc)) := ⟨(World.cell?_of_block (a := ⟨W.heap.size, 0, none⟩) (S6.out.2.1 W.heap.size (by omega))).trans hHeld.1, (World.cell?_of_block (a := ⟨W.heap.size, 1, none⟩) (S6.out.2.1 W.heap.size (by omega))).trans hHeld.2.1, (World.cell?_of_block (a := ⟨W.heap.size, 2, none⟩) (S6.out.2.1 W.heap.size (by omega))).trans hHeld.2.2.1, (World.cell?_of_block (a := ⟨W.heap.size, 3, none⟩) (S6.out.2.1 W.heap.size (by omega))).trans hHeld.2.2.2⟩
            refine nxtL (i := 11) (o := _) (by kernel_rfl) rfl (fun K' hK => ?_)
            go_simp
            refine hK.out _ _ (Or.inl hHeld) ?_
            clear hK K'
            try simp only [Act.put, List.setIfInBounds_toArray, List.set_cons_zero, List.set_cons_succ]
            refine nxtL (i := 12) (o := _) (by kernel_rfl) rfl (fun K' hK => ?_)
            go_simp
            refine hK.out _ _ (Or.inl hHeld) ?_
            clear hK K'
            try simp only [Act.put, List.setIfInBounds_toArray, List.set_cons_zero, List.set_cons_succ]
            refine doneL (by kernel_rfl) ?_ _
            have FC : Hid (WrapOk n0 wz gV ev r5 (((u5.setCell ⟨gV, 0, none⟩ (.bool rl)).setCell ⟨gV, 1, none⟩ (.int .i64 rn)).setCell ⟨gV, 2, none⟩ (.slice rA rlen rc))) := ⟨logV, BLu5.out.trans (S6.out.2.2.2.mono (by omega)), rl, rn, rA, rlen, rc, _, S6.out.1, fun b h => ⟨by have := h.1; omega, by rw [S6.out.2.2.1]; have := h.2; omega⟩, RES.out.keep_ (fun b h => (S6.out.2.1 b (by have := h.2; omega)).trans (VK.out b h.2))⟩
            clear c0 c1 c2' f0 f1 f2
            go_wp2_with fail
            go_meet
            exact ⟨gV, ev, rfl, rfl, FC⟩
          · go_simp
            obtain ⟨gV, hgV⟩ : ∃ g, g = u3.heap.size := ⟨_, rfl⟩
            obtain ⟨u6, hu6⟩ : ∃ y, y = u3.alloc (.cells #[.bool false, .int .i64 0, .slice none 0 0] 47) := ⟨_, rfl⟩
            have SAu6 : u3.heap.size + 1 ≤ u6.heap.size := by rw [hu6]; simp
            have BLu6 : Hid (Below n0 wz u6) := by show Below _ _ _; rw [hu6]; exact BLu3.out.alloc (by omega) _
            have gegV : u3.heap.size ≤ gV := by omega
            have logV : n0 ≤ gV := by omega
            have higV : gV < u6.heap.size := by omega
            have XV : Hid (u6.heap[gV]? = some (.cells #[.bool false, .int .i64 0, .slice none 0 0] 47 (0, 0))) := by show _ = _; rw [hu6, hgV]; exact Has.new _ _
            have XG : Hid (u6.heap[gG]? = some (.cells #[.int .i64 k, .int .i64 a, .int .i64 b, .slice A s.length cp] 24 (0, 0))) := by show _ = _; rw [hu6]; exact Has.alloc XG.out _
            have OR : Hid (u6.ownsRow n0 3 1 (.slice AR (1 + M.length) cR) (1 + M.length) ([.int .i64 0] ++ M.map (Value.int .i64))) := by show World.ownsRow _ _ _ _ _ _ _; rw [hu6]; exact OR.out.alloc _
            have hHeld : (fun w' => w'.cell? ⟨W.heap.size, 0, none⟩ = some (.int .i64 k) ∧ w'.cell? ⟨W.heap.size, 1, none⟩ = some (.int .i64 a) ∧ w'.cell? ⟨W.heap.size, 2, none⟩ = some (.int .i64 b) ∧ w'.cell? ⟨W.heap.size, 3, none⟩ = some (.slice A s.length cp)) u6 := ⟨(BLu6.out.cell (p := ⟨W.heap.size, 0, none⟩) lWz).trans hz0, (BLu6.out.cell (p := ⟨W.heap.size, 1, none⟩) lWz).trans hz1, (BLu6.out.cell (p := ⟨W.heap.size, 2, none⟩) lWz).trans hz2, (BLu6.out.cell (p := ⟨W.heap.size, 3, none⟩) lWz).trans hz3⟩
            (try rw [← hgV])
            (try rw [← hu6])
            refine hK.out _ _ (Or.inl hHeld) ?_
            clear hK K' hgV hu6
            try simp only [Act.put, List.setIfInBounds_toArray, List.set_cons_zero, List.set_cons_succ]
            refine nxtL (i := 6) (o := _) (by kernel_rfl) rfl (fun K' hK => ?_)
            go_simp
            go_at_call 20
            refine (RC.out gG u6 AR cR logG BLu6.out XG.out OR.out).mono ?_
            rintro e u7 ⟨rl, rn, rA, rlen, rc, ev, rfl, hb, hres⟩
            have SAu7 : u6.heap.size ≤ u7.heap.size := hb.size
            have BLu7 : Hid (Below n0 wz u7) := BLu6.out.trans (hb.mono (by omega))
            have RES := hid hres
            have XV : Hid (u7.heap[gV]? = some (.cells #[.bool false, .int .i64 0, .slice none 0 0] 47 (0, 0))) := (hb.block gV (by omega)).trans XV.out
            clear hb hres
            have hHeld : (fun w' => w'.cell? ⟨W.heap.size, 0, none⟩ = some (.int .i64 k) ∧ w'.cell? ⟨W.heap.size, 1, none⟩ = some (.int .i64 a) ∧ w'.cell? ⟨W.heap.size, 2, none⟩ = some (.int .i64 b) ∧ w'.cell? ⟨W.heap.size, 3, none⟩ = some (.slice A s.length cp)) u7 := ⟨(BLu7.out.cell (p := ⟨W.heap.size, 0, none⟩) lWz).trans hz0, (BLu7.out.cell (p := ⟨W.heap.size, 1, none⟩) lWz).trans hz1, (BLu7.out.cell (p := ⟨W.heap.size, 2, none⟩) lWz).trans hz2, (BLu7.out.cell (p := ⟨W.heap.size, 3, none⟩) lWz).trans hz3⟩
            refine hK.out _ _ (Or.inl hHeld) ?_
            clear hK K'
            try simp only [Act.put, List.setIfInBounds_toArray, List.set_cons_zero, List.set_cons_succ]
            refine takeL [] (i := 7) (d := 36) (oi := _) (v := ?_) rfl rfl (by kernel_rfl) (by kernel_rfl) (by kernel_rfl) (by kernel_rfl) (by kernel_rfl) (fun _ _ _ h => h) (Or.inl ⟨by rfl, ?_⟩) (by assumption) ?_
            rotate_left
            · intro wz hSw; (try dsimp only at hSw); go_simp; (try with_reducible rfl)
            try simp only [Act.put, List.setIfInBounds_toArray, List.set_cons_zero, List.set_cons_succ]
            refine takeL [] (i := 8) (d := 44) (oi := _) (v := ?_) rfl rfl (by kernel_rfl) (by kernel_rfl) (by kernel_rfl) (by kernel_rfl) (by kernel_rfl) (fun _ _ _ h => h) (Or.inl ⟨by rfl, ?_⟩) (by assumption) ?_
            rotate_left
            · intro wz hSw; (try dsimp only at hSw); go_simp; (try with_reducible rfl)
            try simp only [Act.put, List.setIfInBounds_toArray, List.set_cons_zero, List.set_cons_succ]
            refine takeL [] (i := 9) (d := 45) (oi := _) (v := ?_) rfl rfl (by kernel_rfl) (by kernel_rfl) (by kernel_rfl) (by kernel_rfl) (by kernel_rfl) (fun _ _ _ h => h) (Or.inl ⟨by rfl, ?_⟩) (by assumption) ?_
            rotate_left
            · intro wz hSw; (try dsimp only at hSw); go_simp; (try with_reducible rfl)
            try simp only [Act.put, List.setIfInBounds_toArray, List.set_cons_zero, List.set_cons_succ]
            have c0 := Has.cell XV.out 0
            have c1 := Has.cell XV.out 1
            have c2' := Has.cell XV.out 2
            have f0 := Has.froz XV.out 0
            have f1 := Has.froz XV.out 1
            have f2 := Has.froz XV.out 2
            simp at c0 c1 c2'
            have S6 := hid (set3 XV.out (.bool rl) (.int .i64 rn) (.slice rA rlen rc))
            have hHeld : (fun w' => w'.cell? ⟨W.heap.size, 0, none⟩ = some (.int .i64 k) ∧ w'.cell? ⟨W.heap.size, 1, none⟩ = some (.int .i64 a) ∧ w'.cell? ⟨W.heap.size, 2, none⟩ = some (.int .i64 b) ∧ w'.cell? ⟨W.heap.size, 3, none⟩ = some (.slice A s.length cp)) (((u7.setCell ⟨gV, 0, none⟩ (.bool rl)).setCell ⟨gV, 1, none⟩ (.int .i64 rn)).setCell ⟨gV, 2, none⟩ (.slice rA rlen rc)) := ⟨(World.cell?_of_block (a := ⟨W.heap.size, 0, none⟩) (S6.out.2.1 W.heap.size (by omega))).trans hHeld.1, (World.cell?_of_block (a := ⟨W.heap.size, 1, none⟩) (S6.out.2.1 W.heap.size (by omega))).trans hHeld.2.1, (World.cell?_of_block (a := ⟨W.heap.size, 2, none⟩) (S6.out.2.1 W.heap.size (by omega))).trans hHeld.2.2.1, (World.cell?_of_block (a := ⟨W.heap.size, 3, none⟩) (S6.out.2.1 W.heap.size (by omega))).trans hHeld.2.2.2⟩
            refine nxtL (i := 11) (o := _) (by kernel_rfl) rfl (fun K' hK => ?_)
            go_simp
            refine hK.out _ _ (Or.inl hHeld) ?_
            clear hK K'
            try simp only [Act.put, List.setIfInBounds_toArray, List.set_cons_zero, List.set_cons_succ]
            refine nxtL (i := 12) (o := _) (by kernel_rfl) rfl (fun K' hK => ?_)
            go_simp
            refine hK.out _ _ (Or.inl hHeld) ?_
            clear hK K'
            try simp only [Act.put, List.setIfInBounds_toArray, List.set_cons_zero, List.set_cons_succ]
            refine doneL (by kernel_rfl) ?_ _
            have FC : Hid (WrapOk n0 wz gV ev r5 (((u7.setCell ⟨gV, 0, none⟩ (.bool rl)).setCell ⟨gV, 1, none⟩ (.int .i64 rn)).setCell ⟨gV, 2, none⟩ (.slice rA rlen rc))) := ⟨logV, BLu7.out.trans (S6.out.2.2.2.mono (by omega)), rl, rn, rA, rlen, rc, _, S6.out.1, fun b h => ⟨by have := h.1; omega, by rw [S6.out.2.2.1]; have := h.2; omega⟩, RES.out.keep_ (fun b h => S6.out.2.1 b (by have := h.1; omega))⟩
            clear c0 c1 c2' f0 f1 f2
            go_wp2_with fail
            go_meet
            exact ⟨gV, ev, rfl, rfl, FC⟩
        · go_simp
          obtain ⟨gV, hgV⟩ : ∃ g, g = u2.heap.size := ⟨_, rfl⟩
          obtain ⟨u8, hu8⟩ : ∃ y, y = u2.alloc (.cells #[.bool false, .int .i64 0, .slice none 0 0] 47) := ⟨_, rfl⟩
          have SAu8 : u2.heap.size + 1 ≤ u8.heap.size := by rw [hu8]; simp
          have BLu8 : Hid (Below n0 wz u8) := by show Below _ _ _; rw [hu8]; exact BLu2.out.alloc (by omega) _
          have gegV : u2.heap.size ≤ gV := by omega
          have logV : n0 ≤ gV := by omega
          have higV : gV < u8.heap.size := by omega
          have XV : Hid (u8.heap[gV]? = some (.cells #[.bool false, .int .i64 0, .slice none 0 0] 47 (0, 0))) := by show _ = _; rw [hu8, hgV]; exact Has.new _ _
          have XG : Hid (u8.heap[gG]? = some (.cells #[.int .i64 k, .int .i64 a, .int .i64 b, .slice A s.length cp] 24 (0, 0))) := by show _ = _; rw [hu8]; exact Has.alloc XG.out _
          have OR : Hid (u8.ownsRow n0 3 1 (.slice (some ⟨gR, 0, none⟩) 1 1) 1 [.int .i64 0]) := by show World.ownsRow _ _ _ _ _ _ _; rw [hu8]; exact OR.out.alloc _
          have hHeld : (fun w' => w'.cell? ⟨W.heap.size, 0, none⟩ = some (.int .i64 k) ∧ w'.cell? ⟨W.heap.size, 1, none⟩ = some (.int .i64 a) ∧ w'.cell? ⟨W.heap.size, 2, none⟩ = some (.int .i64 b) ∧ w'.cell? ⟨W.heap.size, 3, none⟩ = some (.slice A s.length cp)) u8 := ⟨(BLu8.out.cell (p := ⟨W.heap.size, 0, none⟩) lWz).trans hz0, (BLu8.out.cell (p := ⟨W.heap.size, 1, none⟩) lWz).trans hz1, (BLu8.out.cell (p := ⟨W.heap.size, 2, none⟩) lWz).trans hz2, (BLu8.out.cell (p := ⟨W.heap.size, 3, none⟩) lWz).trans hz3⟩
          (try rw [← hgV])
          (try rw [← hu8])
          refine hK.out _ _ (Or.inl hHeld) ?_
          clear hK K' hgV hu8
          try simp only [Act.put, List.setIfInBounds_toArray, List.set_cons_zero, List.set_cons_succ]
          refine nxtL (i := 5) (o := _) (by kernel_rfl) rfl (fun K' hK => ?_)
          refine step_app _ (by rfl) (.tmp 40) (.tmp 41) 25 (by rfl) n0 3 i0 (.int .i64 0) 1 8 Tryd.underlying25 hi0 hq0 hq1 hq2 rfl (by decide) (.slice (some ⟨gR, 0, none⟩) 1 1) 1 [.int .i64 0] (by simp [Act.eval]) (by exact OR.out) _ (.slice A2 M.length c2) M.length (M.map (Value.int .i64)) (by simp [Act.eval]) (by exact (IM.out.keep (Same.of_below BLu8.out fun b h => h)).cells) (ints_one _ _) (by unfold maxLen; omega) (by omega) (by omega) ?_
          intro v6 u9 hown hgrow hat
          have SAu9 : u8.heap.size ≤ u9.heap.size := hgrow.size
          have BLu9 : Hid (Below n0 wz u9) := BLu8.out.grown hgrow (by omega) (own_ge OR.out)
          have XG : Hid (u9.heap[gG]? = some (.cells #[.int .i64 k, .int .i64 a, .int .i64 b, .slice A s.length cp] 24 (0, 0))) := (hgrow.block gG (by omega) (fun e => by simp [Value.ownBlock] at e; omega)).trans XG.out
          have XV : Hid (u9.heap[gV]? = some (.cells #[.bool false, .int .i64 0, .slice none 0 0] 47 (0, 0))) := (hgrow.block gV (by omega) (fun e => by simp [Value.ownBlock] at e; omega)).trans XV.out
          have OR := hid hown
          obtain ⟨AR, cR, rfl⟩ := own_slice3 hown
          clear hown hgrow hat
          have hHeld : (fun w' => w'.cell? ⟨W.heap.size, 0, none⟩ = some (.int .i64 k) ∧ w'.cell? ⟨W.heap.size, 1, none⟩ = some (.int .i64 a) ∧ w'.cell? ⟨W.heap.size, 2, none⟩ = some (.int .i64 b) ∧ w'.cell? ⟨W.heap.size, 3, none⟩ = some (.slice A s.length cp)) u9 := ⟨(BLu9.out.cell (p := ⟨W.heap.size, 0, none⟩) lWz).trans hz0, (BLu9.out.cell (p := ⟨W.heap.size, 1, none⟩) lWz).trans hz1, (BLu9.out.cell (p := ⟨W.heap.size, 2, none⟩) lWz).trans hz2, (BLu9.out.cell (p := ⟨W.heap.size, 3, none⟩) lWz).trans hz3⟩
          refine hK.out _ _ (Or.inl hHeld) ?_
          clear hK K'
          try simp only [Act.put, List.setIfInBounds_toArray]
          refine nxtL (i := 6) (o := _) (by kernel_rfl) rfl (fun K' hK => ?_)
          go_simp
          go_at_call 20
          refine (RC.out gG u9 AR cR logG BLu9.out XG.out OR.out).mono ?_
          rintro e u10 ⟨rl, rn, rA, rlen, rc, ev, rfl, hb, hres⟩
          have SAu10 : u9.heap.size ≤ u10.heap.size := hb.size
          have BLu10 : Hid (Below n0 wz u10) := BLu9.out.trans (hb.mono (by omega))
          have RES := hid hres
          have XV : Hid (u10.heap[gV]? = some (.cells #[.bool false, .int .i64 0, .slice none 0 0] 47 (0, 0))) := (hb.block gV (by omega)).trans XV.out
          clear hb hres
          have hHeld : (fun w' => w'.cell? ⟨W.heap.size, 0, none⟩ = some (.int .i64 k) ∧ w'.cell? ⟨W.heap.size, 1, none⟩ = some (.int .i64 a) ∧ w'.cell? ⟨W.heap.size, 2, none⟩ = some (.int .i64 b) ∧ w'.cell? ⟨W.heap.size, 3, none⟩ = some (.slice A s.length cp)) u10 := ⟨(BLu10.out.cell (p := ⟨W.heap.size, 0, none⟩) lWz).trans hz0, (BLu10.out.cell (p := ⟨W.heap.size, 1, none⟩) lWz).trans hz1, (BLu10.out.cell (p := ⟨W.heap.size, 2, none⟩) lWz).trans hz2, (BLu10.out.cell (p := ⟨W.heap.size, 3, none⟩) lWz).trans hz3⟩
          refine hK.out _ _ (Or.inl hHeld) ?_
          clear hK K'
          try simp only [Act.put, List.setIfInBounds_toArray, List.set_cons_zero, List.set_cons_succ]
          refine takeL [] (i := 7) (d := 36) (oi := _) (v := ?_) rfl rfl (by kernel_rfl) (by kernel_rfl) (by kernel_rfl) (by kernel_rfl) (by kernel_rfl) (fun _ _ _ h => h) (Or.inl ⟨by rfl, ?_⟩) (by assumption) ?_
          rotate_left
          · intro wz hSw; (try dsimp only at hSw); go_simp; (try with_reducible rfl)
          try simp only [Act.put, List.setIfInBounds_toArray, List.set_cons_zero, List.set_cons_succ]
          refine takeL [] (i := 8) (d := 44) (oi := _) (v := ?_) rfl rfl (by kernel_rfl) (by kernel_rfl) (by kernel_rfl) (by kernel_rfl) (by kernel_rfl) (fun _ _ _ h => h) (Or.inl ⟨by rfl, ?_⟩) (by assumption) ?_
          rotate_left
          · intro wz hSw; (try dsimp only at hSw); go_simp; (try with_reducible rfl)
          try simp only [Act.put, List.setIfInBounds_toArray, List.set_cons_zero, List.set_cons_succ]
          refine takeL [] (i := 9) (d := 45) (oi := _) (v := ?_) rfl rfl (by kernel_rfl) (by kernel_rfl) (by kernel_rfl) (by kernel_rfl) (by kernel_rfl) (fun _ _ _ h => h) (Or.inl ⟨by rfl, ?_⟩) (by assumption) ?_
          rotate_left
          · intro wz hSw; (try dsimp only at hSw); go_simp; (try with_reducible rfl)
          try simp only [Act.put, List.setIfInBounds_toArray, List.set_cons_zero, List.set_cons_succ]
          have c0 := Has.cell XV.out 0
          have c1 := Has.cell XV.out 1
          have c2' := Has.cell XV.out 2
          have f0 := Has.froz XV.out 0
          have f1 := Has.froz XV.out 1
          have f2 := Has.froz XV.out 2
          simp at c0 c1 c2'
          have S6 := hid (set3 XV.out (.bool rl) (.int .i64 rn) (.slice rA rlen rc))
          have hHeld : (fun w' => w'.cell? ⟨W.heap.size, 0, none⟩ = some (.int .i64 k) ∧ w'.cell? ⟨W.heap.size, 1, none⟩ = some (.int .i64 a) ∧ w'.cell? ⟨W.heap.size, 2, none⟩ = some (.int .i64 b) ∧ w'.cell? ⟨W.heap.size, 3, none⟩ = some (.slice A s.length cp)) (((u10.setCell ⟨gV, 0, none⟩ (.bool rl)).setCell ⟨gV, 1, none⟩ (.int .i64 rn)).setCell ⟨gV, 2, none⟩ (.slice rA rlen rc)) := ⟨(World.cell?_of_block (a := ⟨W.heap.size, 0, none⟩) (S6.out.2.1 W.heap.size (by omega))).trans hHeld.1, (World.cell?_of_block (a := ⟨W.heap.size, 1, none⟩) (S6.out.2.1 W.heap.size (by omega))).trans hHeld.2.1, (World.cell?_of_block (a := ⟨W.heap.size, 2, none⟩) (S6.out.2.1 W.heap.size (by omega))).trans hHeld.2.2.1, (World.cell?_of_block (a := ⟨W.heap.size, 3, none⟩) (S6.out.2.1 W.heap.size (by omega))).trans hHeld.2.2.2⟩
          refine nxtL (i := 11) (o := _) (by kernel_rfl) rfl (fun K' hK => ?_)
          go_simp
          refine hK.out _ _ (Or.inl hHeld) ?_
          clear hK K'
          try simp only [Act.put, List.setIfInBounds_toArray, List.set_cons_zero, List.set_cons_succ]
          refine nxtL (i := 12) (o := _) (by kernel_rfl) rfl (fun K' hK => ?_)
          go_simp
          refine hK.out _ _ (Or.inl hHeld) ?_
          clear hK K'
          try simp only [Act.put, List.setIfInBounds_toArray, List.set_cons_zero, List.set_cons_succ]
          refine doneL (by kernel_rfl) ?_ _
          have FC : Hid (WrapOk n0 wz gV ev r5 (((u10.setCell ⟨gV, 0, none⟩ (.bool rl)).setCell ⟨gV, 1, none⟩ (.int .i64 rn)).setCell ⟨gV, 2, none⟩ (.slice rA rlen rc))) := ⟨logV, BLu10.out.trans (S6.out.2.2.2.mono (by omega)), rl, rn, rA, rlen, rc, _, S6.out.1, fun b h => ⟨by have := h.1; omega, by rw [S6.out.2.2.1]; have := h.2; omega⟩, RES.out.keep_ (fun b h => S6.out.2.1 b (by have := h.1; omega))⟩
          clear c0 c1 c2' f0 f1 f2
          go_wp2_with fail
          go_meet
          exact ⟨gV, ev, rfl, rfl, FC⟩
      · go_simp
        obtain ⟨gV, hgV⟩ : ∃ g, g = u1.heap.size := ⟨_, rfl⟩
        obtain ⟨u11, hu11⟩ : ∃ y, y = u1.alloc (.cells #[.bool false, .int .i64 0, .slice none 0 0] 47) := ⟨_, rfl⟩
        have SAu11 : u1.heap.size + 1 ≤ u11.heap.size := by rw [hu11]; simp
        have BLu11 : Hid (Below n0 wz u11) := by show Below _ _ _; rw [hu11]; exact BLu1.out.alloc (by omega) _
        have gegV : u1.heap.size ≤ gV := by omega
        have logV : n0 ≤ gV := by omega
        have higV : gV < u11.heap.size := by omega
        have XV : Hid (u11.heap[gV]? = some (.cells #[.bool false, .int .i64 0, .slice none 0 0] 47 (0, 0))) := by show _ = _; rw [hu11, hgV]; exact Has.new _ _
        have XG : Hid (u11.heap[gG]? = some (.cells #[.int .i64 k, .int .i64 a, .int .i64 b, .slice A s.length cp] 24 (0, 0))) := by show _ = _; rw [hu11]; exact Has.alloc XG.out _
        have hHeld : (fun w' => w'.cell? ⟨W.heap.size, 0, none⟩ = some (.int .i64 k) ∧ w'.cell? ⟨W.heap.size, 1, none⟩ = some (.int .i64 a) ∧ w'.cell? ⟨W.heap.size, 2, none⟩ = some (.int .i64 b) ∧ w'.cell? ⟨W.heap.size, 3, none⟩ = some (.slice A s.length cp)) u11 := ⟨(BLu11.out.cell (p := ⟨W.heap.size, 0, none⟩) lWz).trans hz0, (BLu11.out.cell (p := ⟨W.heap.size, 1, none⟩) lWz).trans hz1, (BLu11.out.cell (p := ⟨W.heap.size, 2, none⟩) lWz).trans hz2, (BLu11.out.cell (p := ⟨W.heap.size, 3, none⟩) lWz).trans hz3⟩
        (try rw [← hgV])
        (try rw [← hu11])
        refine hK.out _ _ (Or.inl hHeld) ?_
        clear hK K' hgV hu11
        try simp only [Act.put, List.setIfInBounds_toArray, List.set_cons_zero, List.set_cons_succ]
        refine nxtL (i := 3) (o := _) (by kernel_rfl) rfl (fun K' hK => ?_)
        go_simp
        obtain ⟨gR, hgR⟩ : ∃ g, g = u11.heap.size := ⟨_, rfl⟩
        obtain ⟨u12, hu12⟩ : ∃ y, y = u11.alloc (.cells #[.int .i64 0] 3) := ⟨_, rfl⟩
        have SAu12 : u11.heap.size + 1 ≤ u12.heap.size := by rw [hu12]; simp
        have BLu12 : Hid (Below n0 wz u12) := by show Below _ _ _; rw [hu12]; exact BLu11.out.alloc (by omega) _
        have gegR : u11.heap.size ≤ gR := by omega
        have logR : n0 ≤ gR := by omega
        have higR : gR < u12.heap.size := by omega
        have OR : Hid (u12.ownsRow n0 3 1 (.slice (some ⟨gR, 0, none⟩) 1 1) 1 [.int .i64 0]) := by show World.ownsRow _ _ _ _ _ _ _; rw [hu12, hgR]; exact World.ownsRow_lit (e := 3) (size := 1) (base := n0) u11 #[.int .i64 0] 1 (by omega) (by unfold maxLen; omega) rfl
        have XG : Hid (u12.heap[gG]? = some (.cells #[.int .i64 k, .int .i64 a, .int .i64 b, .slice A s.length cp] 24 (0, 0))) := by show _ = _; rw [hu12]; exact Has.alloc XG.out _
        have XV : Hid (u12.heap[gV]? = some (.cells #[.bool false, .int .i64 0, .slice none 0 0] 47 (0, 0))) := by show _ = _; rw [hu12]; exact Has.alloc XV.out _
        have hHeld : (fun w' => w'.cell? ⟨W.heap.size, 0, none⟩ = some (.int .i64 k) ∧ w'.cell? ⟨W.heap.size, 1, none⟩ = some (.int .i64 a) ∧ w'.cell? ⟨W.heap.size, 2, none⟩ = some (.int .i64 b) ∧ w'.cell? ⟨W.heap.size, 3, none⟩ = some (.slice A s.length cp)) u12 := ⟨(BLu12.out.cell (p := ⟨W.heap.size, 0, none⟩) lWz).trans hz0, (BLu12.out.cell (p := ⟨W.heap.size, 1, none⟩) lWz).trans hz1, (BLu12.out.cell (p := ⟨W.heap.size, 2, none⟩) lWz).trans hz2, (BLu12.out.cell (p := ⟨W.heap.size, 3, none⟩) lWz).trans hz3⟩
        (try rw [← hgR])
        (try rw [← hu12])
        refine hK.out _ _ (Or.inl hHeld) ?_
        clear hK K' hgR hu12
        try simp only [Act.put, List.setIfInBounds_toArray, List.set_cons_zero, List.set_cons_succ]
        refine nxtL (i := 5) (o := _) (by kernel_rfl) rfl (fun K' hK => ?_)
        refine step_app _ (by rfl) (.tmp 40) (.tmp 41) 25 (by rfl) n0 3 i0 (.int .i64 0) 1 8 Tryd.underlying25 hi0 hq0 hq1 hq2 rfl (by decide) (.slice (some ⟨gR, 0, none⟩) 1 1) 1 [.int .i64 0] (by simp [Act.eval]) (by exact OR.out) _ (.slice A2 M.length c2) M.length (M.map (Value.int .i64)) (by simp [Act.eval]) (by exact (IM.out.keep (Same.of_below BLu12.out fun b h => h)).cells) (ints_one _ _) (by unfold maxLen; omega) (by omega) (by omega) ?_
        intro v6 u13 hown hgrow hat
        have SAu13 : u12.heap.size ≤ u13.heap.size := hgrow.size
        have BLu13 : Hid (Below n0 wz u13) := BLu12.out.grown hgrow (by omega) (own_ge OR.out)
        have XG : Hid (u13.heap[gG]? = some (.cells #[.int .i64 k, .int .i64 a, .int .i64 b, .slice A s.length cp] 24 (0, 0))) := (hgrow.block gG (by omega) (fun e => by simp [Value.ownBlock] at e; omega)).trans XG.out
        have XV : Hid (u13.heap[gV]? = some (.cells #[.bool false, .int .i64 0, .slice none 0 0] 47 (0, 0))) := (hgrow.block gV (by omega) (fun e => by simp [Value.ownBlock] at e; omega)).trans XV.out
        have OR := hid hown
        obtain ⟨AR, cR, rfl⟩ := own_slice3 hown
        clear hown hgrow hat
        have hHeld : (fun w' => w'.cell? ⟨W.heap.size, 0, none⟩ = some (.int .i64 k) ∧ w'.cell? ⟨W.heap.size, 1, none⟩ = some (.int .i64 a) ∧ w'.cell? ⟨W.heap.size, 2, none⟩ = some (.int .i64 b) ∧ w'.cell? ⟨W.heap.size, 3, none⟩ = some (.slice A s.length cp)) u13 := ⟨(BLu13.out.cell (p := ⟨W.heap.size, 0, none⟩) lWz).trans hz0, (BLu13.out.cell (p := ⟨W.heap.size, 1, none⟩) lWz).trans hz1, (BLu13.out.cell (p := ⟨W.heap.size, 2, none⟩) lWz).trans hz2, (BLu13.out.cell (p := ⟨W.heap.size, 3, none⟩) lWz).trans hz3⟩
        refine hK.out _ _ (Or.inl hHeld) ?_
        clear hK K'
        try simp only [Act.put, List.setIfInBounds_toArray]
        refine nxtL (i := 6) (o := _) (by kernel_rfl) rfl (fun K' hK => ?_)
        go_simp
        go_at_call 20
        refine (RC.out gG u13 AR cR logG BLu13.out XG.out OR.out).mono ?_
        rintro e u14 ⟨rl, rn, rA, rlen, rc, ev, rfl, hb, hres⟩
        have SAu14 : u13.heap.size ≤ u14.heap.size := hb.size
        have BLu14 : Hid (Below n0 wz u14) := BLu13.out.trans (hb.mono (by omega))
        have RES := hid hres
        have XV : Hid (u14.heap[gV]? = some (.cells #[.bool false, .int .i64 0, .slice none 0 0] 47 (0, 0))) := (hb.block gV (by omega)).trans XV.out
        clear hb hres
        have hHeld : (fun w' => w'.cell? ⟨W.heap.size, 0, none⟩ = some (.int .i64 k) ∧ w'.cell? ⟨W.heap.size, 1, none⟩ = some (.int .i64 a) ∧ w'.cell? ⟨W.heap.size, 2, none⟩ = some (.int .i64 b) ∧ w'.cell? ⟨W.heap.size, 3, none⟩ = some (.slice A s.length cp)) u14 := ⟨(BLu14.out.cell (p := ⟨W.heap.size, 0, none⟩) lWz).trans hz0, (BLu14.out.cell (p := ⟨W.heap.size, 1, none⟩) lWz).trans hz1, (BLu14.out.cell (p := ⟨W.heap.size, 2, none⟩) lWz).trans hz2, (BLu14.out.cell (p := ⟨W.heap.size, 3, none⟩) lWz).trans hz3⟩
        refine hK.out _ _ (Or.inl hHeld) ?_
        clear hK K'
        try simp only [Act.put, List.setIfInBounds_toArray, List.set_cons_zero, List.set_cons_succ]
        refine takeL [] (i := 7) (d := 36) (oi := _) (v := ?_) rfl rfl (by kernel_rfl) (by kernel_rfl) (by kernel_rfl) (by kernel_rfl) (by kernel_rfl) (fun _ _ _ h => h) (Or.inl ⟨by rfl, ?_⟩) (by assumption) ?_
        rotate_left
        · intro wz hSw; (try dsimp only at hSw); go_simp; (try with_reducible rfl)
        try simp only [Act.put, List.setIfInBounds_toArray, List.set_cons_zero, List.set_cons_succ]
        refine takeL [] (i := 8) (d := 44) (oi := _) (v := ?_) rfl rfl (by kernel_rfl) (by kernel_rfl) (by kernel_rfl) (by kernel_rfl) (by kernel_rfl) (fun _ _ _ h => h) (Or.inl ⟨by rfl, ?_⟩) (by assumption) ?_
        rotate_left
        · intro wz hSw; (try dsimp only at hSw); go_simp; (try with_reducible rfl)
        try simp only [Act.put, List.setIfInBounds_toArray, List.set_cons_zero, List.set_cons_succ]
        refine takeL [] (i := 9) (d := 45) (oi := _) (v := ?_) rfl rfl (by kernel_rfl) (by kernel_rfl) (by kernel_rfl) (by kernel_rfl) (by kernel_rfl) (fun _ _ _ h => h) (Or.inl ⟨by rfl, ?_⟩) (by assumption) ?_
        rotate_left
        · intro wz hSw; (try dsimp only at hSw); go_simp; (try with_reducible rfl)
        try simp only [Act.put, List.setIfInBounds_toArray, List.set_cons_zero, List.set_cons_succ]
        have c0 := Has.cell XV.out 0
        have c1 := Has.cell XV.out 1
        have c2' := Has.cell XV.out 2
        have f0 := Has.froz XV.out 0
        have f1 := Has.froz XV.out 1
        have f2 := Has.froz XV.out 2
        simp at c0 c1 c2'
        have S6 := hid (set3 XV.out (.bool rl) (.int .i64 rn) (.slice rA rlen rc))
        have hHeld : (fun w' => w'.cell? ⟨W.heap.size, 0, none⟩ = some (.int .i64 k) ∧ w'.cell? ⟨W.heap.size, 1, none⟩ = some (.int .i64 a) ∧ w'.cell? ⟨W.heap.size, 2, none⟩ = some (.int .i64 b) ∧ w'.cell? ⟨W.heap.size, 3, none⟩ = some (.slice A s.length cp)) (((u14.setCell ⟨gV, 0, none⟩ (.bool rl)).setCell ⟨gV, 1, none⟩ (.int .i64 rn)).setCell ⟨gV, 2, none⟩ (.slice rA rlen rc)) := ⟨(World.cell?_of_block (a := ⟨W.heap.size, 0, none⟩) (S6.out.2.1 W.heap.size (by omega))).trans hHeld.1, (World.cell?_of_block (a := ⟨W.heap.size, 1, none⟩) (S6.out.2.1 W.heap.size (by omega))).trans hHeld.2.1, (World.cell?_of_block (a := ⟨W.heap.size, 2, none⟩) (S6.out.2.1 W.heap.size (by omega))).trans hHeld.2.2.1, (World.cell?_of_block (a := ⟨W.heap.size, 3, none⟩) (S6.out.2.1 W.heap.size (by omega))).trans hHeld.2.2.2⟩
        refine nxtL (i := 11) (o := _) (by kernel_rfl) rfl (fun K' hK => ?_)
        go_simp
        refine hK.out _ _ (Or.inl hHeld) ?_
        clear hK K'
        try simp only [Act.put, List.setIfInBounds_toArray, List.set_cons_zero, List.set_cons_succ]
        refine nxtL (i := 12) (o := _) (by kernel_rfl) rfl (fun K' hK => ?_)
        go_simp
        refine hK.out _ _ (Or.inl hHeld) ?_
        clear hK K'
        try simp only [Act.put, List.setIfInBounds_toArray, List.set_cons_zero, List.set_cons_succ]
        refine doneL (by kernel_rfl) ?_ _
        have FC : Hid (WrapOk n0 wz gV ev r5 (((u14.setCell ⟨gV, 0, none⟩ (.bool rl)).setCell ⟨gV, 1, none⟩ (.int .i64 rn)).setCell ⟨gV, 2, none⟩ (.slice rA rlen rc))) := ⟨logV, BLu14.out.trans (S6.out.2.2.2.mono (by omega)), rl, rn, rA, rlen, rc, _, S6.out.1, fun b h => ⟨by have := h.1; omega, by rw [S6.out.2.2.1]; have := h.2; omega⟩, RES.out.keep_ (fun b h => S6.out.2.1 b (by have := h.1; omega))⟩
        clear c0 c1 c2' f0 f1 f2
        go_wp2_with fail
        go_meet
        exact ⟨gV, ev, rfl, rfl, FC⟩
    · go_simp
      obtain ⟨gR, hgR⟩ : ∃ g, g = wz.heap.size := ⟨_, rfl⟩
      obtain ⟨u15, hu15⟩ : ∃ y, y = wz.alloc (.cells #[.int .i64 0] 3) := ⟨_, rfl⟩
      have SAu15 : wz.heap.size + 1 ≤ u15.heap.size := by rw [hu15]; simp
      have BLu15 : Hid (Below n0 wz u15) := by show Below _ _ _; rw [hu15]; exact BLwz.out.alloc (by omega) _
      have gegR : wz.heap.size ≤ gR := by omega
      have logR : n0 ≤ gR := by omega
      have higR : gR < u15.heap.size := by omega
      have OR : Hid (u15.ownsRow n0 3 1 (.slice (some ⟨gR, 0, none⟩) 1 1) 1 [.int .i64 0]) := by show World.ownsRow _ _ _ _ _ _ _; rw [hu15, hgR]; exact World.ownsRow_lit (e := 3) (size := 1) (base := n0) wz #[.int .i64 0] 1 (by omega) (by unfold maxLen; omega) rfl
      have hHeld : (fun w' => w'.cell? ⟨W.heap.size, 0, none⟩ = some (.int .i64 k) ∧ w'.cell? ⟨W.heap.size, 1, none⟩ = some (.int .i64 a) ∧ w'.cell? ⟨W.heap.size, 2, none⟩ = some (.int .i64 b) ∧ w'.cell? ⟨W.heap.size, 3, none⟩ = some (.slice A s.length cp)) u15 := ⟨(BLu15.out.cell (p := ⟨W.heap.size, 0, none⟩) lWz).trans hz0, (BLu15.out.cell (p := ⟨W.heap.size, 1, none⟩) lWz).trans hz1, (BLu15.out.cell (p := ⟨W.heap.size, 2, none⟩) lWz).trans hz2, (BLu15.out.cell (p := ⟨W.heap.size, 3, none⟩) lWz).trans hz3⟩
      (try rw [← hgR])
      (try rw [← hu15])
      refine hK.out _ _ (Or.inl hHeld) ?_
      clear hK K' hgR hu15
      try simp only [Act.put, List.setIfInBounds_toArray, List.set_cons_zero, List.set_cons_succ]
      refine branch3L (i := 1) (j := 5) (l := 10) (o := _) (p := _) (q := _) (by kernel_rfl) rfl rfl rfl (fun K' hK => ?_) (fun K' hK => ?_) (fun K' hK => ?_)
      · go_simp
        obtain ⟨gG, hgG⟩ : ∃ g, g = u15.heap.size := ⟨_, rfl⟩
        obtain ⟨u16, hu16⟩ : ∃ y, y = u15.alloc (.cells #[.int .i64 k, .int .i64 a, .int .i64 b, .slice A s.length cp] 24) := ⟨_, rfl⟩
        have SAu16 : u15.heap.size + 1 ≤ u16.heap.size := by rw [hu16]; simp
        have BLu16 : Hid (Below n0 wz u16) := by show Below _ _ _; rw [hu16]; exact BLu15.out.alloc (by omega) _
        have gegG : u15.heap.size ≤ gG := by omega
        have logG : n0 ≤ gG := by omega
        have higG : gG < u16.heap.size := by omega
        have XG : Hid (u16.heap[gG]? = some (.cells #[.int .i64 k, .int .i64 a, .int .i64 b, .slice A s.length cp] 24 (0, 0))) := by show _ = _; rw [hu16, hgG]; exact Has.new _ _
        have OR : Hid (u16.ownsRow n0 3 1 (.slice (some ⟨gR, 0, none⟩) 1 1) 1 [.int .i64 0]) := by show World.ownsRow _ _ _ _ _ _ _; rw [hu16]; exact OR.out.alloc _
        have hHeld : (fun w' => w'.cell? ⟨W.heap.size, 0, none⟩ = some (.int .i64 k) ∧ w'.cell? ⟨W.heap.size, 1, none⟩ = some (.int .i64 a) ∧ w'.cell? ⟨W.heap.size, 2, none⟩ = some (.int .i64 b) ∧ w'.cell? ⟨W.heap.size, 3, none⟩ = some (.slice A s.length cp)) u16 := ⟨(BLu16.out.cell (p := ⟨W.heap.size, 0, none⟩) lWz).trans hz0, (BLu16.out.cell (p := ⟨W.heap.size, 1, none⟩) lWz).trans hz1, (BLu16.out.cell (p := ⟨W.heap.size, 2, none⟩) lWz).trans hz2, (BLu16.out.cell (p := ⟨W.heap.size, 3, none⟩) lWz).trans hz3⟩
        (try rw [← hgG])
        (try rw [← hu16])
        refine hK.out _ _ (Or.inl hHeld) ?_
        clear hK K' hgG hu16
        try simp only [Act.put, List.setIfInBounds_toArray, List.set_cons_zero, List.set_cons_succ]
        refine takeL [] (i := 2) (d := 39) (oi := _) (v := ?_) rfl rfl (by kernel_rfl) (by kernel_rfl) (by kernel_rfl) (by kernel_rfl) (by kernel_rfl) (fun _ _ _ h => h) (Or.inl ⟨by rfl, ?_⟩) (by assumption) ?_
        rotate_left
        · intro wz hSw; (try dsimp only at hSw); go_simp; (try with_reducible rfl)
        try simp only [Act.put, List.setIfInBounds_toArray, List.set_cons_zero, List.set_cons_succ]
        refine branchL (i := 5) (j := 10) (o := _) (p := _) (by kernel_rfl) rfl rfl (fun K' hK => ?_) (fun K' hK => ?_)
        · refine step_app _ (by rfl) (.tmp 40) (.tmp 41) 25 (by rfl) n0 3 i0 (.int .i64 0) 1 8 Tryd.underlying25 hi0 hq0 hq1 hq2 rfl (by decide) (.slice (some ⟨gR, 0, none⟩) 1 1) 1 [.int .i64 0] (by simp [Act.eval]) (by exact OR.out) _ (.slice A2 M.length c2) M.length (M.map (Value.int .i64)) (by simp [Act.eval]) (by exact (IM.out.keep (Same.of_below BLu16.out fun b h => h)).cells) (ints_one _ _) (by unfold maxLen; omega) (by omega) (by omega) ?_
          intro v6 u17 hown hgrow hat
          have SAu17 : u16.heap.size ≤ u17.heap.size := hgrow.size
          have BLu17 : Hid (Below n0 wz u17) := BLu16.out.grown hgrow (by omega) (own_ge OR.out)
          have XG : Hid (u17.heap[gG]? = some (.cells #[.int .i64 k, .int .i64 a, .int .i64 b, .slice A s.length cp] 24 (0, 0))) := (hgrow.block gG (by omega) (fun e => by simp [Value.ownBlock] at e; omega)).trans XG.out
          have OR := hid hown
          obtain ⟨AR, cR, rfl⟩ := own_slice3 hown
          clear hown hgrow hat
          have hHeld : (fun w' => w'.cell? ⟨W.heap.size, 0, none⟩ = some (.int .i64 k) ∧ w'.cell? ⟨W.heap.size, 1, none⟩ = some (.int .i64 a) ∧ w'.cell? ⟨W.heap.size, 2, none⟩ = some (.int .i64 b) ∧ w'.cell? ⟨W.heap.size, 3, none⟩ = some (.slice A s.length cp)) u17 := ⟨(BLu17.out.cell (p := ⟨W.heap.size, 0, none⟩) lWz).trans hz0, (BLu17.out.cell (p := ⟨W.heap.size, 1, none⟩) lWz).trans hz1, (BLu17.out.cell (p := ⟨W.heap.size, 2, none⟩) lWz).trans hz2, (BLu17.out.cell (p := ⟨W.heap.size, 3, none⟩) lWz).trans hz3⟩
          refine hK.out _ _ (Or.inl hHeld) ?_
          clear hK K'
          try simp only [Act.put, List.setIfInBounds_toArray]
          refine branchL (i := 6) (j := 10) (o := _) (p := _) (by kernel_rfl) rfl rfl (fun K' hK => ?_) (fun K' hK => ?_)
          · go_simp
            go_at_call 20
            refine (RC.out gG u17 AR cR logG BLu17.out XG.out OR.out).mono ?_
            rintro e u18 ⟨rl, rn, rA, rlen, rc, ev, rfl, hb, hres⟩
            have SAu18 : u17.heap.size ≤ u18.heap.size := hb.size
            have BLu18 : Hid (Below n0 wz u18) := BLu17.out.trans (hb.mono (by omega))
            have RES := hid hres
            clear hb hres
            have hHeld : (fun w' => w'.cell? ⟨W.heap.size, 0, none⟩ = some (.int .i64 k) ∧ w'.cell? ⟨W.heap.size, 1, none⟩ = some (.int .i64 a) ∧ w'.cell? ⟨W.heap.size, 2, none⟩ = some (.int .i64 b) ∧ w'.cell? ⟨W.heap.size, 3, none⟩ = some (.slice A s.length cp)) u18 := ⟨(BLu18.out.cell (p := ⟨W.heap.size, 0, none⟩) lWz).trans hz0, (BLu18.out.cell (p := ⟨W.heap.size, 1, none⟩) lWz).trans hz1, (BLu18.out.cell (p := ⟨W.heap.size, 2, none⟩) lWz).trans hz2, (BLu18.out.cell (p := ⟨W.heap.size, 3, none⟩) lWz).trans hz3⟩
            refine hK.out _ _ (Or.inl hHeld) ?_
            clear hK K'
            try simp only [Act.put, List.setIfInBounds_toArray, List.set_cons_zero, List.set_cons_succ]
            refine takeL [] (i := 7) (d := 36) (oi := _) (v := ?_) rfl rfl (by kernel_rfl) (by kernel_rfl) (by kernel_rfl) (by kernel_rfl) (by kernel_rfl) (fun _ _ _ h => h) (Or.inl ⟨by rfl, ?_⟩) (by assumption) ?_
            rotate_left
            · intro wz hSw; (try dsimp only at hSw); go_simp; (try with_reducible rfl)
            try simp only [Act.put, List.setIfInBounds_toArray, List.set_cons_zero, List.set_cons_succ]
            refine takeL [] (i := 8) (d := 44) (oi := _) (v := ?_) rfl rfl (by kernel_rfl) (by kernel_rfl) (by kernel_rfl) (by kernel_rfl) (by kernel_rfl) (fun _ _ _ h => h) (Or.inl ⟨by rfl, ?_⟩) (by assumption) ?_
            rotate_left
            · intro wz hSw; (try dsimp only at hSw); go_simp; (try with_reducible rfl)
            try simp only [Act.put, List.setIfInBounds_toArray, List.set_cons_zero, List.set_cons_succ]
            refine takeL [] (i := 9) (d := 45) (oi := _) (v := ?_) rfl rfl (by kernel_rfl) (by kernel_rfl) (by kernel_rfl) (by kernel_rfl) (by kernel_rfl) (fun _ _ _ h => h) (Or.inl ⟨by rfl, ?_⟩) (by assumption) ?_
            rotate_left
            · intro wz hSw; (try dsimp only at hSw); go_simp; (try with_reducible rfl)
            try simp only [Act.put, List.setIfInBounds_toArray, List.set_cons_zero, List.set_cons_succ]
            refine nxtL (i := 10) (o := _) (by kernel_rfl) rfl (fun K' hK => ?_)
            go_simp
            obtain ⟨gV, hgV⟩ : ∃ g, g = u18.heap.size := ⟨_, rfl⟩
            obtain ⟨u19, hu19⟩ : ∃ y, y = u18.alloc (.cells #[.bool false, .int .i64 0, .slice none 0 0] 47) := ⟨_, rfl⟩
            have SAu19 : u18.heap.size + 1 ≤ u19.heap.size := by rw [hu19]; simp
            have BLu19 : Hid (Below n0 wz u19) := by show Below _ _ _; rw [hu19]; exact BLu18.out.alloc (by omega) _
            have gegV : u18.heap.size ≤ gV := by omega
            have logV : n0 ≤ gV := by omega
            have VK : Hid (∀ b, b < u18.heap.size → u19.heap[b]? = u18.heap[b]?) := by show ∀ b, _ → _; intro b h; rw [hu19]; exact Below.heap_alloc _ _ _ h
            have higV : gV < u19.heap.size := by omega
            have XV : Hid (u19.heap[gV]? = some (.cells #[.bool false, .int .i64 0, .slice none 0 0] 47 (0, 0))) := by show _ = _; rw [hu19, hgV]; exact Has.new _ _
            have hHeld : (fun w' => w'.cell? ⟨W.heap.size, 0, none⟩ = some (.int .i64 k) ∧ w'.cell? ⟨W.heap.size, 1, none⟩ = some (.int .i64 a) ∧ w'.cell? ⟨W.heap.size, 2, none⟩ = some (.int .i64 b) ∧ w'.cell? ⟨W.heap.size, 3, none⟩ = some (.slice A s.length cp)) u19 := ⟨(BLu19.out.cell (p := ⟨W.heap.size, 0, none⟩) lWz).trans hz0, (BLu19.out.cell (p := ⟨W.heap.size, 1, none⟩) lWz).trans hz1, (BLu19.out.cell (p := ⟨W.heap.size, 2, none⟩) lWz).trans hz2, (BLu19.out.cell (p := ⟨W.heap.size, 3, none⟩) lWz).trans hz3⟩
            (try rw [← hgV])
            (try rw [← hu19])
            refine hK.out _ _ (Or.inl hHeld) ?_
            clear hK K' hgV hu19
            try simp only [Act.put, List.setIfInBounds_toArray, List.set_cons_zero, List.set_cons_succ]
            have c0 := Has.cell XV.out 0
            have c1 := Has.cell XV.out 1
            have c2' := Has.cell XV.out 2
            have f0 := Has.froz XV.out 0
            have f1 := Has.froz XV.out 1
            have f2 := Has.froz XV.out 2
            simp at c0 c1 c2'
            have S6 := hid (set3 XV.out (.bool rl) (.int .i64 rn) (.slice rA rlen rc))
            have hHeld : (fun w' => w'.cell? ⟨W.heap.size, 0, none⟩ = some (.int .i64 k) ∧ w'.cell? ⟨W.heap.size, 1, none⟩ = some (.int .i64 a) ∧ w'.cell? ⟨W.heap.size, 2, none⟩ = some (.int .i64 b) ∧ w'.cell? ⟨W.heap.size, 3, none⟩ = some (.slice A s.length cp)) (((u19.setCell ⟨gV, 0, none⟩ (.bool rl)).setCell ⟨gV, 1, none⟩ (.int .i64 rn)).setCell ⟨gV, 2, none⟩ (.slice rA rlen rc)) := ⟨(World.cell?_of_block (a := ⟨W.heap.size, 0, none⟩) (S6.out.2.1 W.heap.size (by omega))).trans hHeld.1, (World.cell?_of_block (a := ⟨W.heap.size, 1, none⟩) (S6.out.2.1 W.heap.size (by omega))).trans hHeld.2.1, (World.cell?_of_block (a := ⟨W.heap.size, 2, none⟩) (S6.out.2.1 W.heap.size (by omega))).trans hHeld.2.2.1, (World.cell?_of_block (a := ⟨W.heap.size, 3, none⟩) (S6.out.2.1 W.heap.size (by omega))).trans hHeld.2.2.2⟩
            refine nxtL (i := 11) (o := _) (by kernel_rfl) rfl (fun K' hK => ?_)
            go_simp
            refine hK.out _ _ (Or.inl hHeld) ?_
            clear hK K'
            try simp only [Act.put, List.setIfInBounds_toArray, List.set_cons_zero, List.set_cons_succ]
            refine nxtL (i := 12) (o := _) (by kernel_rfl) rfl (fun K' hK => ?_)
            go_simp
            refine hK.out _ _ (Or.inl hHeld) ?_
            clear hK K'
            try simp only [Act.put, List.setIfInBounds_toArray, List.set_cons_zero, List.set_cons_succ]
            refine doneL (by kernel_rfl) ?_ _
            have FC : Hid (WrapOk n0 wz gV ev r5 (((u19.setCell ⟨gV, 0, none⟩ (.bool rl)).setCell ⟨gV, 1, none⟩ (.int .i64 rn)).setCell ⟨gV, 2, none⟩ (.slice rA rlen rc))) := ⟨logV, BLu19.out.trans (S6.out.2.2.2.mono (by omega)), rl, rn, rA, rlen, rc, _, S6.out.1, fun b h => ⟨by have := h.1; omega, by rw [S6.out.2.2.1]; have := h.2; omega⟩, RES.out.keep_ (fun b h => (S6.out.2.1 b (by have := h.2; omega)).trans (VK.out b h.2))⟩
            clear c0 c1 c2' f0 f1 f2
            go_wp2_with fail
            go_meet
            exact ⟨gV, ev, rfl, rfl, FC⟩
          · go_simp
            obtain ⟨gV, hgV⟩ : ∃ g, g = u17.heap.size := ⟨_, rfl⟩
            obtain ⟨u20, hu20⟩ : ∃ y, y = u17.alloc (.cells #[.bool false, .int .i64 0, .slice none 0 0] 47) := ⟨_, rfl⟩
            have SAu20 : u17.heap.size + 1 ≤ u20.heap.size := by rw [hu20]; simp
            have BLu20 : Hid (Below n0 wz u20) := by show Below _ _ _; rw [hu20]; exact BLu17.out.alloc (by omega) _
            have gegV : u17.heap.size ≤ gV := by omega
            have logV : n0 ≤ gV := by omega
            have higV : gV < u20.heap.size := by omega
            have XV : Hid (u20.heap[gV]? = some (.cells #[.bool false, .int .i64 0, .slice none 0 0] 47 (0, 0))) := by show _ = _; rw [hu20, hgV]; exact Has.new _ _
            have XG : Hid (u20.heap[gG]? = some (.cells #[.int .i64 k, .int .i64 a, .int .i64 b, .slice A s.length cp] 24 (0, 0))) := by show _ = _; rw [hu20]; exact Has.alloc XG.out _
            have OR : Hid (u20.ownsRow n0 3 1 (.slice AR (1 + M.length) cR) (1 + M.length) ([.int .i64 0] ++ M.map (Value.int .i64))) := by show World.ownsRow _ _ _ _ _ _ _; rw [hu20]; exact OR.out.alloc _
            have hHeld : (fun w' => w'.cell? ⟨W.heap.size, 0, none⟩ = some (.int .i64 k) ∧ w'.cell? ⟨W.heap.size, 1, none⟩ = some (.int .i64 a) ∧ w'.cell? ⟨W.heap.size, 2, none⟩ = some (.int .i64 b) ∧ w'.cell? ⟨W.heap.size, 3, none⟩ = some (.slice A s.length cp)) u20 := ⟨(BLu20.out.cell (p := ⟨W.heap.size, 0, none⟩) lWz).trans hz0, (BLu20.out.cell (p := ⟨W.heap.size, 1, none⟩) lWz).trans hz1, (BLu20.out.cell (p := ⟨W.heap.size, 2, none⟩) lWz).trans hz2, (BLu20.out.cell (p := ⟨W.heap.size, 3, none⟩) lWz).trans hz3⟩
            (try rw [← hgV])
            (try rw [← hu20])
            refine hK.out _ _ (Or.inl hHeld) ?_
            clear hK K' hgV hu20
            try simp only [Act.put, List.setIfInBounds_toArray, List.set_cons_zero, List.set_cons_succ]
            refine nxtL (i := 6) (o := _) (by kernel_rfl) rfl (fun K' hK => ?_)
            go_simp
            go_at_call 20
            refine (RC.out gG u20 AR cR logG BLu20.out XG.out OR.out).mono ?_
            rintro e u21 ⟨rl, rn, rA, rlen, rc, ev, rfl, hb, hres⟩
            have SAu21 : u20.heap.size ≤ u21.heap.size := hb.size
            have BLu21 : Hid (Below n0 wz u21) := BLu20.out.trans (hb.mono (by omega))
            have RES := hid hres
            have XV : Hid (u21.heap[gV]? = some (.cells #[.bool false, .int .i64 0, .slice none 0 0] 47 (0, 0))) := (hb.block gV (by omega)).trans XV.out
            clear hb hres
            have hHeld : (fun w' => w'.cell? ⟨W.heap.size, 0, none⟩ = some (.int .i64 k) ∧ w'.cell? ⟨W.heap.size, 1, none⟩ = some (.int .i64 a) ∧ w'.cell? ⟨W.heap.size, 2, none⟩ = some (.int .i64 b) ∧ w'.cell? ⟨W.heap.size, 3, none⟩ = some (.slice A s.length cp)) u21 := ⟨(BLu21.out.cell (p := ⟨W.heap.size, 0, none⟩) lWz).trans hz0, (BLu21.out.cell (p := ⟨W.heap.size, 1, none⟩) lWz).trans hz1, (BLu21.out.cell (p := ⟨W.heap.size, 2, none⟩) lWz).trans hz2, (BLu21.out.cell (p := ⟨W.heap.size, 3, none⟩) lWz).trans hz3⟩
            refine hK.out _ _ (Or.inl hHeld) ?_
            clear hK K'
            try simp only [Act.put, List.setIfInBounds_toArray, List.set_cons_zero, List.set_cons_succ]
            refine takeL [] (i := 7) (d := 36) (oi := _) (v := ?_) rfl rfl (by kernel_rfl) (by kernel_rfl) (by kernel_rfl) (by kernel_rfl) (by kernel_rfl) (fun _ _ _ h => h) (Or.inl ⟨by rfl, ?_⟩) (by assumption) ?_
            rotate_left
            · intro wz hSw; (try dsimp only at hSw); go_simp; (try with_reducible rfl)
            try simp only [Act.put, List.setIfInBounds_toArray, List.set_cons_zero, List.set_cons_succ]
            refine takeL [] (i := 8) (d := 44) (oi := _) (v := ?_) rfl rfl (by kernel_rfl) (by kernel_rfl) (by kernel_rfl) (by kernel_rfl) (by kernel_rfl) (fun _ _ _ h => h) (Or.inl ⟨by rfl, ?_⟩) (by assumption) ?_
            rotate_left
            · intro wz hSw; (try dsimp only at hSw); go_simp; (try with_reducible rfl)
            try simp only [Act.put, List.setIfInBounds_toArray, List.set_cons_zero, List.set_cons_succ]
            refine takeL [] (i := 9) (d := 45) (oi := _) (v := ?_) rfl rfl (by kernel_rfl) (by kernel_rfl) (by kernel_rfl) (by kernel_rfl) (by kernel_rfl) (fun _ _ _ h => h) (Or.inl ⟨by rfl, ?_⟩) (by assumption) ?_
            rotate_left
            · intro wz hSw; (try dsimp only at hSw); go_simp; (try with_reducible rfl)
            try simp only [Act.put, List.setIfInBounds_toArray, List.set_cons_zero, List.set_cons_succ]
            have c0 := Has.cell XV.out 0
            have c1 := Has.cell XV.out 1
            have c2' := Has.cell XV.out 2
            have f0 := Has.froz XV.out 0
            have f1 := Has.froz XV.out 1
            have f2 := Has.froz XV.out 2
            simp at c0 c1 c2'
            have S6 := hid (set3 XV.out (.bool rl) (.int .i64 rn) (.slice rA rlen rc))
            have hHeld : (fun w' => w'.cell? ⟨W.heap.size, 0, none⟩ = some (.int .i64 k) ∧ w'.cell? ⟨W.heap.size, 1, none⟩ = some (.int .i64 a) ∧ w'.cell? ⟨W.heap.size, 2, none⟩ = some (.int .i64 b) ∧ w'.cell? ⟨W.heap.size, 3, none⟩ = some (.slice A s.length cp)) (((u21.setCell ⟨gV, 0, none⟩ (.bool rl)).setCell ⟨gV, 1, none⟩ (.int .i64 rn)).setCell ⟨gV, 2, none⟩ (.slice rA rlen rc)) := ⟨(World.cell?_of_block (a := ⟨W.heap.size, 0, none⟩) (S6.out.2.1 W.heap.size (by omega))).trans hHeld.1, (World.cell?_of_block (a := ⟨W.heap.size, 1, none⟩) (S6.out.2.1 W.heap.size (by omega))).trans hHeld.2.1, (World.cell?_of_block (a := ⟨W.heap.size, 2, none⟩) (S6.out.2.1 W.heap.size (by omega))).trans hHeld.2.2.1, (World.cell?_of_block (a := ⟨W.heap.size, 3, none⟩) (S6.out.2.1 W.heap.size (by omega))).trans hHeld.2.2.2⟩
            refine nxtL (i := 11) (o := _) (by kernel_rfl) rfl (fun K' hK => ?_)
            go_simp
            refine hK.out _ _ (Or.inl hHeld) ?_
            clear hK K'
            try simp only [Act.put, List.setIfInBounds_toArray, List.set_cons_zero, List.set_cons_succ]
            refine nxtL (i := 12) (o := _) (by kernel_rfl) rfl (fun K' hK => ?_)
            go_simp
            refine hK.out _ _ (Or.inl hHeld) ?_
            clear hK K'
            try simp only [Act.put, List.setIfInBounds_toArray, List.set_cons_zero, List.set_cons_succ]
            refine doneL (by kernel_rfl) ?_ _
            have FC : Hid (WrapOk n0 wz gV ev r5 (((u21.setCell ⟨gV, 0, none⟩ (.bool rl)).setCell ⟨gV, 1, none⟩ (.int .i64 rn)).setCell ⟨gV, 2, none⟩ (.slice rA rlen rc))) := ⟨logV, BLu21.out.trans (S6.out.2.2.2.mono (by omega)), rl, rn, rA, rlen, rc, _, S6.out.1, fun b h => ⟨by have := h.1; omega, by rw [S6.out.2.2.1]; have := h.2; omega⟩, RES.out.keep_ (fun b h => S6.out.2.1 b (by have := h.1; omega))⟩
            clear c0 c1 c2' f0 f1 f2
            go_wp2_with fail
            go_meet
            exact ⟨gV, ev, rfl, rfl, FC⟩
        · go_simp
          obtain ⟨gV, hgV⟩ : ∃ g, g = u16.heap.size := ⟨_, rfl⟩
          obtain ⟨u22, hu22⟩ : ∃ y, y = u16.alloc (.cells #[.bool false, .int .i64 0, .slice none 0 0] 47) := ⟨_, rfl⟩
          have SAu22 : u16.heap.size + 1 ≤ u22.heap.size := by rw [hu22]; simp
          have BLu22 : Hid (Below n0 wz u22) := by show Below _ _ _; rw [hu22]; exact BLu16.out.alloc (by omega) _
          have gegV : u16.heap.size ≤ gV := by omega
          have logV : n0 ≤ gV := by omega
          have higV : gV < u22.heap.size := by omega
          have XV : Hid (u22.heap[gV]? = some (.cells #[.bool false, .int .i64 0, .slice none 0 0] 47 (0, 0))) := by show _ = _; rw [hu22, hgV]; exact Has.new _ _
          have XG : Hid (u22.heap[gG]? = some (.cells #[.int .i64 k, .int .i64 a, .int .i64 b, .slice A s.length cp] 24 (0, 0))) := by show _ = _; rw [hu22]; exact Has.alloc XG.out _
          have OR : Hid (u22.ownsRow n0 3 1 (.slice (some ⟨gR, 0, none⟩) 1 1) 1 [.int .i64 0]) := by show World.ownsRow _ _ _ _ _ _ _; rw [hu22]; exact OR.out.alloc _
          have hHeld : (fun w' => w'.cell? ⟨W.heap.size, 0, none⟩ = some (.int .i64 k) ∧ w'.cell? ⟨W.heap.size, 1, none⟩ = some (.int .i64 a) ∧ w'.cell? ⟨W.heap.size, 2, none⟩ = some (.int .i64 b) ∧ w'.cell? ⟨W.heap.size, 3, none⟩ = some (.slice A s.length cp)) u22 := ⟨(BLu22.out.cell (p := ⟨W.heap.size, 0, none⟩) lWz).trans hz0, (BLu22.out.cell (p := ⟨W.heap.size, 1, none⟩) lWz).trans hz1, (BLu22.out.cell (p := ⟨W.heap.size, 2, none⟩) lWz).trans hz2, (BLu22.out.cell (p := ⟨W.heap.size, 3, none⟩) lWz).trans hz3⟩
          (try rw [← hgV])
          (try rw [← hu22])
          refine hK.out _ _ (Or.inl hHeld) ?_
          clear hK K' hgV hu22
          try simp only [Act.put, List.setIfInBounds_toArray, List.set_cons_zero, List.set_cons_succ]
          refine nxtL (i := 5) (o := _) (by kernel_rfl) rfl (fun K' hK => ?_)
          refine step_app _ (by rfl) (.tmp 40) (.tmp 41) 25 (by rfl) n0 3 i0 (.int .i64 0) 1 8 Tryd.underlying25 hi0 hq0 hq1 hq2 rfl (by decide) (.slice (some ⟨gR, 0, none⟩) 1 1) 1 [.int .i64 0] (by simp [Act.eval]) (by exact OR.out) _ (.slice A2 M.length c2) M.length (M.map (Value.int .i64)) (by simp [Act.eval]) (by exact (IM.out.keep (Same.of_below BLu22.out fun b h => h)).cells) (ints_one _ _) (by unfold maxLen; omega) (by omega) (by omega) ?_
          intro v6 u23 hown hgrow hat
          have SAu23 : u22.heap.size ≤ u23.heap.size := hgrow.size
          have BLu23 : Hid (Below n0 wz u23) := BLu22.out.grown hgrow (by omega) (own_ge OR.out)
          have XG : Hid (u23.heap[gG]? = some (.cells #[.int .i64 k, .int .i64 a, .int .i64 b, .slice A s.length cp] 24 (0, 0))) := (hgrow.block gG (by omega) (fun e => by simp [Value.ownBlock] at e; omega)).trans XG.out
          have XV : Hid (u23.heap[gV]? = some (.cells #[.bool false, .int .i64 0, .slice none 0 0] 47 (0, 0))) := (hgrow.block gV (by omega) (fun e => by simp [Value.ownBlock] at e; omega)).trans XV.out
          have OR := hid hown
          obtain ⟨AR, cR, rfl⟩ := own_slice3 hown
          clear hown hgrow hat
          have hHeld : (fun w' => w'.cell? ⟨W.heap.size, 0, none⟩ = some (.int .i64 k) ∧ w'.cell? ⟨W.heap.size, 1, none⟩ = some (.int .i64 a) ∧ w'.cell? ⟨W.heap.size, 2, none⟩ = some (.int .i64 b) ∧ w'.cell? ⟨W.heap.size, 3, none⟩ = some (.slice A s.length cp)) u23 := ⟨(BLu23.out.cell (p := ⟨W.heap.size, 0, none⟩) lWz).trans hz0, (BLu23.out.cell (p := ⟨W.heap.size, 1, none⟩) lWz).trans hz1, (BLu23.out.cell (p := ⟨W.heap.size, 2, none⟩) lWz).trans hz2, (BLu23.out.cell (p := ⟨W.heap.size, 3, none⟩) lWz).trans hz3⟩
          refine hK.out _ _ (Or.inl hHeld) ?_
          clear hK K'
          try simp only [Act.put, List.setIfInBounds_toArray]
          refine nxtL (i := 6) (o := _) (by kernel_rfl) rfl (fun K' hK => ?_)
          go_simp
          go_at_call 20
          refine (RC.out gG u23 AR cR logG BLu23.out XG.out OR.out).mono ?_
          rintro e u24 ⟨rl, rn, rA, rlen, rc, ev, rfl, hb, hres⟩
          have SAu24 : u23.heap.size ≤ u24.heap.size := hb.size
          have BLu24 : Hid (Below n0 wz u24) := BLu23.out.trans (hb.mono (by omega))
          have RES := hid hres
          have XV : Hid (u24.heap[gV]? = some (.cells #[.bool false, .int .i64 0, .slice none 0 0] 47 (0, 0))) := (hb.block gV (by omega)).trans XV.out
          clear hb hres
          have hHeld : (fun w' => w'.cell? ⟨W.heap.size, 0, none⟩ = some (.int .i64 k) ∧ w'.cell? ⟨W.heap.size, 1, none⟩ = some (.int .i64 a) ∧ w'.cell? ⟨W.heap.size, 2, none⟩ = some (.int .i64 b) ∧ w'.cell? ⟨W.heap.size, 3, none⟩ = some (.slice A s.length cp)) u24 := ⟨(BLu24.out.cell (p := ⟨W.heap.size, 0, none⟩) lWz).trans hz0, (BLu24.out.cell (p := ⟨W.heap.size, 1, none⟩) lWz).trans hz1, (BLu24.out.cell (p := ⟨W.heap.size, 2, none⟩) lWz).trans hz2, (BLu24.out.cell (p := ⟨W.heap.size, 3, none⟩) lWz).trans hz3⟩
          refine hK.out _ _ (Or.inl hHeld) ?_
          clear hK K'
          try simp only [Act.put, List.setIfInBounds_toArray, List.set_cons_zero, List.set_cons_succ]
          refine takeL [] (i := 7) (d := 36) (oi := _) (v := ?_) rfl rfl (by kernel_rfl) (by kernel_rfl) (by kernel_rfl) (by kernel_rfl) (by kernel_rfl) (fun _ _ _ h => h) (Or.inl ⟨by rfl, ?_⟩) (by assumption) ?_
          rotate_left
          · intro wz hSw; (try dsimp only at hSw); go_simp; (try with_reducible rfl)
          try simp only [Act.put, List.setIfInBounds_toArray, List.set_cons_zero, List.set_cons_succ]
          refine takeL [] (i := 8) (d := 44) (oi := _) (v := ?_) rfl rfl (by kernel_rfl) (by kernel_rfl) (by kernel_rfl) (by kernel_rfl) (by kernel_rfl) (fun _ _ _ h => h) (Or.inl ⟨by rfl, ?_⟩) (by assumption) ?_
          rotate_left
          · intro wz hSw; (try dsimp only at hSw); go_simp; (try with_reducible rfl)
          try simp only [Act.put, List.setIfInBounds_toArray, List.set_cons_zero, List.set_cons_succ]
          refine takeL [] (i := 9) (d := 45) (oi := _) (v := ?_) rfl rfl (by kernel_rfl) (by kernel_rfl) (by kernel_rfl) (by kernel_rfl) (by kernel_rfl) (fun _ _ _ h => h) (Or.inl ⟨by rfl, ?_⟩) (by assumption) ?_
          rotate_left
          · intro wz hSw; (try dsimp only at hSw); go_simp; (try with_reducible rfl)
          try simp only [Act.put, List.setIfInBounds_toArray, List.set_cons_zero, List.set_cons_succ]
          have c0 := Has.cell XV.out 0
          have c1 := Has.cell XV.out 1
          have c2' := Has.cell XV.out 2
          have f0 := Has.froz XV.out 0
          have f1 := Has.froz XV.out 1
          have f2 := Has.froz XV.out 2
          simp at c0 c1 c2'
          have S6 := hid (set3 XV.out (.bool rl) (.int .i64 rn) (.slice rA rlen rc))
          have hHeld : (fun w' => w'.cell? ⟨W.heap.size, 0, none⟩ = some (.int .i64 k) ∧ w'.cell? ⟨W.heap.size, 1, none⟩ = some (.int .i64 a) ∧ w'.cell? ⟨W.heap.size, 2, none⟩ = some (.int .i64 b) ∧ w'.cell? ⟨W.heap.size, 3, none⟩ = some (.slice A s.length cp)) (((u24.setCell ⟨gV, 0, none⟩ (.bool rl)).setCell ⟨gV, 1, none⟩ (.int .i64 rn)).setCell ⟨gV, 2, none⟩ (.slice rA rlen rc)) := ⟨(World.cell?_of_block (a := ⟨W.heap.size, 0, none⟩) (S6.out.2.1 W.heap.size (by omega))).trans hHeld.1, (World.cell?_of_block (a := ⟨W.heap.size, 1, none⟩) (S6.out.2.1 W.heap.size (by omega))).trans hHeld.2.1, (World.cell?_of_block (a := ⟨W.heap.size, 2, none⟩) (S6.out.2.1 W.heap.size (by omega))).trans hHeld.2.2.1, (World.cell?_of_block (a := ⟨W.heap.size, 3, none⟩) (S6.out.2.1 W.heap.size (by omega))).trans hHeld.2.2.2⟩
          refine nxtL (i := 11) (o := _) (by kernel_rfl) rfl (fun K' hK => ?_)
          go_simp
          refine hK.out _ _ (Or.inl hHeld) ?_
          clear hK K'
          try simp only [Act.put, List.setIfInBounds_toArray, List.set_cons_zero, List.set_cons_succ]
          refine nxtL (i := 12) (o := _) (by kernel_rfl) rfl (fun K' hK => ?_)
          go_simp
          refine hK.out _ _ (Or.inl hHeld) ?_
          clear hK K'
          try simp only [Act.put, List.setIfInBounds_toArray, List.set_cons_zero, List.set_cons_succ]
          refine doneL (by kernel_rfl) ?_ _
          have FC : Hid (WrapOk n0 wz gV ev r5 (((u24.setCell ⟨gV, 0, none⟩ (.bool rl)).setCell ⟨gV, 1, none⟩ (.int .i64 rn)).setCell ⟨gV, 2, none⟩ (.slice rA rlen rc))) := ⟨logV, BLu24.out.trans (S6.out.2.2.2.mono (by omega)), rl, rn, rA, rlen, rc, _, S6.out.1, fun b h => ⟨by have := h.1; omega, by rw [S6.out.2.2.1]; have := h.2; omega⟩, RES.out.keep_ (fun b h => S6.out.2.1 b (by have := h.1; omega))⟩
          clear c0 c1 c2' f0 f1 f2
          go_wp2_with fail
          go_meet
          exact ⟨gV, ev, rfl, rfl, FC⟩
      · refine step_app _ (by rfl) (.tmp 40) (.tmp 41) 25 (by rfl) n0 3 i0 (.int .i64 0) 1 8 Tryd.underlying25 hi0 hq0 hq1 hq2 rfl (by decide) (.slice (some ⟨gR, 0, none⟩) 1 1) 1 [.int .i64 0] (by simp [Act.eval]) (by exact OR.out) _ (.slice A2 M.length c2) M.length (M.map (Value.int .i64)) (by simp [Act.eval]) (by exact (IM.out.keep (Same.of_below BLu15.out fun b h => h)).cells) (ints_one _ _) (by unfold maxLen; omega) (by omega) (by omega) ?_
        intro v6 u25 hown hgrow hat
        have SAu25 : u15.heap.size ≤ u25.heap.size := hgrow.size
        have BLu25 : Hid (Below n0 wz u25) := BLu15.out.grown hgrow (by omega) (own_ge OR.out)
        have OR := hid hown
        obtain ⟨AR, cR, rfl⟩ := own_slice3 hown
        clear hown hgrow hat
        have hHeld : (fun w' => w'.cell? ⟨W.heap.size, 0, none⟩ = some (.int .i64 k) ∧ w'.cell? ⟨W.heap.size, 1, none⟩ = some (.int .i64 a) ∧ w'.cell? ⟨W.heap.size, 2, none⟩ = some (.int .i64 b) ∧ w'.cell? ⟨W.heap.size, 3, none⟩ = some (.slice A s.length cp)) u25 := ⟨(BLu25.out.cell (p := ⟨W.heap.size, 0, none⟩) lWz).trans hz0, (BLu25.out.cell (p := ⟨W.heap.size, 1, none⟩) lWz).trans hz1, (BLu25.out.cell (p := ⟨W.heap.size, 2, none⟩) lWz).trans hz2, (BLu25.out.cell (p := ⟨W.heap.size, 3, none⟩) lWz).trans hz3⟩
        refine hK.out _ _ (Or.inl hHeld) ?_
        clear hK K'
        try simp only [Act.put, List.setIfInBounds_toArray]
        refine branchL (i := 1) (j := 10) (o := _) (p := _) (by kernel_rfl) rfl rfl (fun K' hK => ?_) (fun K' hK => ?_)
        · go_simp
          obtain ⟨gG, hgG⟩ : ∃ g, g = u25.heap.size := ⟨_, rfl⟩
          obtain ⟨u26, hu26⟩ : ∃ y, y = u25.alloc (.cells #[.int .i64 k, .int .i64 a, .int .i64 b, .slice A s.length cp] 24) := ⟨_, rfl⟩
          have SAu26 : u25.heap.size + 1 ≤ u26.heap.size := by rw [hu26]; simp
          have BLu26 : Hid (Below n0 wz u26) := by show Below _ _ _; rw [hu26]; exact BLu25.out.alloc (by omega) _
          have gegG : u25.heap.size ≤ gG := by omega
          have logG : n0 ≤ gG := by omega
          have higG : gG < u26.heap.size := by omega
          have XG : Hid (u26.heap[gG]? = some (.cells #[.int .i64 k, .int .i64 a, .int .i64 b, .slice A s.length cp] 24 (0, 0))) := by show _ = _; rw [hu26, hgG]; exact Has.new _ _
          have OR : Hid (u26.ownsRow n0 3 1 (.slice AR (1 + M.length) cR) (1 + M.length) ([.int .i64 0] ++ M.map (Value.int .i64))) := by show World.ownsRow _ _ _ _ _ _ _; rw [hu26]; exact OR.out.alloc _
          have hHeld : (fun w' => w'.cell? ⟨W.heap.size, 0, none⟩ = some (.int .i64 k) ∧ w'.cell? ⟨W.heap.size, 1, none⟩ = some (.int .i64 a) ∧ w'.cell? ⟨W.heap.size, 2, none⟩ = some (.int .i64 b) ∧ w'.cell? ⟨W.heap.size, 3, none⟩ = some (.slice A s.length cp)) u26 := ⟨(BLu26.out.cell (p := ⟨W.heap.size, 0, none⟩) lWz).trans hz0, (BLu26.out.cell (p := ⟨W.heap.size, 1, none⟩) lWz).trans hz1, (BLu26.out.cell (p := ⟨W.heap.size, 2, none⟩) lWz).trans hz2, (BLu26.out.cell (p := ⟨W.heap.size, 3, none⟩) lWz).trans hz3⟩
          (try rw [← hgG])
          (try rw [← hu26])
          refine hK.out _ _ (Or.inl hHeld) ?_
          clear hK K' hgG hu26
          try simp only [Act.put, List.setIfInBounds_toArray, List.set_cons_zero, List.set_cons_succ]
          refine takeL [] (i := 2) (d := 39) (oi := _) (v := ?_) rfl rfl (by kernel_rfl) (by kernel_rfl) (by kernel_rfl) (by kernel_rfl) (by kernel_rfl) (fun _ _ _ h => h) (Or.inl ⟨by rfl, ?_⟩) (by assumption) ?_
          rotate_left
          · intro wz hSw; (try dsimp only at hSw); go_simp; (try with_reducible rfl)
          try simp only [Act.put, List.setIfInBounds_toArray, List.set_cons_zero, List.set_cons_succ]
          refine branchL (i := 6) (j := 10) (o := _) (p := _) (by kernel_rfl) rfl rfl (fun K' hK => ?_) (fun K' hK => ?_)
          · go_simp
            go_at_call 20
            refine (RC.out gG u26 AR cR logG BLu26.out XG.out OR.out).mono ?_
            rintro e u27 ⟨rl, rn, rA, rlen, rc, ev, rfl, hb, hres⟩
            have SAu27 : u26.heap.size ≤ u27.heap.size := hb.size
            have BLu27 : Hid (Below n0 wz u27) := BLu26.out.trans (hb.mono (by omega))
            have RES := hid hres
            clear hb hres
            have hHeld : (fun w' => w'.cell? ⟨W.heap.size, 0, none⟩ = some (.int .i64 k) ∧ w'.cell? ⟨W.heap.size, 1, none⟩ = some (.int .i64 a) ∧ w'.cell? ⟨W.heap.size, 2, none⟩ = some (.int .i64 b) ∧ w'.cell? ⟨W.heap.size, 3, none⟩ = some (.slice A s.length cp)) u27 := ⟨(BLu27.out.cell (p := ⟨W.heap.size, 0, none⟩) lWz).trans hz0, (BLu27.out.cell (p := ⟨W.heap.size, 1, none⟩) lWz).trans hz1, (BLu27.out.cell (p := ⟨W.heap.size, 2, none⟩) lWz).trans hz2, (BLu27.out.cell (p := ⟨W.heap.size, 3, none⟩) lWz).trans hz3⟩
            refine hK.out _ _ (Or.inl hHeld) ?_
            clear hK K'
            try simp only [Act.put, List.setIfInBounds_toArray, List.set_cons_zero, List.set_cons_succ]
            refine takeL [] (i := 7) (d := 36) (oi := _) (v := ?_) rfl rfl (by kernel_rfl) (by kernel_rfl) (by kernel_rfl) (by kernel_rfl) (by kernel_rfl) (fun _ _ _ h => h) (Or.inl ⟨by rfl, ?_⟩) (by assumption) ?_
            rotate_left
            · intro wz hSw; (try dsimp only at hSw); go_simp; (try with_reducible rfl)
            try simp only [Act.put, List.setIfInBounds_toArray, List.set_cons_zero, List.set_cons_succ]
            refine takeL [] (i := 8) (d := 44) (oi := _) (v := ?_) rfl rfl (by kernel_rfl) (by kernel_rfl) (by kernel_rfl) (by kernel_rfl) (by kernel_rfl) (fun _ _ _ h => h) (Or.inl ⟨by rfl, ?_⟩) (by assumption) ?_
            rotate_left
            · intro wz hSw; (try dsimp only at hSw); go_simp; (try with_reducible rfl)
            try simp only [Act.put, List.setIfInBounds_toArray, List.set_cons_zero, List.set_cons_succ]
            refine takeL [] (i := 9) (d := 45) (oi := _) (v := ?_) rfl rfl (by kernel_rfl) (by kernel_rfl) (by kernel_rfl) (by kernel_rfl) (by kernel_rfl) (fun _ _ _ h => h) (Or.inl ⟨by rfl, ?_⟩) (by assumption) ?_
            rotate_left
            · intro wz hSw; (try dsimp only at hSw); go_simp; (try with_reducible rfl)
            try simp only [Act.put, List.setIfInBounds_toArray, List.set_cons_zero, List.set_cons_succ]
            refine nxtL (i := 10) (o := _) (by kernel_rfl) rfl (fun K' hK => ?_)
            go_simp
            obtain ⟨gV, hgV⟩ : ∃ g, g = u27.heap.size := ⟨_, rfl⟩
            obtain ⟨u28, hu28⟩ : ∃ y, y = u27.alloc (.cells #[.bool false, .int .i64 0, .slice none 0 0] 47) := ⟨_, rfl⟩
            have SAu28 : u27.heap.size + 1 ≤ u28.heap.size := by rw [hu28]; simp
            have BLu28 : Hid (Below n0 wz u28) := by show Below _ _ _; rw [hu28]; exact BLu27.out.alloc (by omega) _
            have gegV : u27.heap.size ≤ gV := by omega
            have logV : n0 ≤ gV := by omega
            have VK : Hid (∀ b, b < u27.heap.size → u28.heap[b]? = u27.heap[b]?) := by show ∀ b, _ → _; intro b h; rw [hu28]; exact Below.heap_alloc _ _ _ h
            have higV : gV < u28.heap.size := by omega
            have XV : Hid (u28.heap[gV]? = some (.cells #[.bool false, .int .i64 0, .slice none 0 0] 47 (0, 0))) := by show _ = _; rw [hu28, hgV]; exact Has.new _ _
            have hHeld : (fun w' => w'.cell? ⟨W.heap.size, 0, none⟩ = some (.int .i64 k) ∧ w'.cell? ⟨W.heap.size, 1, none⟩ = some (.int .i64 a) ∧ w'.cell? ⟨W.heap.size, 2, none⟩ = some (.int .i64 b) ∧ w'.cell? ⟨W.heap.size, 3, none⟩ = some (.slice A s.length cp)) u28 := ⟨(BLu28.out.cell (p := ⟨W.heap.size, 0, none⟩) lWz).trans hz0, (BLu28.out.cell (p := ⟨W.heap.size, 1, none⟩) lWz).trans hz1, (BLu28.out.cell (p := ⟨W.heap.size, 2, none⟩) lWz).trans hz2, (BLu28.out.cell (p := ⟨W.heap.size, 3, none⟩) lWz).trans hz3⟩
            (try rw [← hgV])
            (try rw [← hu28])
            refine hK.out _ _ (Or.inl hHeld) ?_
            clear hK K' hgV hu28
            try simp only [Act.put, List.setIfInBounds_toArray, List.set_cons_zero, List.set_cons_succ]
            have c0 := Has.cell XV.out 0
            have c1 := Has.cell XV.out 1
            have c2' := Has.cell XV.out 2
            have f0 := Has.froz XV.out 0
            have f1 := Has.froz XV.out 1
            have f2 := Has.froz XV.out 2
            simp at c0 c1 c2'
            have S6 := hid (set3 XV.out (.bool rl) (.int .i64 rn) (.slice rA rlen rc))
            have hHeld : (fun w' => w'.cell? ⟨W.heap.size, 0, none⟩ = some (.int .i64 k) ∧ w'.cell? ⟨W.heap.size, 1, none⟩ = some (.int .i64 a) ∧ w'.cell? ⟨W.heap.size, 2, none⟩ = some (.int .i64 b) ∧ w'.cell? ⟨W.heap.size, 3, none⟩ = some (.slice A s.length cp)) (((u28.setCell ⟨gV, 0, none⟩ (.bool rl)).setCell ⟨gV, 1, none⟩ (.int .i64 rn)).setCell ⟨gV, 2, none⟩ (.slice rA rlen rc)) := ⟨(World.cell?_of_block (a := ⟨W.heap.size, 0, none⟩) (S6.out.2.1 W.heap.size (by omega))).trans hHeld.1, (World.cell?_of_block (a := ⟨W.heap.size, 1, none⟩) (S6.out.2.1 W.heap.size (by omega))).trans hHeld.2.1, (World.cell?_of_block (a := ⟨W.heap.size, 2, none⟩) (S6.out.2.1 W.heap.size (by omega))).trans hHeld.2.2.1, (World.cell?_of_block (a := ⟨W.heap.size, 3, none⟩) (S6.out.2.1 W.heap.size (by omega))).trans hHeld.2.2.2⟩
            refine nxtL (i := 11) (o := _) (by kernel_rfl) rfl (fun K' hK => ?_)
            go_simp
            refine hK.out _ _ (Or.inl hHeld) ?_
            clear hK K'
            try simp only [Act.put, List.setIfInBounds_toArray, List.set_cons_zero, List.set_cons_succ]
            refine nxtL (i := 12) (o := _) (by kernel_rfl) rfl (fun K' hK => ?_)
            go_simp
            refine hK.out _ _ (Or.inl hHeld) ?_
            clear hK K'
            try simp only [Act.put, List.setIfInBounds_toArray, List.set_cons_zero, List.set_cons_succ]
            refine doneL (by kernel_rfl) ?_ _
            have FC : Hid (WrapOk n0 wz gV ev r5 (((u28.setCell ⟨gV, 0, none⟩ (.bool rl)).setCell ⟨gV, 1, none⟩ (.int .i64 rn)).setCell ⟨gV, 2, none⟩ (.slice rA rlen rc))) := ⟨logV, BLu28.out.trans (S6.out.2.2.2.mono (by omega)), rl, rn, rA, rlen, rc, _, S6.out.1, fun b h => ⟨by have := h.1; omega, by rw [S6.out.2.2.1]; have := h.2; omega⟩, RES.out.keep_ (fun b h => (S6.out.2.1 b (by have := h.2; omega)).trans (VK.out b h.2))⟩
            clear c0 c1 c2' f0 f1 f2
            go_wp2_with fail
            go_meet
            exact ⟨gV, ev, rfl, rfl, FC⟩
          · go_simp
            obtain ⟨gV, hgV⟩ : ∃ g, g = u26.heap.size := ⟨_, rfl⟩
            obtain ⟨u29, hu29⟩ : ∃ y, y = u26.alloc (.cells #[.bool false, .int .i64 0, .slice none 0 0] 47) := ⟨_, rfl⟩
            have SAu29 : u26.heap.size + 1 ≤ u29.heap.size := by rw [hu29]; simp
            have BLu29 : Hid (Below n0 wz u29) := by show Below _ _ _; rw [hu29]; exact BLu26.out.alloc (by omega) _
            have gegV : u26.heap.size ≤ gV := by omega
            have logV : n0 ≤ gV := by omega
            have higV : gV < u29.heap.size := by omega
            have XV : Hid (u29.heap[gV]? = some (.cells #[.bool false, .int .i64 0, .slice none 0 0] 47 (0, 0))) := by show _ = _; rw [hu29, hgV]; exact Has.new _ _
            have XG : Hid (u29.heap[gG]? = some (.cells #[.int .i64 k, .int .i64 a, .int .i64 b, .slice A s.length cp] 24 (0, 0))) := by show _ = _; rw [hu29]; exact Has.alloc XG.out _
            have OR : Hid (u29.ownsRow n0 3 1 (.slice AR (1 + M.length) cR) (1 + M.length) ([.int .i64 0] ++ M.map (Value.int .i64))) := by show World.ownsRow _ _ _ _ _ _ _; rw [hu29]; exact OR.out.alloc _
            have hHeld : (fun w' => w'.cell? ⟨W.heap.size, 0, none⟩ = some (.int .i64 k) ∧ w'.cell? ⟨W.heap.size, 1, none⟩ = some (.int .i64 a) ∧ w'.cell? ⟨W.heap.size, 2, none⟩ = some (.int .i64 b) ∧ w'.cell? ⟨W.heap.size, 3, none⟩ = some (.slice A s.length cp)) u29 := ⟨(BLu29.out.cell (p := ⟨W.heap.size, 0, none⟩) lWz).trans hz0, (BLu29.out.cell (p := ⟨W.heap.size, 1, none⟩) lWz).trans hz1, (BLu29.out.cell (p := ⟨W.heap.size, 2, none⟩) lWz).trans hz2, (BLu29.out.cell (p := ⟨W.heap.size, 3, none⟩) lWz).trans hz3⟩
            (try rw [← hgV])
            (try rw [← hu29])
            refine hK.out _ _ (Or.inl hHeld) ?_
            clear hK K' hgV hu29
            try simp only [Act.put, List.setIfInBounds_toArray, List.set_cons_zero, List.set_cons_succ]
            refine nxtL (i := 6) (o := _) (by kernel_rfl) rfl (fun K' hK => ?_)
            go_simp
            go_at_call 20
            refine (RC.out gG u29 AR cR logG BLu29.out XG.out OR.out).mono ?_
            rintro e u30 ⟨rl, rn, rA, rlen, rc, ev, rfl, hb, hres⟩
            have SAu30 : u29.heap.size ≤ u30.heap.size := hb.size
            have BLu30 : Hid (Below n0 wz u30) := BLu29.out.trans (hb.mono (by omega))
            have RES := hid hres
            have XV : Hid (u30.heap[gV]? = some (.cells #[.bool false, .int .i64 0, .slice none 0 0] 47 (0, 0))) := (hb.block gV (by omega)).trans XV.out
            clear hb hres
            have hHeld : (fun w' => w'.cell? ⟨W.heap.size, 0, none⟩ = some (.int .i64 k) ∧ w'.cell? ⟨W.heap.size, 1, none⟩ = some (.int .i64 a) ∧ w'.cell? ⟨W.heap.size, 2, none⟩ = some (.int .i64 b) ∧ w'.cell? ⟨W.heap.size, 3, none⟩ = some (.slice A s.length cp)) u30 := ⟨(BLu30.out.cell (p := ⟨W.heap.size, 0, none⟩) lWz).trans hz0, (BLu30.out.cell (p := ⟨W.heap.size, 1, none⟩) lWz).trans hz1, (BLu30.out.cell (p := ⟨W.heap.size, 2, none⟩) lWz).trans hz2, (BLu30.out.cell (p := ⟨W.heap.size, 3, none⟩) lWz).trans hz3⟩
            refine hK.out _ _ (Or.inl hHeld) ?_
            clear hK K'
            try simp only [Act.put, List.setIfInBounds_toArray, List.set_cons_zero, List.set_cons_succ]
            refine takeL [] (i := 7) (d := 36) (oi := _) (v := ?_) rfl rfl (by kernel_rfl) (by kernel_rfl) (by kernel_rfl) (by kernel_rfl) (by kernel_rfl) (fun _ _ _ h => h) (Or.inl ⟨by rfl, ?_⟩) (by assumption) ?_
            rotate_left
            · intro wz hSw; (try dsimp only at hSw); go_simp; (try with_reducible rfl)
            try simp only [Act.put, List.setIfInBounds_toArray, List.set_cons_zero, List.set_cons_succ]
            refine takeL [] (i := 8) (d := 44) (oi := _) (v := ?_) rfl rfl (by kernel_rfl) (by kernel_rfl) (by kernel_rfl) (by kernel_rfl) (by kernel_rfl) (fun _ _ _ h => h) (Or.inl ⟨by rfl, ?_⟩) (by assumption) ?_
            rotate_left
            · intro wz hSw; (try dsimp only at hSw); go_simp; (try with_reducible rfl)
            try simp only [Act.put, List.setIfInBounds_toArray, List.set_cons_zero, List.set_cons_succ]
            refine takeL [] (i := 9) (d := 45) (oi := _) (v := ?_) rfl rfl (by kernel_rfl) (by kernel_rfl) (by kernel_rfl) (by kernel_rfl) (by kernel_rfl) (fun _ _ _ h => h) (Or.inl ⟨by rfl, ?_⟩) (by assumption) ?_
            rotate_left
            · intro wz hSw; (try dsimp only at hSw); go_simp; (try with_reducible rfl)
            try simp only [Act.put, List.setIfInBounds_toArray, List.set_cons_zero, List.set_cons_succ]
            have c0 := Has.cell XV.out 0
            have c1 := Has.cell XV.out 1
            have c2' := Has.cell XV.out 2
            have f0 := Has.froz XV.out 0
            have f1 := Has.froz XV.out 1
            have f2 := Has.froz XV.out 2
            simp at c0 c1 c2'
            have S6 := hid (set3 XV.out (.bool rl) (.int .i64 rn) (.slice rA rlen rc))
            have hHeld : (fun w' => w'.cell? ⟨W.heap.size, 0, none⟩ = some (.int .i64 k) ∧ w'.cell? ⟨W.heap.size, 1, none⟩ = some (.int .i64 a) ∧ w'.cell? ⟨W.heap.size, 2, none⟩ = some (.int .i64 b) ∧ w'.cell? ⟨W.heap.size, 3, none⟩ = some (.slice A s.length cp)) (((u30.setCell ⟨gV, 0, none⟩ (.bool rl)).setCell ⟨gV, 1, none⟩ (.int .i64 rn)).setCell ⟨gV, 2, none⟩ (.slice rA rlen rc)) := ⟨(World.cell?_of_block (a := ⟨W.heap.size, 0, none⟩) (S6.out.2.1 W.heap.size (by omega))).trans hHeld.1, (World.cell?_of_block (a := ⟨W.heap.size, 1, none⟩) (S6.out.2.1 W.heap.size (by omega))).trans hHeld.2.1, (World.cell?_of_block (a := ⟨W.heap.size, 2, none⟩) (S6.out.2.1 W.heap.size (by omega))).trans hHeld.2.2.1, (World.cell?_of_block (a := ⟨W.heap.size, 3, none⟩) (S6.out.2.1 W.heap.size (by omega))).trans hHeld.2.2.2⟩
            refine nxtL (i := 11) (o := _) (by kernel_rfl) rfl (fun K' hK => ?_)
            go_simp
            refine hK.out _ _ (Or.inl hHeld) ?_
            clear hK K'
            try simp only [Act.put, List.setIfInBounds_toArray, List.set_cons_zero, List.set_cons_succ]
            refine nxtL (i := 12) (o := _) (by kernel_rfl) rfl (fun K' hK => ?_)
            go_simp
            refine hK.out _ _ (Or.inl hHeld) ?_
            clear hK K'
            try simp only [Act.put, List.setIfInBounds_toArray, List.set_cons_zero, List.set_cons_succ]
            refine doneL (by kernel_rfl) ?_ _
            have FC : Hid (WrapOk n0 wz gV ev r5 (((u30.setCell ⟨gV, 0, none⟩ (.bool rl)).setCell ⟨gV, 1, none⟩ (.int .i64 rn)).setCell ⟨gV, 2, none⟩ (.slice rA rlen rc))) := ⟨logV, BLu30.out.trans (S6.out.2.2.2.mono (by omega)), rl, rn, rA, rlen, rc, _, S6.out.1, fun b h => ⟨by have := h.1; omega, by rw [S6.out.2.2.1]; have := h.2; omega⟩, RES.out.keep_ (fun b h => S6.out.2.1 b (by have := h.1; omega))⟩
            clear c0 c1 c2' f0 f1 f2
            go_wp2_with fail
            go_meet
            exact ⟨gV, ev, rfl, rfl, FC⟩
        · go_simp
          obtain ⟨gV, hgV⟩ : ∃ g, g = u25.heap.size := ⟨_, rfl⟩
          obtain ⟨u31, hu31⟩ : ∃ y, y = u25.alloc (.cells #[.bool false, .int .i64 0, .slice none 0 0] 47) := ⟨_, rfl⟩
          have SAu31 : u25.heap.size + 1 ≤ u31.heap.size := by rw [hu31]; simp
          have BLu31 : Hid (Below n0 wz u31) := by show Below _ _ _; rw [hu31]; exact BLu25.out.alloc (by omega) _
          have gegV : u25.heap.size ≤ gV := by omega
          have logV : n0 ≤ gV := by omega
          have higV : gV < u31.heap.size := by omega
          have XV : Hid (u31.heap[gV]? = some (.cells #[.bool false, .int .i64 0, .slice none 0 0] 47 (0, 0))) := by show _ = _; rw [hu31, hgV]; exact Has.new _ _
          have OR : Hid (u31.ownsRow n0 3 1 (.slice AR (1 + M.length) cR) (1 + M.length) ([.int .i64 0] ++ M.map (Value.int .i64))) := by show World.ownsRow _ _ _ _ _ _ _; rw [hu31]; exact OR.out.alloc _
          have hHeld : (fun w' => w'.cell? ⟨W.heap.size, 0, none⟩ = some (.int .i64 k) ∧ w'.cell? ⟨W.heap.size, 1, none⟩ = some (.int .i64 a) ∧ w'.cell? ⟨W.heap.size, 2, none⟩ = some (.int .i64 b) ∧ w'.cell? ⟨W.heap.size, 3, none⟩ = some (.slice A s.length cp)) u31 := ⟨(BLu31.out.cell (p := ⟨W.heap.size, 0, none⟩) lWz).trans hz0, (BLu31.out.cell (p := ⟨W.heap.size, 1, none⟩) lWz).trans hz1, (BLu31.out.cell (p := ⟨W.heap.size, 2, none⟩) lWz).trans hz2, (BLu31.out.cell (p := ⟨W.heap.size, 3, none⟩) lWz).trans hz3⟩
          (try rw [← hgV])
          (try rw [← hu31])
          refine hK.out _ _ (Or.inl hHeld) ?_
          clear hK K' hgV hu31
          try simp only [Act.put, List.setIfInBounds_toArray, List.set_cons_zero, List.set_cons_succ]
          refine nxtL (i := 1) (o := _) (by kernel_rfl) rfl (fun K' hK => ?_)
          go_simp
          obtain ⟨gG, hgG⟩ : ∃ g, g = u31.heap.size := ⟨_, rfl⟩
          obtain ⟨u32, hu32⟩ : ∃ y, y = u31.alloc (.cells #[.int .i64 k, .int .i64 a, .int .i64 b, .slice A s.length cp] 24) := ⟨_, rfl⟩
          have SAu32 : u31.heap.size + 1 ≤ u32.heap.size := by rw [hu32]; simp
          have BLu32 : Hid (Below n0 wz u32) := by show Below _ _ _; rw [hu32]; exact BLu31.out.alloc (by omega) _
          have gegG : u31.heap.size ≤ gG := by omega
          have logG : n0 ≤ gG := by omega
          have higG : gG < u32.heap.size := by omega
          have XG : Hid (u32.heap[gG]? = some (.cells #[.int .i64 k, .int .i64 a, .int .i64 b, .slice A s.length cp] 24 (0, 0))) := by show _ = _; rw [hu32, hgG]; exact Has.new _ _
          have XV : Hid (u32.heap[gV]? = some (.cells #[.bool false, .int .i64 0, .slice none 0 0] 47 (0, 0))) := by show _ = _; rw [hu32]; exact Has.alloc XV.out _
          have OR : Hid (u32.ownsRow n0 3 1 (.slice AR (1 + M.length) cR) (1 + M.length) ([.int .i64 0] ++ M.map (Value.int .i64))) := by show World.ownsRow _ _ _ _ _ _ _; rw [hu32]; exact OR.out.alloc _
          have hHeld : (fun w' => w'.cell? ⟨W.heap.size, 0, none⟩ = some (.int .i64 k) ∧ w'.cell? ⟨W.heap.size, 1, none⟩ = some (.int .i64 a) ∧ w'.cell? ⟨W.heap.size, 2, none⟩ = some (.int .i64 b) ∧ w'.cell? ⟨W.heap.size, 3, none⟩ = some (.slice A s.length cp)) u32 := ⟨(BLu32.out.cell (p := ⟨W.heap.size, 0, none⟩) lWz).trans hz0, (BLu32.out.cell (p := ⟨W.heap.size, 1, none⟩) lWz).trans hz1, (BLu32.out.cell (p := ⟨W.heap.size, 2, none⟩) lWz).trans hz2, (BLu32.out.cell (p := ⟨W.heap.size, 3, none⟩) lWz).trans hz3⟩
          (try rw [← hgG])
          (try rw [← hu32])
          refine hK.out _ _ (Or.inl hHeld) ?_
          clear hK K' hgG hu32
          try simp only [Act.put, List.setIfInBounds_toArray, List.set_cons_zero, List.set_cons_succ]
          refine takeL [] (i := 2) (d := 39) (oi := _) (v := ?_) rfl rfl (by kernel_rfl) (by kernel_rfl) (by kernel_rfl) (by kernel_rfl) (by kernel_rfl) (fun _ _ _ h => h) (Or.inl ⟨by rfl, ?_⟩) (by assumption) ?_
          rotate_left
          · intro wz hSw; (try dsimp only at hSw); go_simp; (try with_reducible rfl)
          try simp only [Act.put, List.setIfInBounds_toArray, List.set_cons_zero, List.set_cons_succ]
          refine nxtL (i := 6) (o := _) (by kernel_rfl) rfl (fun K' hK => ?_)
          go_simp
          go_at_call 20
          refine (RC.out gG u32 AR cR logG BLu32.out XG.out OR.out).mono ?_
          rintro e u33 ⟨rl, rn, rA, rlen, rc, ev, rfl, hb, hres⟩
          have SAu33 : u32.heap.size ≤ u33.heap.size := hb.size
          have BLu33 : Hid (Below n0 wz u33) := BLu32.out.trans (hb.mono (by omega))
          have RES := hid hres
          have XV : Hid (u33.heap[gV]? = some (.cells #[.bool false, .int .i64 0, .slice none 0 0] 47 (0, 0))) := (hb.block gV (by omega)).trans XV.out
          clear hb hres
          have hHeld : (fun w' => w'.cell? ⟨W.heap.size, 0, none⟩ = some (.int .i64 k) ∧ w'.cell? ⟨W.heap.size, 1, none⟩ = some (.int .i64 a) ∧ w'.cell? ⟨W.heap.size, 2, none⟩ = some (.int .i64 b) ∧ w'.cell? ⟨W.heap.size, 3, none⟩ = some (.slice A s.length cp)) u33 := ⟨(BLu33.out.cell (p := ⟨W.heap.size, 0, none⟩) lWz).trans hz0, (BLu33.out.cell (p := ⟨W.heap.size, 1, none⟩) lWz).trans hz1, (BLu33.out.cell (p := ⟨W.heap.size, 2, none⟩) lWz).trans hz2, (BLu33.out.cell (p := ⟨W.heap.size, 3, none⟩) lWz).trans hz3⟩
          refine hK.out _ _ (Or.inl hHeld) ?_
          clear hK K'
          try simp only [Act.put, List.setIfInBounds_toArray, List.set_cons_zero, List.set_cons_succ]
          refine takeL [] (i := 7) (d := 36) (oi := _) (v := ?_) rfl rfl (by kernel_rfl) (by kernel_rfl) (by kernel_rfl) (by kernel_rfl) (by kernel_rfl) (fun _ _ _ h => h) (Or.inl ⟨by rfl, ?_⟩) (by assumption) ?_
          rotate_left
          · intro wz hSw; (try dsimp only at hSw); go_simp; (try with_reducible rfl)
          try simp only [Act.put, List.setIfInBounds_toArray, List.set_cons_zero, List.set_cons_succ]
          refine takeL [] (i := 8) (d := 44) (oi := _) (v := ?_) rfl rfl (by kernel_rfl) (by kernel_rfl) (by kernel_rfl) (by kernel_rfl) (by kernel_rfl) (fun _ _ _ h => h) (Or.inl ⟨by rfl, ?_⟩) (by assumption) ?_
          rotate_left
          · intro wz hSw; (try dsimp only at hSw); go_simp; (try with_reducible rfl)
          try simp only [Act.put, List.setIfInBounds_toArray, List.set_cons_zero, List.set_cons_succ]
          refine takeL [] (i := 9) (d := 45) (oi := _) (v := ?_) rfl rfl (by kernel_rfl) (by kernel_rfl) (by kernel_rfl) (by kernel_rfl) (by kernel_rfl) (fun _ _ _ h => h) (Or.inl ⟨by rfl, ?_⟩) (by assumption) ?_
          rotate_left
          · intro wz hSw; (try dsimp only at hSw); go_simp; (try with_reducible rfl)
          try simp only [Act.put, List.setIfInBounds_toArray, List.set_cons_zero, List.set_cons_succ]
          have c0 := Has.cell XV.out 0
          have c1 := Has.cell XV.out 1
          have c2' := Has.cell XV.out 2
          have f0 := Has.froz XV.out 0
          have f1 := Has.froz XV.out 1
          have f2 := Has.froz XV.out 2
          simp at c0 c1 c2'
          have S6 := hid (set3 XV.out (.bool rl) (.int .i64 rn) (.slice rA rlen rc))
          have hHeld : (fun w' => w'.cell? ⟨W.heap.size, 0, none⟩ = some (.int .i64 k) ∧ w'.cell? ⟨W.heap.size, 1, none⟩ = some (.int .i64 a) ∧ w'.cell? ⟨W.heap.size, 2, none⟩ = some (.int .i64 b) ∧ w'.cell? ⟨W.heap.size, 3, none⟩ = some (.slice A s.length cp)) (((u33.setCell ⟨gV, 0, none⟩ (.bool rl)).setCell ⟨gV, 1, none⟩ (.int .i64 rn)).setCell ⟨gV, 2, none⟩ (.slice rA rlen rc)) := ⟨(World.cell?_of_block (a := ⟨W.heap.size, 0, none⟩) (S6.out.2.1 W.heap.size (by omega))).trans hHeld.1, (World.cell?_of_block (a := ⟨W.heap.size, 1, none⟩) (S6.out.2.1 W.heap.size (by omega))).trans hHeld.2.1, (World.cell?_of_block (a := ⟨W.heap.size, 2, none⟩) (S6.out.2.1 W.heap.size (by omega))).trans hHeld.2.2.1, (World.cell?_of_block (a := ⟨W.heap.size, 3, none⟩) (S6.out.2.1 W.heap.size (by omega))).trans hHeld.2.2.2⟩
          refine nxtL (i := 11) (o := _) (by kernel_rfl) rfl (fun K' hK => ?_)
          go_simp
          refine hK.out _ _ (Or.inl hHeld) ?_
          clear hK K'
          try simp only [Act.put, List.setIfInBounds_toArray, List.set_cons_zero, List.set_cons_succ]
          refine nxtL (i := 12) (o := _) (by kernel_rfl) rfl (fun K' hK => ?_)
          go_simp
          refine hK.out _ _ (Or.inl hHeld) ?_
          clear hK K'
          try simp only [Act.put, List.setIfInBounds_toArray, List.set_cons_zero, List.set_cons_succ]
          refine doneL (by kernel_rfl) ?_ _
          have FC : Hid (WrapOk n0 wz gV ev r5 (((u33.setCell ⟨gV, 0, none⟩ (.bool rl)).setCell ⟨gV, 1, none⟩ (.int .i64 rn)).setCell ⟨gV, 2, none⟩ (.slice rA rlen rc))) := ⟨logV, BLu33.out.trans (S6.out.2.2.2.mono (by omega)), rl, rn, rA, rlen, rc, _, S6.out.1, fun b h => ⟨by have := h.1; omega, by rw [S6.out.2.2.1]; have := h.2; omega⟩, RES.out.keep_ (fun b h => S6.out.2.1 b (by have := h.1; omega))⟩
          clear c0 c1 c2' f0 f1 f2
          go_wp2_with fail
          go_meet
          exact ⟨gV, ev, rfl, rfl, FC⟩
      · go_simp
        obtain ⟨gV, hgV⟩ : ∃ g, g = u15.heap.size := ⟨_, rfl⟩
        obtain ⟨u34, hu34⟩ : ∃ y, y = u15.alloc (.cells #[.bool false, .int .i64 0, .slice none 0 0] 47) := ⟨_, rfl⟩
        have SAu34 : u15.heap.size + 1 ≤ u34.heap.size := by rw [hu34]; simp
        have BLu34 : Hid (Below n0 wz u34) := by show Below _ _ _; rw [hu34]; exact BLu15.out.alloc (by omega) _
        have gegV : u15.heap.size ≤ gV := by omega
        have logV : n0 ≤ gV := by omega
        have higV : gV < u34.heap.size := by omega
        have XV : Hid (u34.heap[gV]? = some (.cells #[.bool false, .int .i64 0, .slice none 0 0] 47 (0, 0))) := by show _ = _; rw [hu34, hgV]; exact Has.new _ _
        have OR : Hid (u34.ownsRow n0 3 1 (.slice (some ⟨gR, 0, none⟩) 1 1) 1 [.int .i64 0]) := by show World.ownsRow _ _ _ _ _ _ _; rw [hu34]; exact OR.out.alloc _
        have hHeld : (fun w' => w'.cell? ⟨W.heap.size, 0, none⟩ = some (.int .i64 k) ∧ w'.cell? ⟨W.heap.size, 1, none⟩ = some (.int .i64 a) ∧ w'.cell? ⟨W.heap.size, 2, none⟩ = some (.int .i64 b) ∧ w'.cell? ⟨W.heap.size, 3, none⟩ = some (.slice A s.length cp)) u34 := ⟨(BLu34.out.cell (p := ⟨W.heap.size, 0, none⟩) lWz).trans hz0, (BLu34.out.cell (p := ⟨W.heap.size, 1, none⟩) lWz).trans hz1, (BLu34.out.cell (p := ⟨W.heap.size, 2, none⟩) lWz).trans hz2, (BLu34.out.cell (p := ⟨W.heap.size, 3, none⟩) lWz).trans hz3⟩
        (try rw [← hgV])
        (try rw [← hu34])
        refine hK.out _ _ (Or.inl hHeld) ?_
        clear hK K' hgV hu34
        try simp only [Act.put, List.setIfInBounds_toArray, List.set_cons_zero, List.set_cons_succ]
        refine branchL (i := 1) (j := 5) (o := _) (p := _) (by kernel_rfl) rfl rfl (fun K' hK => ?_) (fun K' hK => ?_)
        · go_simp
          obtain ⟨gG, hgG⟩ : ∃ g, g = u34.heap.size := ⟨_, rfl⟩
          obtain ⟨u35, hu35⟩ : ∃ y, y = u34.alloc (.cells #[.int .i64 k, .int .i64 a, .int .i64 b, .slice A s.length cp] 24) := ⟨_, rfl⟩
          have SAu35 : u34.heap.size + 1 ≤ u35.heap.size := by rw [hu35]; simp
          have BLu35 : Hid (Below n0 wz u35) := by show Below _ _ _; rw [hu35]; exact BLu34.out.alloc (by omega) _
          have gegG : u34.heap.size ≤ gG := by omega
          have logG : n0 ≤ gG := by omega
          have higG : gG < u35.heap.size := by omega
          have XG : Hid (u35.heap[gG]? = some (.cells #[.int .i64 k, .int .i64 a, .int .i64 b, .slice A s.length cp] 24 (0, 0))) := by show _ = _; rw [hu35, hgG]; exact Has.new _ _
          have XV : Hid (u35.heap[gV]? = some (.cells #[.bool false, .int .i64 0, .slice none 0 0] 47 (0, 0))) := by show _ = _; rw [hu35]; exact Has.alloc XV.out _
          have OR : Hid (u35.ownsRow n0 3 1 (.slice (some ⟨gR, 0, none⟩) 1 1) 1 [.int .i64 0]) := by show World.ownsRow _ _ _ _ _ _ _; rw [hu35]; exact OR.out.alloc _
          have hHeld : (fun w' => w'.cell? ⟨W.heap.size, 0, none⟩ = some (.int .i64 k) ∧ w'.cell? ⟨W.heap.size, 1, none⟩ = some (.int .i64 a) ∧ w'.cell? ⟨W.heap.size, 2, none⟩ = some (.int .i64 b) ∧ w'.cell? ⟨W.heap.size, 3, none⟩ = some (.slice A s.length cp)) u35 := ⟨(BLu35.out.cell (p := ⟨W.heap.size, 0, none⟩) lWz).trans hz0, (BLu35.out.cell (p := ⟨W.heap.size, 1, none⟩) lWz).trans hz1, (BLu35.out.cell (p := ⟨W.heap.size, 2, none⟩) lWz).trans hz2, (BLu35.out.cell (p := ⟨W.heap.size, 3, none⟩) lWz).trans hz3⟩
          (try rw [← hgG])
          (try rw [← hu35])
          refine hK.out _ _ (Or.inl hHeld) ?_
          clear hK K' hgG hu35
          try simp only [Act.put, List.setIfInBounds_toArray, List.set_cons_zero, List.set_cons_succ]
          refine takeL [] (i := 2) (d := 39) (oi := _) (v := ?_) rfl rfl (by kernel_rfl) (by kernel_rfl) (by kernel_rfl) (by kernel_rfl) (by kernel_rfl) (fun _ _ _ h => h) (Or.inl ⟨by rfl, ?_⟩) (by assumption) ?_
          rotate_left
          · intro wz hSw; (try dsimp only at hSw); go_simp; (try with_reducible rfl)
          try simp only [Act.put, List.setIfInBounds_toArray, List.set_cons_zero, List.set_cons_succ]
          refine nxtL (i := 5) (o := _) (by kernel_rfl) rfl (fun K' hK => ?_)
          refine step_app _ (by rfl) (.tmp 40) (.tmp 41) 25 (by rfl) n0 3 i0 (.int .i64 0) 1 8 Tryd.underlying25 hi0 hq0 hq1 hq2 rfl (by decide) (.slice (some ⟨gR, 0, none⟩) 1 1) 1 [.int .i64 0] (by simp [Act.eval]) (by exact OR.out) _ (.slice A2 M.length c2) M.length (M.map (Value.int .i64)) (by simp [Act.eval]) (by exact (IM.out.keep (Same.of_below BLu35.out fun b h => h)).cells) (ints_one _ _) (by unfold maxLen; omega) (by omega) (by omega) ?_
          intro v6 u36 hown hgrow hat
          have SAu36 : u35.heap.size ≤ u36.heap.size := hgrow.size
          have BLu36 : Hid (Below n0 wz u36) := BLu35.out.grown hgrow (by omega) (own_ge OR.out)
          have XG : Hid (u36.heap[gG]? = some (.cells #[.int .i64 k, .int .i64 a, .int .i64 b, .slice A s.length cp] 24 (0, 0))) := (hgrow.block gG (by omega) (fun e => by simp [Value.ownBlock] at e; omega)).trans XG.out
          have XV : Hid (u36.heap[gV]? = some (.cells #[.bool false, .int .i64 0, .slice none 0 0] 47 (0, 0))) := (hgrow.block gV (by omega) (fun e => by simp [Value.ownBlock] at e; omega)).trans XV.out
          have OR := hid hown
          obtain ⟨AR, cR, rfl⟩ := own_slice3 hown
          clear hown hgrow hat
          have hHeld : (fun w' => w'.cell? ⟨W.heap.size, 0, none⟩ = some (.int .i64 k) ∧ w'.cell? ⟨W.heap.size, 1, none⟩ = some (.int .i64 a) ∧ w'.cell? ⟨W.heap.size, 2, none⟩ = some (.int .i64 b) ∧ w'.cell? ⟨W.heap.size, 3, none⟩ = some (.slice A s.length cp)) u36 := ⟨(BLu36.out.cell (p := ⟨W.heap.size, 0, none⟩) lWz).trans hz0, (BLu36.out.cell (p := ⟨W.heap.size, 1, none⟩) lWz).trans hz1, (BLu36.out.cell (p := ⟨W.heap.size, 2, none⟩) lWz).trans hz2, (BLu36.out.cell (p := ⟨W.heap.size, 3, none⟩) lWz).trans hz3⟩
          refine hK.out _ _ (Or.inl hHeld) ?_
          clear hK K'
          try simp only [Act.put, List.setIfInBounds_toArray]
          refine nxtL (i := 6) (o := _) (by kernel_rfl) rfl (fun K' hK => ?_)
          go_simp
          go_at_call 20
          refine (RC.out gG u36 AR cR logG BLu36.out XG.out OR.out).mono ?_
          rintro e u37 ⟨rl, rn, rA, rlen, rc, ev, rfl, hb, hres⟩
          have SAu37 : u36.heap.size ≤ u37.heap.size := hb.size
          have BLu37 : Hid (Below n0 wz u37) := BLu36.out.trans (hb.mono (by omega))
          have RES := hid hres
          have XV : Hid (u37.heap[gV]? = some (.cells #[.bool false, .int .i64 0, .slice none 0 0] 47 (0, 0))) := (hb.block gV (by omega)).trans XV.out
          clear hb hres
          have hHeld : (fun w' => w'.cell? ⟨W.heap.size, 0, none⟩ = some (.int .i64 k) ∧ w'.cell? ⟨W.heap.size, 1, none⟩ = some (.int .i64 a) ∧ w'.cell? ⟨W.heap.size, 2, none⟩ = some (.int .i64 b) ∧ w'.cell? ⟨W.heap.size, 3, none⟩ = some (.slice A s.length cp)) u37 := ⟨(BLu37.out.cell (p := ⟨W.heap.size, 0, none⟩) lWz).trans hz0, (BLu37.out.cell (p := ⟨W.heap.size, 1, none⟩) lWz).trans hz1, (BLu37.out.cell (p := ⟨W.heap.size, 2, none⟩) lWz).trans hz2, (BLu37.out.cell (p := ⟨W.heap.size, 3, none⟩) lWz).trans hz3⟩
          refine hK.out _ _ (Or.inl hHeld) ?_
          clear hK K'
          try simp only [Act.put, List.setIfInBounds_toArray, List.set_cons_zero, List.set_cons_succ]
          refine takeL [] (i := 7) (d := 36) (oi := _) (v := ?_) rfl rfl (by kernel_rfl) (by kernel_rfl) (by kernel_rfl) (by kernel_rfl) (by kernel_rfl) (fun _ _ _ h => h) (Or.inl ⟨by rfl, ?_⟩) (by assumption) ?_
          rotate_left
          · intro wz hSw; (try dsimp only at hSw); go_simp; (try with_reducible rfl)
          try simp only [Act.put, List.setIfInBounds_toArray, List.set_cons_zero, List.set_cons_succ]
          refine takeL [] (i := 8) (d := 44) (oi := _) (v := ?_) rfl rfl (by kernel_rfl) (by kernel_rfl) (by kernel_rfl) (by kernel_rfl) (by kernel_rfl) (fun _ _ _ h => h) (Or.inl ⟨by rfl, ?_⟩) (by assumption) ?_
          rotate_left
          · intro wz hSw; (try dsimp only at hSw); go_simp; (try with_reducible rfl)
          try simp only [Act.put, List.setIfInBounds_toArray, List.set_cons_zero, List.set_cons_succ]
          refine takeL [] (i := 9) (d := 45) (oi := _) (v := ?_) rfl rfl (by kernel_rfl) (by kernel_rfl) (by kernel_rfl) (by kernel_rfl) (by kernel_rfl) (fun _ _ _ h => h) (Or.inl ⟨by rfl, ?_⟩) (by assumption) ?_
          rotate_left
          · intro wz hSw; (try dsimp only at hSw); go_simp; (try with_reducible rfl)
          try simp only [Act.put, List.setIfInBounds_toArray, List.set_cons_zero, List.set_cons_succ]
          have c0 := Has.cell XV.out 0
          have c1 := Has.cell XV.out 1
          have c2' := Has.cell XV.out 2
          have f0 := Has.froz XV.out 0
          have f1 := Has.froz XV.out 1
          have f2 := Has.froz XV.out 2
          simp at c0 c1 c2'
          have S6 := hid (set3 XV.out (.bool rl) (.int .i64 rn) (.slice rA rlen rc))
          have hHeld : (fun w' => w'.cell? ⟨W.heap.size, 0, none⟩ = some (.int .i64 k) ∧ w'.cell? ⟨W.heap.size, 1, none⟩ = some (.int .i64 a) ∧ w'.cell? ⟨W.heap.size, 2, none⟩ = some (.int .i64 b) ∧ w'.cell? ⟨W.heap.size, 3, none⟩ = some (.slice A s.length cp)) (((u37.setCell ⟨gV, 0, none⟩ (.bool rl)).setCell ⟨gV, 1, none⟩ (.int .i64 rn)).setCell ⟨gV, 2, none⟩ (.slice rA rlen rc)) := ⟨(World.cell?_of_block (a := ⟨W.heap.size, 0, none⟩) (S6.out.2.1 W.heap.size (by omega))).trans hHeld.1, (World.cell?_of_block (a := ⟨W.heap.size, 1, none⟩) (S6.out.2.1 W.heap.size (by omega))).trans hHeld.2.1, (World.cell?_of_block (a := ⟨W.heap.size, 2, none⟩) (S6.out.2.1 W.heap.size (by omega))).trans hHeld.2.2.1, (World.cell?_of_block (a := ⟨W.heap.size, 3, none⟩) (S6.out.2.1 W.heap.size (by omega))).trans hHeld.2.2.2⟩
          refine nxtL (i := 11) (o := _) (by kernel_rfl) rfl (fun K' hK => ?_)
          go_simp
          refine hK.out _ _ (Or.inl hHeld) ?_
          clear hK K'
          try simp only [Act.put, List.setIfInBounds_toArray, List.set_cons_zero, List.set_cons_succ]
          refine nxtL (i := 12) (o := _) (by kernel_rfl) rfl (fun K' hK => ?_)
          go_simp
          refine hK.out _ _ (Or.inl hHeld) ?_
          clear hK K'
          try simp only [Act.put, List.setIfInBounds_toArray, List.set_cons_zero, List.set_cons_succ]
          refine doneL (by kernel_rfl) ?_ _
          have FC : Hid (WrapOk n0 wz gV ev r5 (((u37.setCell ⟨gV, 0, none⟩ (.bool rl)).setCell ⟨gV, 1, none⟩ (.int .i64 rn)).setCell ⟨gV, 2, none⟩ (.slice rA rlen rc))) := ⟨logV, BLu37.out.trans (S6.out.2.2.2.mono (by omega)), rl, rn, rA, rlen, rc, _, S6.out.1, fun b h => ⟨by have := h.1; omega, by rw [S6.out.2.2.1]; have := h.2; omega⟩, RES.out.keep_ (fun b h => S6.out.2.1 b (by have := h.1; omega))⟩
          clear c0 c1 c2' f0 f1 f2
          go_wp2_with fail
          go_meet
          exact ⟨gV, ev, rfl, rfl, FC⟩
        · refine step_app _ (by rfl) (.tmp 40) (.tmp 41) 25 (by rfl) n0 3 i0 (.int .i64 0) 1 8 Tryd.underlying25 hi0 hq0 hq1 hq2 rfl (by decide) (.slice (some ⟨gR, 0, none⟩) 1 1) 1 [.int .i64 0] (by simp [Act.eval]) (by exact OR.out) _ (.slice A2 M.length c2) M.length (M.map (Value.int .i64)) (by simp [Act.eval]) (by exact (IM.out.keep (Same.of_below BLu34.out fun b h => h)).cells) (ints_one _ _) (by unfold maxLen; omega) (by omega) (by omega) ?_
          intro v6 u38 hown hgrow hat
          have SAu38 : u34.heap.size ≤ u38.heap.size := hgrow.size
          have BLu38 : Hid (Below n0 wz u38) := BLu34.out.grown hgrow (by omega) (own_ge OR.out)
          have XV : Hid (u38.heap[gV]? = some (.cells #[.bool false, .int .i64 0, .slice none 0 0] 47 (0, 0))) := (hgrow.block gV (by omega) (fun e => by simp [Value.ownBlock] at e; omega)).trans XV.out
          have OR := hid hown
          obtain ⟨AR, cR, rfl⟩ := own_slice3 hown
          clear hown hgrow hat
          have hHeld : (fun w' => w'.cell? ⟨W.heap.size, 0, none⟩ = some (.int .i64 k) ∧ w'.cell? ⟨W.heap.size, 1, none⟩ = some (.int .i64 a) ∧ w'.cell? ⟨W.heap.size, 2, none⟩ = some (.int .i64 b) ∧ w'.cell? ⟨W.heap.size, 3, none⟩ = some (.slice A s.length cp)) u38 := ⟨(BLu38.out.cell (p := ⟨W.heap.size, 0, none⟩) lWz).trans hz0, (BLu38.out.cell (p := ⟨W.heap.size, 1, none⟩) lWz).trans hz1, (BLu38.out.cell (p := ⟨W.heap.size, 2, none⟩) lWz).trans hz2, (BLu38.out.cell (p := ⟨W.heap.size, 3, none⟩) lWz).trans hz3⟩
          refine hK.out _ _ (Or.inl hHeld) ?_
          clear hK K'
          try simp only [Act.put, List.setIfInBounds_toArray]
          refine nxtL (i := 1) (o := _) (by kernel_rfl) rfl (fun K' hK => ?_)
          go_simp
          obtain ⟨gG, hgG⟩ : ∃ g, g = u38.heap.size := ⟨_, rfl⟩
          obtain ⟨u39, hu39⟩ : ∃ y, y = u38.alloc (.cells #[.int .i64 k, .int .i64 a, .int .i64 b, .slice A s.length cp] 24) := ⟨_, rfl⟩
          have SAu39 : u38.heap.size + 1 ≤ u39.heap.size := by rw [hu39]; simp
          have BLu39 : Hid (Below n0 wz u39) := by show Below _ _ _; rw [hu39]; exact BLu38.out.alloc (by omega) _
          have gegG : u38.heap.size ≤ gG := by omega
          have logG : n0 ≤ gG := by omega
          have higG : gG < u39.heap.size := by omega
          have XG : Hid (u39.heap[gG]? = some (.cells #[.int .i64 k, .int .i64 a, .int .i64 b, .slice A s.length cp] 24 (0, 0))) := by show _ = _; rw [hu39, hgG]; exact Has.new _ _
          have XV : Hid (u39.heap[gV]? = some (.cells #[.bool false, .int .i64 0, .slice none 0 0] 47 (0, 0))) := by show _ = _; rw [hu39]; exact Has.alloc XV.out _
          have OR : Hid (u39.ownsRow n0 3 1 (.slice AR (1 + M.length) cR) (1 + M.length) ([.int .i64 0] ++ M.map (Value.int .i64))) := by show World.ownsRow _ _ _ _ _ _ _; rw [hu39]; exact OR.out.alloc _
          have hHeld : (fun w' => w'.cell? ⟨W.heap.size, 0, none⟩ = some (.int .i64 k) ∧ w'.cell? ⟨W.heap.size, 1, none⟩ = some (.int .i64 a) ∧ w'.cell? ⟨W.heap.size, 2, none⟩ = some (.int .i64 b) ∧ w'.cell? ⟨W.heap.size, 3, none⟩ = some (.slice A s.length cp)) u39 := ⟨(BLu39.out.cell (p := ⟨W.heap.size, 0, none⟩) lWz).trans hz0, (BLu39.out.cell (p := ⟨W.heap.size, 1, none⟩) lWz).trans hz1, (BLu39.out.cell (p := ⟨W.heap.size, 2, none⟩) lWz).trans hz2, (BLu39.out.cell (p := ⟨W.heap.size, 3, none⟩) lWz).trans hz3⟩
          (try rw [← hgG])
          (try rw [← hu39])
          refine hK.out _ _ (Or.inl hHeld) ?_
          clear hK K' hgG hu39
          try simp only [Act.put, List.setIfInBounds_toArray, List.set_cons_zero, List.set_cons_succ]
          refine takeL [] (i := 2) (d := 39) (oi := _) (v := ?_) rfl rfl (by kernel_rfl) (by kernel_rfl) (by kernel_rfl) (by kernel_rfl) (by kernel_rfl) (fun _ _ _ h => h) (Or.inl ⟨by rfl, ?_⟩) (by assumption) ?_
          rotate_left
          · intro wz hSw; (try dsimp only at hSw); go_simp; (try with_reducible rfl)
          try simp only [Act.put, List.setIfInBounds_toArray, List.set_cons_zero, List.set_cons_succ]
          refine nxtL (i := 6) (o := _) (by kernel_rfl) rfl (fun K' hK => ?_)
          go_simp
          go_at_call 20
          refine (RC.out gG u39 AR cR logG BLu39.out XG.out OR.out).mono ?_
          rintro e u40 ⟨rl, rn, rA, rlen, rc, ev, rfl, hb, hres⟩
          have SAu40 : u39.heap.size ≤ u40.heap.size := hb.size
          have BLu40 : Hid (Below n0 wz u40) := BLu39.out.trans (hb.mono (by omega))
          have RES := hid hres
          have XV : Hid (u40.heap[gV]? = some (.cells #[.bool false, .int .i64 0, .slice none 0 0] 47 (0, 0))) := (hb.block gV (by omega)).trans XV.out
          clear hb hres
          have hHeld : (fun w' => w'.cell? ⟨W.heap.size, 0, none⟩ = some (.int .i64 k) ∧ w'.cell? ⟨W.heap.size, 1, none⟩ = some (.int .i64 a) ∧ w'.cell? ⟨W.heap.size, 2, none⟩ = some (.int .i64 b) ∧ w'.cell? ⟨W.heap.size, 3, none⟩ = some (.slice A s.length cp)) u40 := ⟨(BLu40.out.cell (p := ⟨W.heap.size, 0, none⟩) lWz).trans hz0, (BLu40.out.cell (p := ⟨W.heap.size, 1, none⟩) lWz).trans hz1, (BLu40.out.cell (p := ⟨W.heap.size, 2, none⟩) lWz).trans hz2, (BLu40.out.cell (p := ⟨W.heap.size, 3, none⟩) lWz).trans hz3⟩
          refine hK.out _ _ (Or.inl hHeld) ?_
          clear hK K'
          try simp only [Act.put, List.setIfInBounds_toArray, List.set_cons_zero, List.set_cons_succ]
          refine takeL [] (i := 7) (d := 36) (oi := _) (v := ?_) rfl rfl (by kernel_rfl) (by kernel_rfl) (by kernel_rfl) (by kernel_rfl) (by kernel_rfl) (fun _ _ _ h => h) (Or.inl ⟨by rfl, ?_⟩) (by assumption) ?_
          rotate_left
          · intro wz hSw; (try dsimp only at hSw); go_simp; (try with_reducible rfl)
          try simp only [Act.put, List.setIfInBounds_toArray, List.set_cons_zero, List.set_cons_succ]
          refine takeL [] (i := 8) (d := 44) (oi := _) (v := ?_) rfl rfl (by kernel_rfl) (by kernel_rfl) (by kernel_rfl) (by kernel_rfl) (by kernel_rfl) (fun _ _ _ h => h) (Or.inl ⟨by rfl, ?_⟩) (by assumption) ?_
          rotate_left
          · intro wz hSw; (try dsimp only at hSw); go_simp; (try with_reducible rfl)
          try simp only [Act.put, List.setIfInBounds_toArray, List.set_cons_zero, List.set_cons_succ]
          refine takeL [] (i := 9) (d := 45) (oi := _) (v := ?_) rfl rfl (by kernel_rfl) (by kernel_rfl) (by kernel_rfl) (by kernel_rfl) (by kernel_rfl) (fun _ _ _ h => h) (Or.inl ⟨by rfl, ?_⟩) (by assumption) ?_
          rotate_left
          · intro wz hSw; (try dsimp only at hSw); go_simp; (try with_reducible rfl)
          try simp only [Act.put, List.setIfInBounds_toArray, List.set_cons_zero, List.set_cons_succ]
          have c0 := Has.cell XV.out 0
          have c1 := Has.cell XV.out 1
          have c2' := Has.cell XV.out 2
          have f0 := Has.froz XV.out 0
          have f1 := Has.froz XV.out 1
          have f2 := Has.froz XV.out 2
          simp at c0 c1 c2'
          have S6 := hid (set3 XV.out (.bool rl) (.int .i64 rn) (.slice rA rlen rc))
          have hHeld : (fun w' => w'.cell? ⟨W.heap.size, 0, none⟩ = some (.int .i64 k) ∧ w'.cell? ⟨W.heap.size, 1, none⟩ = some (.int .i64 a) ∧ w'.cell? ⟨W.heap.size, 2, none⟩ = some (.int .i64 b) ∧ w'.cell? ⟨W.heap.size, 3, none⟩ = some (.slice A s.length cp)) (((u40.setCell ⟨gV, 0, none⟩ (.bool rl)).setCell ⟨gV, 1, none⟩ (.int .i64 rn)).setCell ⟨gV, 2, none⟩ (.slice rA rlen rc)) := ⟨(World.cell?_of_block (a := ⟨W.heap.size, 0, none⟩) (S6.out.2.1 W.heap.size (by omega))).trans hHeld.1, (World.cell?_of_block (a := ⟨W.heap.size, 1, none⟩) (S6.out.2.1 W.heap.size (by omega))).trans hHeld.2.1, (World.cell?_of_block (a := ⟨W.heap.size, 2, none⟩) (S6.out.2.1 W.heap.size (by omega))).trans hHeld.2.2.1, (World.cell?_of_block (a := ⟨W.heap.size, 3, none⟩) (S6.out.2.1 W.heap.size (by omega))).trans hHeld.2.2.2⟩
          refine nxtL (i := 11) (o := _) (by kernel_rfl) rfl (fun K' hK => ?_)
          go_simp
          refine hK.out _ _ (Or.inl hHeld) ?_
          clear hK K'
          try simp only [Act.put, List.setIfInBounds_toArray, List.set_cons_zero, List.set_cons_succ]
          refine nxtL (i := 12) (o := _) (by kernel_rfl) rfl (fun K' hK => ?_)
          go_simp
          refine hK.out _ _ (Or.inl hHeld) ?_
          clear hK K'
          try simp only [Act.put, List.setIfInBounds_toArray, List.set_cons_zero, List.set_cons_succ]
          refine doneL (by kernel_rfl) ?_ _
          have FC : Hid (WrapOk n0 wz gV ev r5 (((u40.setCell ⟨gV, 0, none⟩ (.bool rl)).setCell ⟨gV, 1, none⟩ (.int .i64 rn)).setCell ⟨gV, 2, none⟩ (.slice rA rlen rc))) := ⟨logV, BLu40.out.trans (S6.out.2.2.2.mono (by omega)), rl, rn, rA, rlen, rc, _, S6.out.1, fun b h => ⟨by have := h.1; omega, by rw [S6.out.2.2.1]; have := h.2; omega⟩, RES.out.keep_ (fun b h => S6.out.2.1 b (by have := h.1; omega))⟩
          clear c0 c1 c2' f0 f1 f2
          go_wp2_with fail
          go_meet
          exact ⟨gV, ev, rfl, rfl, FC⟩
    · go_simp
      obtain ⟨gV, hgV⟩ : ∃ g, g = wz.heap.size := ⟨_, rfl⟩
      obtain ⟨u41, hu41⟩ : ∃ y, y = wz.alloc (.cells #[.bool false, .int .i64 0, .slice none 0 0] 47) := ⟨_, rfl⟩
      have SAu41 : wz.heap.size + 1 ≤ u41.heap.size := by rw [hu41]; simp
      have BLu41 : Hid (Below n0 wz u41) := by show Below _ _ _; rw [hu41]; exact BLwz.out.alloc (by omega) _
      have gegV : wz.heap.size ≤ gV := by omega
      have logV : n0 ≤ gV := by omega
      have higV : gV < u41.heap.size := by omega
      have XV : Hid (u41.heap[gV]? = some (.cells #[.bool false, .int .i64 0, .slice none 0 0] 47 (0, 0))) := by show _ = _; rw [hu41, hgV]; exact Has.new _ _
      have hHeld : (fun w' => w'.cell? ⟨W.heap.size, 0, none⟩ = some (.int .i64 k) ∧ w'.cell? ⟨W.heap.size, 1, none⟩ = some (.int .i64 a) ∧ w'.cell? ⟨W.heap.size, 2, none⟩ = some (.int .i64 b) ∧ w'.cell? ⟨W.heap.size, 3, none⟩ = some (.slice A s.length cp)) u41 := ⟨(BLu41.out.cell (p := ⟨W.heap.size, 0, none⟩) lWz).trans hz0, (BLu41.out.cell (p := ⟨W.heap.size, 1, none⟩) lWz).trans hz1, (BLu41.out.cell (p := ⟨W.heap.size, 2, none⟩) lWz).trans hz2, (BLu41.out.cell (p := ⟨W.heap.size, 3, none⟩) lWz).trans hz3⟩
      (try rw [← hgV])
      (try rw [← hu41])
      refine hK.out _ _ (Or.inl hHeld) ?_
      clear hK K' hgV hu41
      try simp only [Act.put, List.setIfInBounds_toArray, List.set_cons_zero, List.set_cons_succ]
      refine branchL (i := 1) (j := 3) (o := _) (p := _) (by kernel_rfl) rfl rfl (fun K' hK => ?_) (fun K' hK => ?_)
      · go_simp
        obtain ⟨gG, hgG⟩ : ∃ g, g = u41.heap.size := ⟨_, rfl⟩
        obtain ⟨u42, hu42⟩ : ∃ y, y = u41.alloc (.cells #[.int .i64 k, .int .i64 a, .int .i64 b, .slice A s.length cp] 24) := ⟨_, rfl⟩
        have SAu42 : u41.heap.size + 1 ≤ u42.heap.size := by rw [hu42]; simp
        have BLu42 : Hid (Below n0 wz u42) := by show Below _ _ _; rw [hu42]; exact BLu41.out.alloc (by omega) _
        have gegG : u41.heap.size ≤ gG := by omega
        have logG : n0 ≤ gG := by omega
        have higG : gG < u42.heap.size := by omega
        have XG : Hid (u42.heap[gG]? = some (.cells #[.int .i64 k, .int .i64 a, .int .i64 b, .slice A s.length cp] 24 (0, 0))) := by show _ = _; rw [hu42, hgG]; exact Has.new _ _
        have XV : Hid (u42.heap[gV]? = some (.cells #[.bool false, .int .i64 0, .slice none 0 0] 47 (0, 0))) := by show _ = _; rw [hu42]; exact Has.alloc XV.out _
        have hHeld : (fun w' => w'.cell? ⟨W.heap.size, 0, none⟩ = some (.int .i64 k) ∧ w'.cell? ⟨W.heap.size, 1, none⟩ = some (.int .i64 a) ∧ w'.cell? ⟨W.heap.size, 2, none⟩ = some (.int .i64 b) ∧ w'.cell? ⟨W.heap.size, 3, none⟩ = some (.slice A s.length cp)) u42 := ⟨(BLu42.out.cell (p := ⟨W.heap.size, 0, none⟩) lWz).trans hz0, (BLu42.out.cell (p := ⟨W.heap.size, 1, none⟩) lWz).trans hz1, (BLu42.out.cell (p := ⟨W.heap.size, 2, none⟩) lWz).trans hz2, (BLu42.out.cell (p := ⟨W.heap.size, 3, none⟩) lWz).trans hz3⟩
        (try rw [← hgG])
        (try rw [← hu42])
        refine hK.out _ _ (Or.inl hHeld) ?_
        clear hK K' hgG hu42
        try simp only [Act.put, List.setIfInBounds_toArray, List.set_cons_zero, List.set_cons_succ]
        refine takeL [] (i := 2) (d := 39) (oi := _) (v := ?_) rfl rfl (by kernel_rfl) (by kernel_rfl) (by kernel_rfl) (by kernel_rfl) (by kernel_rfl) (fun _ _ _ h => h) (Or.inl ⟨by rfl, ?_⟩) (by assumption) ?_
        rotate_left
        · intro wz hSw; (try dsimp only at hSw); go_simp; (try with_reducible rfl)
        try simp only [Act.put, List.setIfInBounds_toArray, List.set_cons_zero, List.set_cons_succ]
        refine nxtL (i := 3) (o := _) (by kernel_rfl) rfl (fun K' hK => ?_)
        go_simp
        obtain ⟨gR, hgR⟩ : ∃ g, g = u42.heap.size := ⟨_, rfl⟩
        obtain ⟨u43, hu43⟩ : ∃ y, y = u42.alloc (.cells #[.int .i64 0] 3) := ⟨_, rfl⟩
        have SAu43 : u42.heap.size + 1 ≤ u43.heap.size := by rw [hu43]; simp
        have BLu43 : Hid (Below n0 wz u43) := by show Below _ _ _; rw [hu43]; exact BLu42.out.alloc (by omega) _
        have gegR : u42.heap.size ≤ gR := by omega
        have logR : n0 ≤ gR := by omega
        have higR : gR < u43.heap.size := by omega
        have OR : Hid (u43.ownsRow n0 3 1 (.slice (some ⟨gR, 0, none⟩) 1 1) 1 [.int .i64 0]) := by show World.ownsRow _ _ _ _ _ _ _; rw [hu43, hgR]; exact World.ownsRow_lit (e := 3) (size := 1) (base := n0) u42 #[.int .i64 0] 1 (by omega) (by unfold maxLen; omega) rfl
        have XG : Hid (u43.heap[gG]? = some (.cells #[.int .i64 k, .int .i64 a, .int .i64 b, .slice A s.length cp] 24 (0, 0))) := by show _ = _; rw [hu43]; exact Has.alloc XG.out _
        have XV : Hid (u43.heap[gV]? = some (.cells #[.bool false, .int .i64 0, .slice none 0 0] 47 (0, 0))) := by show _ = _; rw [hu43]; exact Has.alloc XV.out _
        have hHeld : (fun w' => w'.cell? ⟨W.heap.size, 0, none⟩ = some (.int .i64 k) ∧ w'.cell? ⟨W.heap.size, 1, none⟩ = some (.int .i64 a) ∧ w'.cell? ⟨W.heap.size, 2, none⟩ = some (.int .i64 b) ∧ w'.cell? ⟨W.heap.size, 3, none⟩ = some (.slice A s.length cp)) u43 := ⟨(BLu43.out.cell (p := ⟨W.heap.size, 0, none⟩) lWz).trans hz0, (BLu43.out.cell (p := ⟨W.heap.size, 1, none⟩) lWz).trans hz1, (BLu43.out.cell (p := ⟨W.heap.size, 2, none⟩) lWz).trans hz2, (BLu43.out.cell (p := ⟨W.heap.size, 3, none⟩) lWz).trans hz3⟩
        (try rw [← hgR])
        (try rw [← hu43])
        refine hK.out _ _ (Or.inl hHeld) ?_
        clear hK K' hgR hu43
        try simp only [Act.put, List.setIfInBounds_toArray, List.set_cons_zero, List.set_cons_succ]
        refine nxtL (i := 5) (o := _) (by kernel_rfl) rfl (fun K' hK => ?_)
        refine step_app _ (by rfl) (.tmp 40) (.tmp 41) 25 (by rfl) n0 3 i0 (.int .i64 0) 1 8 Tryd.underlying25 hi0 hq0 hq1 hq2 rfl (by decide) (.slice (some ⟨gR, 0, none⟩) 1 1) 1 [.int .i64 0] (by simp [Act.eval]) (by exact OR.out) _ (.slice A2 M.length c2) M.length (M.map (Value.int .i64)) (by simp [Act.eval]) (by exact (IM.out.keep (Same.of_below BLu43.out fun b h => h)).cells) (ints_one _ _) (by unfold maxLen; omega) (by omega) (by omega) ?_
        intro v6 u44 hown hgrow hat
        have SAu44 : u43.heap.size ≤ u44.heap.size := hgrow.size
        have BLu44 : Hid (Below n0 wz u44) := BLu43.out.grown hgrow (by omega) (own_ge OR.out)
        have XG : Hid (u44.heap[gG]? = some (.cells #[.int .i64 k, .int .i64 a, .int .i64 b, .slice A s.length cp] 24 (0, 0))) := (hgrow.block gG (by omega) (fun e => by simp [Value.ownBlock] at e; omega)).trans XG.out
        have XV : Hid (u44.heap[gV]? = some (.cells #[.bool false, .int .i64 0, .slice none 0 0] 47 (0, 0))) := (hgrow.block gV (by omega) (fun e => by simp [Value.ownBlock] at e; omega)).trans XV.out
        have OR := hid hown
        obtain ⟨AR, cR, rfl⟩ := own_slice3 hown
        clear hown hgrow hat
        have hHeld : (fun w' => w'.cell? ⟨W.heap.size, 0, none⟩ = some (.int .i64 k) ∧ w'.cell? ⟨W.heap.size, 1, none⟩ = some (.int .i64 a) ∧ w'.cell? ⟨W.heap.size, 2, none⟩ = some (.int .i64 b) ∧ w'.cell? ⟨W.heap.size, 3, none⟩ = some (.slice A s.length cp)) u44 := ⟨(BLu44.out.cell (p := ⟨W.heap.size, 0, none⟩) lWz).trans hz0, (BLu44.out.cell (p := ⟨W.heap.size, 1, none⟩) lWz).trans hz1, (BLu44.out.cell (p := ⟨W.heap.size, 2, none⟩) lWz).trans hz2, (BLu44.out.cell (p := ⟨W.heap.size, 3, none⟩) lWz).trans hz3⟩
        refine hK.out _ _ (Or.inl hHeld) ?_
        clear hK K'
        try simp only [Act.put, List.setIfInBounds_toArray]
        refine nxtL (i := 6) (o := _) (by kernel_rfl) rfl (fun K' hK => ?_)
        go_simp
        go_at_call 20
        refine (RC.out gG u44 AR cR logG BLu44.out XG.out OR.out).mono ?_
        rintro e u45 ⟨rl, rn, rA, rlen, rc, ev, rfl, hb, hres⟩
        have SAu45 : u44.heap.size ≤ u45.heap.size := hb.size
        have BLu45 : Hid (Below n0 wz u45) := BLu44.out.trans (hb.mono (by omega))
        have RES := hid hres
        have XV : Hid (u45.heap[gV]? = some (.cells #[.bool false, .int .i64 0, .slice none 0 0] 47 (0, 0))) := (hb.block gV (by omega)).trans XV.out
        clear hb hres
        have hHeld : (fun w' => w'.cell? ⟨W.heap.size, 0, none⟩ = some (.int .i64 k) ∧ w'.cell? ⟨W.heap.size, 1, none⟩ = some (.int .i64 a) ∧ w'.cell? ⟨W.heap.size, 2, none⟩ = some (.int .i64 b) ∧ w'.cell? ⟨W.heap.size, 3, none⟩ = some (.slice A s.length cp)) u45 := ⟨(BLu45.out.cell (p := ⟨W.heap.size, 0, none⟩) lWz).trans hz0, (BLu45.out.cell (p := ⟨W.heap.size, 1, none⟩) lWz).trans hz1, (BLu45.out.cell (p := ⟨W.heap.size, 2, none⟩) lWz).trans hz2, (BLu45.out.cell (p := ⟨W.heap.size, 3, none⟩) lWz).trans hz3⟩
        refine hK.out _ _ (Or.inl hHeld) ?_
        clear hK K'
        try simp only [Act.put, List.setIfInBounds_toArray, List.set_cons_zero, List.set_cons_succ]
        refine takeL [] (i := 7) (d := 36) (oi := _) (v := ?_) rfl rfl (by kernel_rfl) (by kernel_rfl) (by kernel_rfl) (by kernel_rfl) (by kernel_rfl) (fun _ _ _ h => h) (Or.inl ⟨by rfl, ?_⟩) (by assumption) ?_
        rotate_left
        · intro wz hSw; (try dsimp only at hSw); go_simp; (try with_reducible rfl)
        try simp only [Act.put, List.setIfInBounds_toArray, List.set_cons_zero, List.set_cons_succ]
        refine takeL [] (i := 8) (d := 44) (oi := _) (v := ?_) rfl rfl (by kernel_rfl) (by kernel_rfl) (by kernel_rfl) (by kernel_rfl) (by kernel_rfl) (fun _ _ _ h => h) (Or.inl ⟨by rfl, ?_⟩) (by assumption) ?_
        rotate_left
        · intro wz hSw; (try dsimp only at hSw); go_simp; (try with_reducible rfl)
        try simp only [Act.put, List.setIfInBounds_toArray, List.set_cons_zero, List.set_cons_succ]
        refine takeL [] (i := 9) (d := 45) (oi := _) (v := ?_) rfl rfl (by kernel_rfl) (by kernel_rfl) (by kernel_rfl) (by kernel_rfl) (by kernel_rfl) (fun _ _ _ h => h) (Or.inl ⟨by rfl, ?_⟩) (by assumption) ?_
        rotate_left
        · intro wz hSw; (try dsimp only at hSw); go_simp; (try with_reducible rfl)
        try simp only [Act.put, List.setIfInBounds_toArray, List.set_cons_zero, List.set_cons_succ]
        have c0 := Has.cell XV.out 0
        have c1 := Has.cell XV.out 1
        have c2' := Has.cell XV.out 2
        have f0 := Has.froz XV.out 0
        have f1 := Has.froz XV.out 1
        have f2 := Has.froz XV.out 2
        simp at c0 c1 c2'
        have S6 := hid (set3 XV.out (.bool rl) (.int .i64 rn) (.slice rA rlen rc))
        have hHeld : (fun w' => w'.cell? ⟨W.heap.size, 0, none⟩ = some (.int .i64 k) ∧ w'.cell? ⟨W.heap.size, 1, none⟩ = some (.int .i64 a) ∧ w'.cell? ⟨W.heap.size, 2, none⟩ = some (.int .i64 b) ∧ w'.cell? ⟨W.heap.size, 3, none⟩ = some (.slice A s.length cp)) (((u45.setCell ⟨gV, 0, none⟩ (.bool rl)).setCell ⟨gV, 1, none⟩ (.int .i64 rn)).setCell ⟨gV, 2, none⟩ (.slice rA rlen rc)) := ⟨(World.cell?_of_block (a := ⟨W.heap.size, 0, none⟩) (S6.out.2.1 W.heap.size (by omega))).trans hHeld.1, (World.cell?_of_block (a := ⟨W.heap.size, 1, none⟩) (S6.out.2.1 W.heap.size (by omega))).trans hHeld.2.1, (World.cell?_of_block (a := ⟨W.heap.size, 2, none⟩) (S6.out.2.1 W.heap.size (by omega))).trans hHeld.2.2.1, (World.cell?_of_block (a := ⟨W.heap.size, 3, none⟩) (S6.out.2.1 W.heap.size (by omega))).trans hHeld.2.2.2⟩
        refine nxtL (i := 11) (o := _) (by kernel_rfl) rfl (fun K' hK => ?_)
        go_simp
        refine hK.out _ _ (Or.inl hHeld) ?_
        clear hK K'
        try simp only [Act.put, List.setIfInBounds_toArray, List.set_cons_zero, List.set_cons_succ]
        refine nxtL (i := 12) (o := _) (by kernel_rfl) rfl (fun K' hK => ?_)
        go_simp
        refine hK.out _ _ (Or.inl hHeld) ?_
        clear hK K'
        try simp only [Act.put, List.setIfInBounds_toArray, List.set_cons_zero, List.set_cons_succ]
        refine doneL (by kernel_rfl) ?_ _
        have FC : Hid (WrapOk n0 wz gV ev r5 (((u45.setCell ⟨gV, 0, none⟩ (.bool rl)).setCell ⟨gV, 1, none⟩ (.int .i64 rn)).setCell ⟨gV, 2, none⟩ (.slice rA rlen rc))) := ⟨logV, BLu45.out.trans (S6.out.2.2.2.mono (by omega)), rl, rn, rA, rlen, rc, _, S6.out.1, fun b h => ⟨by have := h.1; omega, by rw [S6.out.2.2.1]; have := h.2; omega⟩, RES.out.keep_ (fun b h => S6.out.2.1 b (by have := h.1; omega))⟩
        clear c0 c1 c2' f0 f1 f2
        go_wp2_with fail
        go_meet
        exact ⟨gV, ev, rfl, rfl, FC⟩
      · go_simp
        obtain ⟨gR, hgR⟩ : ∃ g, g = u41.heap.size := ⟨_, rfl⟩
        obtain ⟨u46, hu46⟩ : ∃ y, y = u41.alloc (.cells #[.int .i64 0] 3) := ⟨_, rfl⟩
        have SAu46 : u41.heap.size + 1 ≤ u46.heap.size := by rw [hu46]; simp
        have BLu46 : Hid (Below n0 wz u46) := by show Below _ _ _; rw [hu46]; exact BLu41.out.alloc (by omega) _
        have gegR : u41.heap.size ≤ gR := by omega
        have logR : n0 ≤ gR := by omega
        have higR : gR < u46.heap.size := by omega
        have OR : Hid (u46.ownsRow n0 3 1 (.slice (some ⟨gR, 0, none⟩) 1 1) 1 [.int .i64 0]) := by show World.ownsRow _ _ _ _ _ _ _; rw [hu46, hgR]; exact World.ownsRow_lit (e := 3) (size := 1) (base := n0) u41 #[.int .i64 0] 1 (by omega) (by unfold maxLen; omega) rfl
        have XV : Hid (u46.heap[gV]? = some (.cells #[.bool false, .int .i64 0, .slice none 0 0] 47 (0, 0))) := by show _ = _; rw [hu46]; exact Has.alloc XV.out _
        have hHeld : (fun w' => w'.cell? ⟨W.heap.size, 0, none⟩ = some (.int .i64 k) ∧ w'.cell? ⟨W.heap.size, 1, none⟩ = some (.int .i64 a) ∧ w'.cell? ⟨W.heap.size, 2, none⟩ = some (.int .i64 b) ∧ w'.cell? ⟨W.heap.size, 3, none⟩ = some (.slice A s.length cp)) u46 := ⟨(BLu46.out.cell (p := ⟨W.heap.size, 0, none⟩) lWz).trans hz0, (BLu46.out.cell (p := ⟨W.heap.size, 1, none⟩) lWz).trans hz1, (BLu46.out.cell (p := ⟨W.heap.size, 2, none⟩) lWz).trans hz2, (BLu46.out.cell (p := ⟨W.heap.size, 3, none⟩) lWz).trans hz3⟩
        (try rw [← hgR])
        (try rw [← hu46])
        refine hK.out _ _ (Or.inl hHeld) ?_
        clear hK K' hgR hu46
        try simp only [Act.put, List.setIfInBounds_toArray, List.set_cons_zero, List.set_cons_succ]
        refine branchL (i := 1) (j := 5) (o := _) (p := _) (by kernel_rfl) rfl rfl (fun K' hK => ?_) (fun K' hK => ?_)
        · go_simp
          obtain ⟨gG, hgG⟩ : ∃ g, g = u46.heap.size := ⟨_, rfl⟩
          obtain ⟨u47, hu47⟩ : ∃ y, y = u46.alloc (.cells #[.int .i64 k, .int .i64 a, .int .i64 b, .slice A s.length cp] 24) := ⟨_, rfl⟩
          have SAu47 : u46.heap.size + 1 ≤ u47.heap.size := by rw [hu47]; simp
          have BLu47 : Hid (Below n0 wz u47) := by show Below _ _ _; rw [hu47]; exact BLu46.out.alloc (by omega) _
          have gegG : u46.heap.size ≤ gG := by omega
          have logG : n0 ≤ gG := by omega
          have higG : gG < u47.heap.size := by omega
          have XG : Hid (u47.heap[gG]? = some (.cells #[.int .i64 k, .int .i64 a, .int .i64 b, .slice A s.length cp] 24 (0, 0))) := by show _ = _; rw [hu47, hgG]; exact Has.new _ _
          have XV : Hid (u47.heap[gV]? = some (.cells #[.bool false, .int .i64 0, .slice none 0 0] 47 (0, 0))) := by show _ = _; rw [hu47]; exact Has.alloc XV.out _
          have OR : Hid (u47.ownsRow n0 3 1 (.slice (some ⟨gR, 0, none⟩) 1 1) 1 [.int .i64 0]) := by show World.ownsRow _ _ _ _ _ _ _; rw [hu47]; exact OR.out.alloc _
          have hHeld : (fun w' => w'.cell? ⟨W.heap.size, 0, none⟩ = some (.int .i64 k) ∧ w'.cell? ⟨W.heap.size, 1, none⟩ = some (.int .i64 a) ∧ w'.cell? ⟨W.heap.size, 2, none⟩ = some (.int .i64 b) ∧ w'.cell? ⟨W.heap.size, 3, none⟩ = some (.slice A s.length cp)) u47 := ⟨(BLu47.out.cell (p := ⟨W.heap.size, 0, none⟩) lWz).trans hz0, (BLu47.out.cell (p := ⟨W.heap.size, 1, none⟩) lWz).trans hz1, (BLu47.out.cell (p := ⟨W.heap.size, 2, none⟩) lWz).trans hz2, (BLu47.out.cell (p := ⟨W.heap.size, 3, none⟩) lWz).trans hz3⟩
          (try rw [← hgG])
          (try rw [← hu47])
          refine hK.out _ _ (Or.inl hHeld) ?_
          clear hK K' hgG hu47
          try simp only [Act.put, List.setIfInBounds_toArray, List.set_cons_zero, List.set_cons_succ]
          refine takeL [] (i := 2) (d := 39) (oi := _) (v := ?_) rfl rfl (by kernel_rfl) (by kernel_rfl) (by kernel_rfl) (by kernel_rfl) (by kernel_rfl) (fun _ _ _ h => h) (Or.inl ⟨by rfl, ?_⟩) (by assumption) ?_
          rotate_left
          · intro wz hSw; (try dsimp only at hSw); go_simp; (try with_reducible rfl)
          try simp only [Act.put, List.setIfInBounds_toArray, List.set_cons_zero, List.set_cons_succ]
          refine nxtL (i := 5) (o := _) (by kernel_rfl) rfl (fun K' hK => ?_)
          refine step_app _ (by rfl) (.tmp 40) (.tmp 41) 25 (by rfl) n0 3 i0 (.int .i64 0) 1 8 Tryd.underlying25 hi0 hq0 hq1 hq2 rfl (by decide) (.slice (some ⟨gR, 0, none⟩) 1 1) 1 [.int .i64 0] (by simp [Act.eval]) (by exact OR.out) _ (.slice A2 M.length c2) M.length (M.map (Value.int .i64)) (by simp [Act.eval]) (by exact (IM.out.keep (Same.of_below BLu47.out fun b h => h)).cells) (ints_one _ _) (by unfold maxLen; omega) (by omega) (by omega) ?_
          intro v6 u48 hown hgrow hat
          have SAu48 : u47.heap.size ≤ u48.heap.size := hgrow.size
          have BLu48 : Hid (Below n0 wz u48) := BLu47.out.grown hgrow (by omega) (own_ge OR.out)
          have XG : Hid (u48.heap[gG]? = some (.cells #[.int .i64 k, .int .i64 a, .int .i64 b, .slice A s.length cp] 24 (0, 0))) := (hgrow.block gG (by omega) (fun e => by simp [Value.ownBlock] at e; omega)).trans XG.out
          have XV : Hid (u48.heap[gV]? = some (.cells #[.bool false, .int .i64 0, .slice none 0 0] 47 (0, 0))) := (hgrow.block gV (by omega) (fun e => by simp [Value.ownBlock] at e; omega)).trans XV.out
          have OR := hid hown
          obtain ⟨AR, cR, rfl⟩ := own_slice3 hown
          clear hown hgrow hat
          have hHeld : (fun w' => w'.cell? ⟨W.heap.size, 0, none⟩ = some (.int .i64 k) ∧ w'.cell? ⟨W.heap.size, 1, none⟩ = some (.int .i64 a) ∧ w'.cell? ⟨W.heap.size, 2, none⟩ = some (.int .i64 b) ∧ w'.cell? ⟨W.heap.size, 3, none⟩ = some (.slice A s.length cp)) u48 := ⟨(BLu48.out.cell (p := ⟨W.heap.size, 0, none⟩) lWz).trans hz0, (BLu48.out.cell (p := ⟨W.heap.size, 1, none⟩) lWz).trans hz1, (BLu48.out.cell (p := ⟨W.heap.size, 2, none⟩) lWz).trans hz2, (BLu48.out.cell (p := ⟨W.heap.size, 3, none⟩) lWz).trans hz3⟩
          refine hK.out _ _ (Or.inl hHeld) ?_
          clear hK K'
          try simp only [Act.put, List.setIfInBounds_toArray]
          refine nxtL (i := 6) (o := _) (by kernel_rfl) rfl (fun K' hK => ?_)
          go_simp
          go_at_call 20
          refine (RC.out gG u48 AR cR logG BLu48.out XG.out OR.out).mono ?_
          rintro e u49 ⟨rl, rn, rA, rlen, rc, ev, rfl, hb, hres⟩
          have SAu49 : u48.heap.size ≤ u49.heap.size := hb.size
          have BLu49 : Hid (Below n0 wz u49) := BLu48.out.trans (hb.mono (by omega))
          have RES := hid hres
          have XV : Hid (u49.heap[gV]? = some (.cells #[.bool false, .int .i64 0, .slice none 0 0] 47 (0, 0))) := (hb.block gV (by omega)).trans XV.out
          clear hb hres
          have hHeld : (fun w' => w'.cell? ⟨W.heap.size, 0, none⟩ = some (.int .i64 k) ∧ w'.cell? ⟨W.heap.size, 1, none⟩ = some (.int .i64 a) ∧ w'.cell? ⟨W.heap.size, 2, none⟩ = some (.int .i64 b) ∧ w'.cell? ⟨W.heap.size, 3, none⟩ = some (.slice A s.length cp)) u49 := ⟨(BLu49.out.cell (p := ⟨W.heap.size, 0, none⟩) lWz).trans hz0, (BLu49.out.cell (p := ⟨W.heap.size, 1, none⟩) lWz).trans hz1, (BLu49.out.cell (p := ⟨W.heap.size, 2, none⟩) lWz).trans hz2, (BLu49.out.cell (p := ⟨W.heap.size, 3, none⟩) lWz).trans hz3⟩
          refine hK.out _ _ (Or.inl hHeld) ?_
          clear hK K'
          try simp only [Act.put, List.setIfInBounds_toArray, List.set_cons_zero, List.set_cons_succ]
          refine takeL [] (i := 7) (d := 36) (oi := _) (v := ?_) rfl rfl (by kernel_rfl) (by kernel_rfl) (by kernel_rfl) (by kernel_rfl) (by kernel_rfl) (fun _ _ _ h => h) (Or.inl ⟨by rfl, ?_⟩) (by assumption) ?_
          rotate_left
          · intro wz hSw; (try dsimp only at hSw); go_simp; (try with_reducible rfl)
          try simp only [Act.put, List.setIfInBounds_toArray, List.set_cons_zero, List.set_cons_succ]
          refine takeL [] (i := 8) (d := 44) (oi := _) (v := ?_) rfl rfl (by kernel_rfl) (by kernel_rfl) (by kernel_rfl) (by kernel_rfl) (by kernel_rfl) (fun _ _ _ h => h) (Or.inl ⟨by rfl, ?_⟩) (by assumption) ?_
          rotate_left
          · intro wz hSw; (try dsimp only at hSw); go_simp; (try with_reducible rfl)
          try simp only [Act.put, List.setIfInBounds_toArray, List.set_cons_zero, List.set_cons_succ]
          refine takeL [] (i := 9) (d := 45) (oi := _) (v := ?_) rfl rfl (by kernel_rfl) (by kernel_rfl) (by kernel_rfl) (by kernel_rfl) (by kernel_rfl) (fun _ _ _ h => h) (Or.inl ⟨by rfl, ?_⟩) (by assumption) ?_
          rotate_left
          · intro wz hSw; (try dsimp only at hSw); go_simp; (try with_reducible rfl)
          try simp only [Act.put, List.setIfInBounds_toArray, List.set_cons_zero, List.set_cons_succ]
          have c0 := Has.cell XV.out 0
          have c1 := Has.cell XV.out 1
          have c2' := Has.cell XV.out 2
          have f0 := Has.froz XV.out 0
          have f1 := Has.froz XV.out 1
          have f2 := Has.froz XV.out 2
          simp at c0 c1 c2'
          have S6 := hid (set3 XV.out (.bool rl) (.int .i64 rn) (.slice rA rlen rc))
          have hHeld : (fun w' => w'.cell? ⟨W.heap.size, 0, none⟩ = some (.int .i64 k) ∧ w'.cell? ⟨W.heap.size, 1, none⟩ = some (.int .i64 a) ∧ w'.cell? ⟨W.heap.size, 2, none⟩ = some (.int .i64 b) ∧ w'.cell? ⟨W.heap.size, 3, none⟩ = some (.slice A s.length cp)) (((u49.setCell ⟨gV, 0, none⟩ (.bool rl)).setCell ⟨gV, 1, none⟩ (.int .i64 rn)).setCell ⟨gV, 2, none⟩ (.slice rA rlen rc)) := ⟨(World.cell?_of_block (a := ⟨W.heap.size, 0, none⟩) (S6.out.2.1 W.heap.size (by omega))).trans hHeld.1, (World.cell?_of_block (a := ⟨W.heap.size, 1, none⟩) (S6.out.2.1 W.heap.size (by omega))).trans hHeld.2.1, (World.cell?_of_block (a := ⟨W.heap.size, 2, none⟩) (S6.out.2.1 W.heap.size (by omega))).trans hHeld.2.2.1, (World.cell?_of_block (a := ⟨W.heap.size, 3, none⟩) (S6.out.2.1 W.heap.size (by omega))).trans hHeld.2.2.2⟩
          refine nxtL (i := 11) (o := _) (by kernel_rfl) rfl (fun K' hK => ?_)
          go_simp
          refine hK.out _ _ (Or.inl hHeld) ?_
          clear hK K'
          try simp only [Act.put, List.setIfInBounds_toArray, List.set_cons_zero, List.set_cons_succ]
          refine nxtL (i := 12) (o := _) (by kernel_rfl) rfl (fun K' hK => ?_)
          go_simp
          refine hK.out _ _ (Or.inl hHeld) ?_
          clear hK K'
          try simp only [Act.put, List.setIfInBounds_toArray, List.set_cons_zero, List.set_cons_succ]
          refine doneL (by kernel_rfl) ?_ _
          have FC : Hid (WrapOk n0 wz gV ev r5 (((u49.setCell ⟨gV, 0, none⟩ (.bool rl)).setCell ⟨gV, 1, none⟩ (.int .i64 rn)).setCell ⟨gV, 2, none⟩ (.slice rA rlen rc))) := ⟨logV, BLu49.out.trans (S6.out.2.2.2.mono (by omega)), rl, rn, rA, rlen, rc, _, S6.out.1, fun b h => ⟨by have := h.1; omega, by rw [S6.out.2.2.1]; have := h.2; omega⟩, RES.out.keep_ (fun b h => S6.out.2.1 b (by have := h.1; omega))⟩
          clear c0 c1 c2' f0 f1 f2
          go_wp2_with fail
          go_meet
          exact ⟨gV, ev, rfl, rfl, FC⟩
        · refine step_app _ (by rfl) (.tmp 40) (.tmp 41) 25 (by rfl) n0 3 i0 (.int .i64 0) 1 8 Tryd.underlying25 hi0 hq0 hq1 hq2 rfl (by decide) (.slice (some ⟨gR, 0, none⟩) 1 1) 1 [.int .i64 0] (by simp [Act.eval]) (by exact OR.out) _ (.slice A2 M.length c2) M.length (M.map (Value.int .i64)) (by simp [Act.eval]) (by exact (IM.out.keep (Same.of_below BLu46.out fun b h => h)).cells) (ints_one _ _) (by unfold maxLen; omega) (by omega) (by omega) ?_
          intro v6 u50 hown hgrow hat
          have SAu50 : u46.heap.size ≤ u50.heap.size := hgrow.size
          have BLu50 : Hid (Below n0 wz u50) := BLu46.out.grown hgrow (by omega) (own_ge OR.out)
          have XV : Hid (u50.heap[gV]? = some (.cells #[.bool false, .int .i64 0, .slice none 0 0] 47 (0, 0))) := (hgrow.block gV (by omega) (fun e => by simp [Value.ownBlock] at e; omega)).trans XV.out
          have OR := hid hown
          obtain ⟨AR, cR, rfl⟩ := own_slice3 hown
          clear hown hgrow hat
          have hHeld : (fun w' => w'.cell? ⟨W.heap.size, 0, none⟩ = some (.int .i64 k) ∧ w'.cell? ⟨W.heap.size, 1, none⟩ = some (.int .i64 a) ∧ w'.cell? ⟨W.heap.size, 2, none⟩ = some (.int .i64 b) ∧ w'.cell? ⟨W.heap.size, 3, none⟩ = some (.slice A s.length cp)) u50 := ⟨(BLu50.out.cell (p := ⟨W.heap.size, 0, none⟩) lWz).trans hz0, (BLu50.out.cell (p := ⟨W.heap.size, 1, none⟩) lWz).trans hz1, (BLu50.out.cell (p := ⟨W.heap.size, 2, none⟩) lWz).trans hz2, (BLu50.out.cell (p := ⟨W.heap.size, 3, none⟩) lWz).trans hz3⟩
          refine hK.out _ _ (Or.inl hHeld) ?_
          clear hK K'
          try simp only [Act.put, List.setIfInBounds_toArray]
          refine nxtL (i := 1) (o := _) (by kernel_rfl) rfl (fun K' hK => ?_)
          go_simp
          obtain ⟨gG, hgG⟩ : ∃ g, g = u50.heap.size := ⟨_, rfl⟩
          obtain ⟨u51, hu51⟩ : ∃ y, y = u50.alloc (.cells #[.int .i64 k, .int .i64 a, .int .i64 b, .slice A s.length cp] 24) := ⟨_, rfl⟩
          have SAu51 : u50.heap.size + 1 ≤ u51.heap.size := by rw [hu51]; simp
          have BLu51 : Hid (Below n0 wz u51) := by show Below _ _ _; rw [hu51]; exact BLu50.out.alloc (by omega) _
          have gegG : u50.heap.size ≤ gG := by omega
          have logG : n0 ≤ gG := by omega
          have higG : gG < u51.heap.size := by omega
          have XG : Hid (u51.heap[gG]? = some (.cells #[.int .i64 k, .int .i64 a, .int .i64 b, .slice A s.length cp] 24 (0, 0))) := by show _ = _; rw [hu51, hgG]; exact Has.new _ _
          have XV : Hid (u51.heap[gV]? = some (.cells #[.bool false, .int .i64 0, .slice none 0 0] 47 (0, 0))) := by show _ = _; rw [hu51]; exact Has.alloc XV.out _
          have OR : Hid (u51.ownsRow n0 3 1 (.slice AR (1 + M.length) cR) (1 + M.length) ([.int .i64 0] ++ M.map (Value.int .i64))) := by show World.ownsRow _ _ _ _ _ _ _; rw [hu51]; exact OR.out.alloc _
          have hHeld : (fun w' => w'.cell? ⟨W.heap.size, 0, none⟩ = some (.int .i64 k) ∧ w'.cell? ⟨W.heap.size, 1, none⟩ = some (.int .i64 a) ∧ w'.cell? ⟨W.heap.size, 2, none⟩ = some (.int .i64 b) ∧ w'.cell? ⟨W.heap.size, 3, none⟩ = some (.slice A s.length cp)) u51 := ⟨(BLu51.out.cell (p := ⟨W.heap.size, 0, none⟩) lWz).trans hz0, (BLu51.out.cell (p := ⟨W.heap.size, 1, none⟩) lWz).trans hz1, (BLu51.out.cell (p := ⟨W.heap.size, 2, none⟩) lWz).trans hz2, (BLu51.out.cell (p := ⟨W.heap.size, 3, none⟩) lWz).trans hz3⟩
          (try rw [← hgG])
          (try rw [← hu51])
          refine hK.out _ _ (Or.inl hHeld) ?_
          clear hK K' hgG hu51
          try simp only [Act.put, List.setIfInBounds_toArray, List.set_cons_zero, List.set_cons_succ]
          refine takeL [] (i := 2) (d := 39) (oi := _) (v := ?_) rfl rfl (by kernel_rfl) (by kernel_rfl) (by kernel_rfl) (by kernel_rfl) (by kernel_rfl) (fun _ _ _ h => h) (Or.inl ⟨by rfl, ?_⟩) (by assumption) ?_
          rotate_left
          · intro wz hSw; (try dsimp only at hSw); go_simp; (try with_reducible rfl)
          try simp only [Act.put, List.setIfInBounds_toArray, List.set_cons_zero, List.set_cons_succ]
          refine nxtL (i := 6) (o := _) (by kernel_rfl) rfl (fun K' hK => ?_)
          go_simp
          go_at_call 20
          refine (RC.out gG u51 AR cR logG BLu51.out XG.out OR.out).mono ?_
          rintro e u52 ⟨rl, rn, rA, rlen, rc, ev, rfl, hb, hres⟩
          have SAu52 : u51.heap.size ≤ u52.heap.size := hb.size
          have BLu52 : Hid (Below n0 wz u52) := BLu51.out.trans (hb.mono (by omega))
          have RES := hid hres
          have XV : Hid (u52.heap[gV]? = some (.cells #[.bool false, .int .i64 0, .slice none 0 0] 47 (0, 0))) := (hb.block gV (by omega)).trans XV.out
          clear hb hres
          have hHeld : (fun w' => w'.cell? ⟨W.heap.size, 0, none⟩ = some (.int .i64 k) ∧ w'.cell? ⟨W.heap.size, 1, none⟩ = some (.int .i64 a) ∧ w'.cell? ⟨W.heap.size, 2, none⟩ = some (.int .i64 b) ∧ w'.cell? ⟨W.heap.size, 3, none⟩ = some (.slice A s.length cp)) u52 := ⟨(BLu52.out.cell (p := ⟨W.heap.size, 0, none⟩) lWz).trans hz0, (BLu52.out.cell (p := ⟨W.heap.size, 1, none⟩) lWz).trans hz1, (BLu52.out.cell (p := ⟨W.heap.size, 2, none⟩) lWz).trans hz2, (BLu52.out.cell (p := ⟨W.heap.size, 3, none⟩) lWz).trans hz3⟩
          refine hK.out _ _ (Or.inl hHeld) ?_
          clear hK K'
          try simp only [Act.put, List.setIfInBounds_toArray, List.set_cons_zero, List.set_cons_succ]
          refine takeL [] (i := 7) (d := 36) (oi := _) (v := ?_) rfl rfl (by kernel_rfl) (by kernel_rfl) (by kernel_rfl) (by kernel_rfl) (by kernel_rfl) (fun _ _ _ h => h) (Or.inl ⟨by rfl, ?_⟩) (by assumption) ?_
          rotate_left
          · intro wz hSw; (try dsimp only at hSw); go_simp; (try with_reducible rfl)
          try simp only [Act.put, List.setIfInBounds_toArray, List.set_cons_zero, List.set_cons_succ]
          refine takeL [] (i := 8) (d := 44) (oi := _) (v := ?_) rfl rfl (by kernel_rfl) (by kernel_rfl) (by kernel_rfl) (by kernel_rfl) (by kernel_rfl) (fun _ _ _ h => h) (Or.inl ⟨by rfl, ?_⟩) (by assumption) ?_
          rotate_left
          · intro wz hSw; (try dsimp only at hSw); go_simp; (try with_reducible rfl)
          try simp only [Act.put, List.setIfInBounds_toArray, List.set_cons_zero, List.set_cons_succ]
          refine takeL [] (i := 9) (d := 45) (oi := _) (v := ?_) rfl rfl (by kernel_rfl) (by kernel_rfl) (by kernel_rfl) (by kernel_rfl) (by kernel_rfl) (fun _ _ _ h => h) (Or.inl ⟨by rfl, ?_⟩) (by assumption) ?_
          rotate_left
          · intro wz hSw; (try dsimp only at hSw); go_simp; (try with_reducible rfl)
          try simp only [Act.put, List.setIfInBounds_toArray, List.set_cons_zero, List.set_cons_succ]
          have c0 := Has.cell XV.out 0
          have c1 := Has.cell XV.out 1
          have c2' := Has.cell XV.out 2
          have f0 := Has.froz XV.out 0
          have f1 := Has.froz XV.out 1
          have f2 := Has.froz XV.out 2
          simp at c0 c1 c2'
          have S6 := hid (set3 XV.out (.bool rl) (.int .i64 rn) (.slice rA rlen rc))
          have hHeld : (fun w' => w'.cell? ⟨W.heap.size, 0, none⟩ = some (.int .i64 k) ∧ w'.cell? ⟨W.heap.size, 1, none⟩ = some (.int .i64 a) ∧ w'.cell? ⟨W.heap.size, 2, none⟩ = some (.int .i64 b) ∧ w'.cell? ⟨W.heap.size, 3, none⟩ = some (.slice A s.length cp)) (((u52.setCell ⟨gV, 0, none⟩ (.bool rl)).setCell ⟨gV, 1, none⟩ (.int .i64 rn)).setCell ⟨gV, 2, none⟩ (.slice rA rlen rc)) := ⟨(World.cell?_of_block (a := ⟨W.heap.size, 0, none⟩) (S6.out.2.1 W.heap.size (by omega))).trans hHeld.1, (World.cell?_of_block (a := ⟨W.heap.size, 1, none⟩) (S6.out.2.1 W.heap.size (by omega))).trans hHeld.2.1, (World.cell?_of_block (a := ⟨W.heap.size, 2, none⟩) (S6.out.2.1 W.heap.size (by omega))).trans hHeld.2.2.1, (World.cell?_of_block (a := ⟨W.heap.size, 3, none⟩) (S6.out.2.1 W.heap.size (by omega))).trans hHeld.2.2.2⟩
          refine nxtL (i := 11) (o := _) (by kernel_rfl) rfl (fun K' hK => ?_)
          go_simp
          refine hK.out _ _ (Or.inl hHeld) ?_
          clear hK K'
          try simp only [Act.put, List.setIfInBounds_toArray, List.set_cons_zero, List.set_cons_succ]
          refine nxtL (i := 12) (o := _) (by kernel_rfl) rfl (fun K' hK => ?_)
          go_simp
          refine hK.out _ _ (Or.inl hHeld) ?_
          clear hK K'
          try simp only [Act.put, List.setIfInBounds_toArray, List.set_cons_zero, List.set_cons_succ]
          refine doneL (by kernel_rfl) ?_ _
          have FC : Hid (WrapOk n0 wz gV ev r5 (((u52.setCell ⟨gV, 0, none⟩ (.bool rl)).setCell ⟨gV, 1, none⟩ (.int .i64 rn)).setCell ⟨gV, 2, none⟩ (.slice rA rlen rc))) := ⟨logV, BLu52.out.trans (S6.out.2.2.2.mono (by omega)), rl, rn, rA, rlen, rc, _, S6.out.1, fun b h => ⟨by have := h.1; omega, by rw [S6.out.2.2.1]; have := h.2; omega⟩, RES.out.keep_ (fun b h => S6.out.2.1 b (by have := h.1; omega))⟩
          clear c0 c1 c2' f0 f1 f2
          go_wp2_with fail
          go_meet
          exact ⟨gV, ev, rfl, rfl, FC⟩
  case rest =>
  obtain ⟨g6, ev6, rfl, hv11, hW6⟩ := hcut
  obtain rfl : ev6 = _ := hv11.symm
  obtain ⟨wx, hwx⟩ : ∃ wx, wx = wc := ⟨_, rfl⟩
  subst hwx
  obtain ⟨lo6, b6, rl, rn, rA, rlen, rc, F6, x6, f6, rv⟩ := hW6.out
  have B6 := hid b6
  have X6 := hid x6
  have F6I := hid f6
  have RV := hid rv
  have s6 := b6.size
  have BX := hid (BZ.out.trans (b6.mono (by omega)))
  have XW := hid (Has.below XZ.out b6 (by omega))
  have ZW := hid (Has.below ZZ.out b6 (by omega))
  have VW := hid (VaIn.keep (Same.of_below b6 fun b h => h) _ VZ.out)
  have IW := hid (IM.out.keep (Same.of_below b6 fun b h => h))
  have GW := hid (GeIn.keep (Same.of_below b6 fun b h => h) _ GZ.out)
  have ZWF := hid (VaIn.wfs _ VZ.out)
  have TL : Hid ((strB (Va.mk zl zn zs).text).size ≤ 100000000000) := by
    have h1 := text_le _ ZWF.out
    have h2 := SZ.out
    show (Va.mk zl zn zs).text.toArray.size ≤ _
    simp only [List.size_toArray]; omega
  have HU : Hid (strB (Va.mk true 0 [.mk zl zn zs]).text = (⟨#[40]⟩ : ByteArray) ++ strB (Va.mk zl zn zs).text ++ (⟨#[41]⟩ : ByteArray)) := by
    show _ = _
    rw [strB_brackets]
    congr 1
    rw [Va.text]
    simp [Vas.texts, Lib.join]
  have y0 := Has.cell XW.out 0
  have y1 := Has.cell XW.out 1
  have y2 := Has.cell XW.out 2
  have y3 := Has.cell XW.out 3
  simp at y0 y1 y2 y3
  clear hW6 b6 x6 f6 rv BZ XZ ZZ VZ IM GZ RC hi0 hq0 hq1 hq2 B6
  have A6 : Hid (Below wx.heap.size wx (wx.alloc (.cells #[.int .i64 k, .int .i64 a, .int .i64 b, .slice A s.length cp] 24))) := (Below.refl _ _).alloc (Nat.le_refl _) _
  have NG := hid (Has.new wx (.cells #[.int .i64 k, .int .i64 a, .int .i64 b, .slice A s.length cp] 24))
  go_wp2_with fail
  refine (res_of (g := .mk 3 0 0 [G]) (t := M) (F := fun j => j < (wx.alloc (.cells #[.int .i64 k, .int .i64 a, .int .i64 b, .slice A s.length cp] 24)).heap.size) (fun b h => h) (ge_wrap (by decide) (by simp) (GeIn.more (fun b h => by simp; omega) _ (GeIn.keep (Same.of_below A6.out fun b h => by omega) _ GW.out)) ((Has.cell NG.out 0).trans rfl) ((Has.cell NG.out 1).trans rfl) ((Has.cell NG.out 2).trans rfl) ((Has.cell NG.out 3).trans rfl)) ((IW.out.keep (Same.of_below A6.out fun b h => by omega)).more fun b h => by simp; omega)).mono ?_
  rintro e w7 ⟨ul, un, uA, ulen, uc, uev, rfl, hb, hres⟩
  have s7 := hb.size
  simp only [World.size_alloc] at s7
  have P7 := hid (A6.out.trans (hb.mono (by simp)))
  have RU := hid hres
  obtain ⟨w8, hw8⟩ : ∃ w8, w8 = w7.alloc (.cells #[.bool ul, .int .i64 un, .slice uA ulen uc] 47) := ⟨_, rfl⟩
  have E8 : Hid (Below w7.heap.size w7 w8) := by show Below _ _ _; rw [hw8]; exact (Below.refl _ _).alloc (Nat.le_refl _) _
  have U8 : Hid (w8.heap[w7.heap.size]? = some (.cells #[.bool ul, .int .i64 un, .slice uA ulen uc] 47 (0, 0))) := by show _ = _; rw [hw8]; exact Has.new _ _
  have P8 := hid (P7.out.trans (E8.out.mono (by omega)))
  have s8 := E8.out.size
  have s8' : w7.heap.size < w8.heap.size := by rw [hw8]; simp
  have B8 := hid (BX.out.trans (P8.out.mono (by have := BX.out.size; omega)))
  have X8 := hid (Has.below X6.out P8.out (Has.lt X6.out))
  have Z8 := hid (Has.below ZW.out P8.out (Has.lt ZW.out))
  have V8 := hid (VaIn.keep (Same.of_below P8.out fun b h => by omega) _ VW.out)
  clear hb hres y0 y1 y2 y3 A6 NG
  rcases WW.out with ⟨h5, h3⟩ | ⟨h5, h3⟩
  case inl =>
    obtain ⟨hev, hva⟩ := by have := RV.out; rw [HR5.out, h5] at this; exact this
    obtain ⟨huv, hvu⟩ := by have := RU.out; rw [h3] at this; exact this
    subst hev huv
    have L6 := hid (Has.lt X6.out)
    have R8 : Hid (VaIn (fun b => b < w8.heap.size) w8 (.mk zl zn zs) (.bool rl) (.int .i64 rn) (.slice rA rlen rc)) := VaIn.more (fun b h => by have := (F6I.out b h).2; omega) _ (VaIn.keep (Same.of_below P8.out fun b h => (F6I.out b h).2) _ hva)
    have W8 : Hid (VaIn (fun b => b < w8.heap.size) w8 (.mk true 0 [.mk zl zn zs]) (.bool ul) (.int .i64 un) (.slice uA ulen uc)) := VaIn.more (fun b h => by have := h.2; omega) _ (VaIn.keep (Same.of_below E8.out fun b h => h.2) _ hvu)
    have TX8 : Hid (∀ (v : Va) (F : Nat → Prop) (a b c : Value) (w : World), Below w8.heap.size w8 w → (∀ b, F b → b < w.heap.size) → VaIn F w v a b c → v.size ≤ 4000000000 → Calls Tryd.prog 21 #[.agg #[a, b, c]] w (TextPost v w)) := fun v F a b c w hb hF hv hs => vtext_any v F a b c w hF hv hs fun w' h' => HT.out w' (B8.out.trans ((hb.mono (by have := B8.out.size; omega)).trans (h'.mono (by have := B8.out.size; have := hb.size; omega))))
    obtain ⟨TX, hTX⟩ : ∃ TX, TX = strB (Va.mk zl zn zs).text := ⟨_, rfl⟩
    have HTX := hid hTX
    have tl : TX.size ≤ 100000000000 := by rw [hTX]; exact TL.out
    rw [← hTX] at HU
    clear h5 h3 hva hvu hTX
    have p0 := Has.cell X8.out 0
    have p1 := Has.cell X8.out 1
    have p2 := Has.cell X8.out 2
    have r0 := Has.cell Z8.out 0
    have r1 := Has.cell Z8.out 1
    have r2 := Has.cell Z8.out 2
    have t0 := Has.cell U8.out 0
    have t1 := Has.cell U8.out 1
    have t2 := Has.cell U8.out 2
    simp at p0 p1 p2 r0 r1 r2 t0 t1 t2
    go_upto_region 10 with fail
    rw [← hw8]
    have Pw8 := hid (Below.refl w8.heap.size w8)
    have lz : w3.heap.size < w8.heap.size := Has.lt Z8.out
    have l6 : g6 < w8.heap.size := Has.lt X8.out
    obtain ⟨wd, hwd⟩ : ∃ wd, wd = w8.drew := ⟨_, rfl⟩
    have PD : Hid (Below w8.heap.size w8 wd) := by show Below _ _ _; rw [hwd]; exact Pw8.out.drew
    have sd : w8.heap.size ≤ wd.heap.size := PD.out.size
    refine wp_region_l (S := (fun w' => w'.cell? ⟨g6, 0, none⟩ = some (.bool rl) ∧ w'.cell? ⟨g6, 1, none⟩ = some (.int .i64 rn) ∧ w'.cell? ⟨g6, 2, none⟩ = some (.slice rA rlen rc) ∧ w'.cell? ⟨w3.heap.size, 0, none⟩ = some (.bool zl) ∧ w'.cell? ⟨w3.heap.size, 1, none⟩ = some (.int .i64 zn) ∧ w'.cell? ⟨w3.heap.size, 2, none⟩ = some (.slice A3 zs.length cp3))) (Ls := []) (by kernel_rfl) ⟨p0, p1, p2, r0, r1, r2⟩ (fun hHeld => ?_)
    rw [← hwd] at hHeld ⊢
    clear hwd
    refine takeL [] (i := 0) (d := 56) (oi := _) (v := ?_) rfl rfl (by kernel_rfl) (by kernel_rfl) (by kernel_rfl) (by kernel_rfl) (by kernel_rfl) (fun _ _ _ h => h) (Or.inl ⟨by rfl, ?_⟩) (by assumption) ?_
    rotate_left
    · intro wz hSw; (try dsimp only at hSw); go_simp; (try rw [if_neg (by omega)]); (try with_reducible rfl)
    try simp only [Act.put, List.setIfInBounds_toArray, List.set_cons_zero, List.set_cons_succ]
    refine takeL [] (i := 1) (d := 57) (oi := _) (v := ?_) rfl rfl (by kernel_rfl) (by kernel_rfl) (by kernel_rfl) (by kernel_rfl) (by kernel_rfl) (fun _ _ _ h => h) (Or.inl ⟨by rfl, ?_⟩) (by assumption) ?_
    rotate_left
    · intro wz hSw; (try dsimp only at hSw); go_simp; (try rw [if_neg (by omega)]); (try with_reducible rfl)
    try simp only [Act.put, List.setIfInBounds_toArray, List.set_cons_zero, List.set_cons_succ]
    refine takeL [] (i := 2) (d := 58) (oi := _) (v := ?_) rfl rfl (by kernel_rfl) (by kernel_rfl) (by kernel_rfl) (by kernel_rfl) (by kernel_rfl) (fun _ _ _ h => h) (Or.inl ⟨by rfl, ?_⟩) (by assumption) ?_
    rotate_left
    · intro wz hSw; (try dsimp only at hSw); go_simp; (try rw [if_neg (by omega)]); (try with_reducible rfl)
    try simp only [Act.put, List.setIfInBounds_toArray, List.set_cons_zero, List.set_cons_succ]
    refine takeL [] (i := 3) (d := 59) (oi := _) (v := ?_) rfl rfl (by kernel_rfl) (by kernel_rfl) (by kernel_rfl) (by kernel_rfl) (by kernel_rfl) (fun _ _ _ h => h) (Or.inl ⟨by rfl, ?_⟩) (by assumption) ?_
    rotate_left
    · intro wz hSw; (try dsimp only at hSw); go_simp; (try rw [if_neg (by omega)]); (try with_reducible rfl)
    try simp only [Act.put, List.setIfInBounds_toArray, List.set_cons_zero, List.set_cons_succ]
    refine takeL [] (i := 5) (d := 61) (oi := _) (v := ?_) rfl rfl (by kernel_rfl) (by kernel_rfl) (by kernel_rfl) (by kernel_rfl) (by kernel_rfl) (fun _ _ _ h => h) (Or.inl ⟨by rfl, ?_⟩) (by assumption) ?_
    rotate_left
    · intro wz hSw; (try dsimp only at hSw); go_simp; (try rw [if_neg (by omega)]); (try with_reducible rfl)
    try simp only [Act.put, List.setIfInBounds_toArray, List.set_cons_zero, List.set_cons_succ]
    refine nxtL (i := 4) (o := _) (by kernel_rfl) rfl (fun K' hK => ?_)
    go_simp
    go_at_call 21
    refine (TX8.out (.mk zl zn zs) (fun b => b < w8.heap.size) _ _ _ wd PD.out (fun b h => by have := PD.out.size; omega) (VaIn.keep (Same.of_below PD.out fun b h => h) _ R8.out) (by have := SZ.out; omega)).mono ?_
    rintro e wd' ⟨rfl, hb⟩
    rw [← HTX.out]
    have sz := hb.size
    have kg : g6 < wd.heap.size := by omega
    have kz : w3.heap.size < wd.heap.size := by omega
    have hHeld : (fun w' => w'.cell? ⟨g6, 0, none⟩ = some (.bool rl) ∧ w'.cell? ⟨g6, 1, none⟩ = some (.int .i64 rn) ∧ w'.cell? ⟨g6, 2, none⟩ = some (.slice rA rlen rc) ∧ w'.cell? ⟨w3.heap.size, 0, none⟩ = some (.bool zl) ∧ w'.cell? ⟨w3.heap.size, 1, none⟩ = some (.int .i64 zn) ∧ w'.cell? ⟨w3.heap.size, 2, none⟩ = some (.slice A3 zs.length cp3)) wd' := ⟨(hb.cell (p := ⟨g6, 0, none⟩) kg).trans hHeld.1, (hb.cell (p := ⟨g6, 1, none⟩) kg).trans hHeld.2.1, (hb.cell (p := ⟨g6, 2, none⟩) kg).trans hHeld.2.2.1, (hb.cell (p := ⟨w3.heap.size, 0, none⟩) kz).trans hHeld.2.2.2.1, (hb.cell (p := ⟨w3.heap.size, 1, none⟩) kz).trans hHeld.2.2.2.2.1, (hb.cell (p := ⟨w3.heap.size, 2, none⟩) kz).trans hHeld.2.2.2.2.2⟩
    clear kg kz
    have PD := hid (PD.out.trans (hb.mono PD.out.size))
    have sd : w8.heap.size ≤ wd'.heap.size := PD.out.size
    refine hK.out _ _ (Or.inl hHeld) ?_
    clear hK K' hb sz
    try simp only [Act.put, List.setIfInBounds_toArray, List.set_cons_zero, List.set_cons_succ]
    refine nxtL (i := 6) (o := _) (by kernel_rfl) rfl (fun K' hK => ?_)
    go_simp
    go_at_call 21
    refine (TX8.out (.mk zl zn zs) (fun b => b < w8.heap.size) _ _ _ wd' PD.out (fun b h => by have := PD.out.size; omega) (VaIn.keep (Same.of_below PD.out fun b h => h) _ (VaIn.more (fun b h => by omega) _ V8.out)) (by have := SZ.out; omega)).mono ?_
    rintro e wd'' ⟨rfl, hb⟩
    rw [← HTX.out]
    have sz := hb.size
    have kg : g6 < wd'.heap.size := by omega
    have kz : w3.heap.size < wd'.heap.size := by omega
    have hHeld : (fun w' => w'.cell? ⟨g6, 0, none⟩ = some (.bool rl) ∧ w'.cell? ⟨g6, 1, none⟩ = some (.int .i64 rn) ∧ w'.cell? ⟨g6, 2, none⟩ = some (.slice rA rlen rc) ∧ w'.cell? ⟨w3.heap.size, 0, none⟩ = some (.bool zl) ∧ w'.cell? ⟨w3.heap.size, 1, none⟩ = some (.int .i64 zn) ∧ w'.cell? ⟨w3.heap.size, 2, none⟩ = some (.slice A3 zs.length cp3)) wd'' := ⟨(hb.cell (p := ⟨g6, 0, none⟩) kg).trans hHeld.1, (hb.cell (p := ⟨g6, 1, none⟩) kg).trans hHeld.2.1, (hb.cell (p := ⟨g6, 2, none⟩) kg).trans hHeld.2.2.1, (hb.cell (p := ⟨w3.heap.size, 0, none⟩) kz).trans hHeld.2.2.2.1, (hb.cell (p := ⟨w3.heap.size, 1, none⟩) kz).trans hHeld.2.2.2.2.1, (hb.cell (p := ⟨w3.heap.size, 2, none⟩) kz).trans hHeld.2.2.2.2.2⟩
    clear kg kz
    have PD := hid (PD.out.trans (hb.mono PD.out.size))
    have sd : w8.heap.size ≤ wd''.heap.size := PD.out.size
    refine hK.out _ _ (Or.inl hHeld) ?_
    clear hK K' hb sz
    try simp only [Act.put, List.setIfInBounds_toArray, List.set_cons_zero, List.set_cons_succ]
    refine takeL [] (i := 7) (d := 63) (oi := _) (v := ?_) rfl rfl (by kernel_rfl) (by kernel_rfl) (by kernel_rfl) (by kernel_rfl) (by kernel_rfl) (fun _ _ _ h => h) (Or.inl ⟨by rfl, ?_⟩) (by assumption) ?_
    rotate_left
    · intro wz hSw; (try dsimp only at hSw); go_simp; (try rw [if_neg (by omega)]); (try with_reducible rfl)
    try simp only [Act.put, List.setIfInBounds_toArray, List.set_cons_zero, List.set_cons_succ]
    refine takeL [] (i := 8) (d := 64) (oi := _) (v := ?_) rfl rfl (by kernel_rfl) (by kernel_rfl) (by kernel_rfl) (by kernel_rfl) (by kernel_rfl) (fun _ _ _ h => h) (Or.inl ⟨by rfl, ?_⟩) (by assumption) ?_
    rotate_left
    · intro wz hSw; (try dsimp only at hSw); go_simp; (try rw [if_neg (by omega)]); (try with_reducible rfl)
    try simp only [Act.put, List.setIfInBounds_toArray, List.set_cons_zero, List.set_cons_succ]
    refine doneL (by kernel_rfl) ?_ _
    have Q10 := hid PD.out
    have hH10 := hHeld
    obtain ⟨w10, hw10⟩ : ∃ w10, w10 = wd'' := ⟨_, rfl⟩
    subst hw10
    clear p0 p1 p2 r0 r1 r2 hHeld PD
    have r0 := hH10.2.2.2.1
    have r1 := hH10.2.2.2.2.1
    have r2 := hH10.2.2.2.2.2
    have t0' := (Q10.out.cell (p := ⟨w7.heap.size, 0, none⟩) (by omega)).trans t0
    have t1' := (Q10.out.cell (p := ⟨w7.heap.size, 1, none⟩) (by omega)).trans t1
    have t2' := (Q10.out.cell (p := ⟨w7.heap.size, 2, none⟩) (by omega)).trans t2
    clear hH10 t0 t1 t2
    go_upto_region 12 with fail
    have Pw10 := Q10
    obtain ⟨wd, hwd⟩ : ∃ wd, wd = w10.drew := ⟨_, rfl⟩
    have PD : Hid (Below w8.heap.size w8 wd) := by show Below _ _ _; rw [hwd]; exact Pw10.out.drew
    have sd : w8.heap.size ≤ wd.heap.size := PD.out.size
    refine wp_region_l (S := (fun w' => w'.cell? ⟨w7.heap.size, 0, none⟩ = some (.bool ul) ∧ w'.cell? ⟨w7.heap.size, 1, none⟩ = some (.int .i64 un) ∧ w'.cell? ⟨w7.heap.size, 2, none⟩ = some (.slice uA ulen uc) ∧ w'.cell? ⟨w3.heap.size, 0, none⟩ = some (.bool zl) ∧ w'.cell? ⟨w3.heap.size, 1, none⟩ = some (.int .i64 zn) ∧ w'.cell? ⟨w3.heap.size, 2, none⟩ = some (.slice A3 zs.length cp3))) (Ls := []) (by kernel_rfl) ⟨t0', t1', t2', r0, r1, r2⟩ (fun hHeld => ?_)
    rw [← hwd] at hHeld ⊢
    clear hwd
    refine takeL [] (i := 0) (d := 65) (oi := _) (v := ?_) rfl rfl (by kernel_rfl) (by kernel_rfl) (by kernel_rfl) (by kernel_rfl) (by kernel_rfl) (fun _ _ _ h => h) (Or.inl ⟨by rfl, ?_⟩) (by assumption) ?_
    rotate_left
    · intro wz hSw; (try dsimp only at hSw); go_simp; (try rw [if_neg (by omega)]); (try with_reducible rfl)
    try simp only [Act.put, List.setIfInBounds_toArray, List.set_cons_zero, List.set_cons_succ]
    refine takeL [] (i := 1) (d := 66) (oi := _) (v := ?_) rfl rfl (by kernel_rfl) (by kernel_rfl) (by kernel_rfl) (by kernel_rfl) (by kernel_rfl) (fun _ _ _ h => h) (Or.inl ⟨by rfl, ?_⟩) (by assumption) ?_
    rotate_left
    · intro wz hSw; (try dsimp only at hSw); go_simp; (try rw [if_neg (by omega)]); (try with_reducible rfl)
    try simp only [Act.put, List.setIfInBounds_toArray, List.set_cons_zero, List.set_cons_succ]
    refine takeL [] (i := 2) (d := 67) (oi := _) (v := ?_) rfl rfl (by kernel_rfl) (by kernel_rfl) (by kernel_rfl) (by kernel_rfl) (by kernel_rfl) (fun _ _ _ h => h) (Or.inl ⟨by rfl, ?_⟩) (by assumption) ?_
    rotate_left
    · intro wz hSw; (try dsimp only at hSw); go_simp; (try rw [if_neg (by omega)]); (try with_reducible rfl)
    try simp only [Act.put, List.setIfInBounds_toArray, List.set_cons_zero, List.set_cons_succ]
    refine takeL [] (i := 3) (d := 68) (oi := _) (v := ?_) rfl rfl (by kernel_rfl) (by kernel_rfl) (by kernel_rfl) (by kernel_rfl) (by kernel_rfl) (fun _ _ _ h => h) (Or.inl ⟨by rfl, ?_⟩) (by assumption) ?_
    rotate_left
    · intro wz hSw; (try dsimp only at hSw); go_simp; (try rw [if_neg (by omega)]); (try with_reducible rfl)
    try simp only [Act.put, List.setIfInBounds_toArray, List.set_cons_zero, List.set_cons_succ]
    refine takeL [] (i := 5) (d := 70) (oi := _) (v := ?_) rfl rfl (by kernel_rfl) (by kernel_rfl) (by kernel_rfl) (by kernel_rfl) (by kernel_rfl) (fun _ _ _ h => h) (Or.inl ⟨by rfl, ?_⟩) (by assumption) ?_
    rotate_left
    · intro wz hSw; (try dsimp only at hSw); go_simp; (try rw [if_neg (by omega)]); (try with_reducible rfl)
    try simp only [Act.put, List.setIfInBounds_toArray, List.set_cons_zero, List.set_cons_succ]
    refine nxtL (i := 4) (o := _) (by kernel_rfl) rfl (fun K' hK => ?_)
    go_simp
    go_at_call 21
    refine (TX8.out (.mk true 0 [.mk zl zn zs]) (fun b => b < w8.heap.size) _ _ _ wd PD.out (fun b h => by have := PD.out.size; omega) (VaIn.keep (Same.of_below PD.out fun b h => h) _ W8.out) (by rw [Va.size, Vas.size, Vas.size]; have := SZ.out; omega)).mono ?_
    rintro e wd' ⟨rfl, hb⟩
    rw [HU.out]
    have sz := hb.size
    have kg : w7.heap.size < wd.heap.size := by omega
    have kz : w3.heap.size < wd.heap.size := by omega
    have hHeld : (fun w' => w'.cell? ⟨w7.heap.size, 0, none⟩ = some (.bool ul) ∧ w'.cell? ⟨w7.heap.size, 1, none⟩ = some (.int .i64 un) ∧ w'.cell? ⟨w7.heap.size, 2, none⟩ = some (.slice uA ulen uc) ∧ w'.cell? ⟨w3.heap.size, 0, none⟩ = some (.bool zl) ∧ w'.cell? ⟨w3.heap.size, 1, none⟩ = some (.int .i64 zn) ∧ w'.cell? ⟨w3.heap.size, 2, none⟩ = some (.slice A3 zs.length cp3)) wd' := ⟨(hb.cell (p := ⟨w7.heap.size, 0, none⟩) kg).trans hHeld.1, (hb.cell (p := ⟨w7.heap.size, 1, none⟩) kg).trans hHeld.2.1, (hb.cell (p := ⟨w7.heap.size, 2, none⟩) kg).trans hHeld.2.2.1, (hb.cell (p := ⟨w3.heap.size, 0, none⟩) kz).trans hHeld.2.2.2.1, (hb.cell (p := ⟨w3.heap.size, 1, none⟩) kz).trans hHeld.2.2.2.2.1, (hb.cell (p := ⟨w3.heap.size, 2, none⟩) kz).trans hHeld.2.2.2.2.2⟩
    clear kg kz
    have PD := hid (PD.out.trans (hb.mono PD.out.size))
    have sd : w8.heap.size ≤ wd'.heap.size := PD.out.size
    refine hK.out _ _ (Or.inl hHeld) ?_
    clear hK K' hb sz
    try simp only [Act.put, List.setIfInBounds_toArray, List.set_cons_zero, List.set_cons_succ]
    refine nxtL (i := 6) (o := _) (by kernel_rfl) rfl (fun K' hK => ?_)
    go_simp
    go_at_call 21
    refine (TX8.out (.mk zl zn zs) (fun b => b < w8.heap.size) _ _ _ wd' PD.out (fun b h => by have := PD.out.size; omega) (VaIn.keep (Same.of_below PD.out fun b h => h) _ (VaIn.more (fun b h => by omega) _ V8.out)) (by have := SZ.out; omega)).mono ?_
    rintro e wd'' ⟨rfl, hb⟩
    rw [← HTX.out]
    have sz := hb.size
    have kg : w7.heap.size < wd'.heap.size := by omega
    have kz : w3.heap.size < wd'.heap.size := by omega
    have hHeld : (fun w' => w'.cell? ⟨w7.heap.size, 0, none⟩ = some (.bool ul) ∧ w'.cell? ⟨w7.heap.size, 1, none⟩ = some (.int .i64 un) ∧ w'.cell? ⟨w7.heap.size, 2, none⟩ = some (.slice uA ulen uc) ∧ w'.cell? ⟨w3.heap.size, 0, none⟩ = some (.bool zl) ∧ w'.cell? ⟨w3.heap.size, 1, none⟩ = some (.int .i64 zn) ∧ w'.cell? ⟨w3.heap.size, 2, none⟩ = some (.slice A3 zs.length cp3)) wd'' := ⟨(hb.cell (p := ⟨w7.heap.size, 0, none⟩) kg).trans hHeld.1, (hb.cell (p := ⟨w7.heap.size, 1, none⟩) kg).trans hHeld.2.1, (hb.cell (p := ⟨w7.heap.size, 2, none⟩) kg).trans hHeld.2.2.1, (hb.cell (p := ⟨w3.heap.size, 0, none⟩) kz).trans hHeld.2.2.2.1, (hb.cell (p := ⟨w3.heap.size, 1, none⟩) kz).trans hHeld.2.2.2.2.1, (hb.cell (p := ⟨w3.heap.size, 2, none⟩) kz).trans hHeld.2.2.2.2.2⟩
    clear kg kz
    have PD := hid (PD.out.trans (hb.mono PD.out.size))
    have sd : w8.heap.size ≤ wd''.heap.size := PD.out.size
    refine hK.out _ _ (Or.inl hHeld) ?_
    clear hK K' hb sz
    try simp only [Act.put, List.setIfInBounds_toArray, List.set_cons_zero, List.set_cons_succ]
    refine takeL [] (i := 7) (d := 72) (oi := _) (v := ?_) rfl rfl (by kernel_rfl) (by kernel_rfl) (by kernel_rfl) (by kernel_rfl) (by kernel_rfl) (fun _ _ _ h => h) (Or.inl ⟨by rfl, ?_⟩) (by assumption) ?_
    rotate_left
    · intro wz hSw; (try dsimp only at hSw); go_simp; (try rw [if_neg (by omega)]); (try with_reducible rfl)
    try simp only [Act.put, List.setIfInBounds_toArray, List.set_cons_zero, List.set_cons_succ]
    refine takeL [] (i := 8) (d := 73) (oi := _) (v := ?_) rfl rfl (by kernel_rfl) (by kernel_rfl) (by kernel_rfl) (by kernel_rfl) (by kernel_rfl) (fun _ _ _ h => h) (Or.inl ⟨by rfl, ?_⟩) (by assumption) ?_
    rotate_left
    · intro wz hSw; (try dsimp only at hSw); go_simp; (try rw [if_neg (by omega)]); (try with_reducible rfl)
    try simp only [Act.put, List.setIfInBounds_toArray, List.set_cons_zero, List.set_cons_succ]
    refine takeL [] (i := 9) (d := 74) (oi := _) (v := ?_) rfl rfl (by kernel_rfl) (by kernel_rfl) (by kernel_rfl) (by kernel_rfl) (by kernel_rfl) (fun _ _ _ h => h) (Or.inl ⟨by rfl, ?_⟩) (by assumption) ?_
    rotate_left
    · intro wz hSw; (try dsimp only at hSw); go_simp; (try rw [if_neg (by omega)]); (try with_reducible rfl)
    try simp only [Act.put, List.setIfInBounds_toArray, List.set_cons_zero, List.set_cons_succ]
    refine takeL [] (i := 10) (d := 75) (oi := _) (v := ?_) rfl rfl (by kernel_rfl) (by kernel_rfl) (by kernel_rfl) (by kernel_rfl) (by kernel_rfl) (fun _ _ _ h => h) (Or.inl ⟨by rfl, ?_⟩) (by assumption) ?_
    rotate_left
    · intro wz hSw; (try dsimp only at hSw); go_simp; (try rw [if_neg (by omega)]); (try with_reducible rfl)
    try simp only [Act.put, List.setIfInBounds_toArray, List.set_cons_zero, List.set_cons_succ]
    refine doneL (by kernel_rfl) ?_ _
    have B12 := hid (B8.out.trans (PD.out.mono (by have := B8.out.size; omega)))
    obtain ⟨w12, hw12⟩ : ∃ w12, w12 = wd'' := ⟨_, rfl⟩
    subst hw12
    clear r0 r1 r2 t0' t1' t2' hHeld Q10 Pw10
    have SE := hid (serror_any 0 4)
    have ST := hid (stold_any 0 0)
    rw [errV_0] at SE ST
    go_wp2_with fail
    refine (SE.out w12 (HL.out.below B12.out)).mono ?_
    rintro e w13 ⟨rfl, hb⟩
    rw [show decide ((0 : Int) = 4) = false by decide]
    have B13 := hid (B12.out.trans (hb.mono (by have := B12.out.size; omega)))
    clear hb
    go_wp2_with fail
    refine (ST.out w13 (HL.out.below B13.out)).mono ?_
    rintro e w14 ⟨rfl, hb⟩
    simp only [decide_true]
    have B14 := hid (B13.out.trans (hb.mono (by have := B13.out.size; omega)))
    clear hb
    go_wp2_with fail
    go_ret
    exact ⟨rfl, B14.out⟩
  case inr =>
    have hev : ev6 = errV 4 := by have := RV.out; rw [HR5.out, h5] at this; exact this
    have huv : uev = errV 4 := by have := RU.out; rw [h3] at this; exact this
    rw [errV_no (show (4 : Int) ≠ 0 by decide)] at hev huv
    subst hev huv
    have SE := hid (serror_any 4 4)
    have ST := hid (stold_any 4 4)
    rw [errV_no (show (4 : Int) ≠ 0 by decide)] at SE ST
    clear h5 h3
    go_upto_region 10 with fail
    rw [← hw8]
    clear hw8
    go_quiet (fail)
    go_upto_region 12 with fail
    go_quiet (fail)
    go_wp2_with fail
    refine (SE.out _ (HL.out.below (below_drewN B8.out _))).mono ?_
    rintro e w13 ⟨rfl, hb⟩
    simp only [decide_true]
    have B13 := hid ((below_drewN B8.out _).trans (hb.mono (by have := B8.out.size; simp; omega)))
    clear hb
    go_wp2_with fail
    refine (ST.out w13 (HL.out.below B13.out)).mono ?_
    rintro e w14 ⟨rfl, hb⟩
    simp only [decide_true]
    have B14 := hid (B13.out.trans (hb.mono (by have := B13.out.size; omega)))
    clear hb
    go_wp2_with fail
    go_ret
    exact ⟨rfl, B14.out⟩
end Go.Proofs.YtopehfmppfibhaaDoor
