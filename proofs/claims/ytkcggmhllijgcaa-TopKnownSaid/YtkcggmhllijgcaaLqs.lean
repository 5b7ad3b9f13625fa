/- What same and table.state of package learn return; slices.EqualFunc by slices.Equal, and slices.IndexFunc at rows by a function value that may ask. Condition: the contract of the function value that is asked. -/
import Derived.Test.YtkcggmhllijgcaaLqr
namespace Go.Proofs.Ytkcggmhllijgcaa
open Go.RowKit Go.Deep
theorem enter_eq : ∀ (args : Array Value) (w : World), Sem.run Try.prog (callFunc 27 args) w = .ok (.enter 27 args) w := fun _ _ => by kernel_rfl
theorem rows_ext {a b : List (List Int)} (hl : a.length = b.length) (h : ∀ i, i < a.length → rowAt a i = rowAt b i) : a = b := by
  apply List.ext_getElem hl
  intro i h1 h2
  have := h i h1
  unfold rowAt at this
  rw [List.getD_eq_getElem?_getD, List.getD_eq_getElem?_getD, List.getElem?_eq_getElem h1, List.getElem?_eq_getElem h2] at this
  exact this
set_option maxRecDepth 100000 in
set_option maxHeartbeats 2000000 in
theorem eqf_any (a b : List (List Int)) (F : Nat → Prop) (u v : Value) (w : World) (hu : RowsIn F w u a) (hv : RowsIn F w v b) :
    Calls Try.prog 46 #[u, v, .func (Fn.func 27) #[] #[]] w (Quiet w (.bool (decide (a = b)))) := by
  obtain ⟨A, ca, rfl, ha1, ha⟩ := hu
  obtain ⟨B, cb, rfl, hb1, hb⟩ := hv
  have HA := hid ha
  have HB := hid hb
  unfold maxLen at ha1 hb1
  have hcf := enter_eq
  clear ha hb
  go_enter Try.func46, Try.ntmps46
  by_cases hl : a.length = b.length
  · have LL := hid hl
    rw [hl]
    have z1 : ((b.length : Int) != (b.length : Int)) = false := by simp
    clear hl
    go_wp2_with fail
    go_loopw [17] (fun ji wr => ∃ (j q : Nat), j ≤ b.length ∧ ji = .int .i64 j ∧ wr = w.drewN q ∧ Hid (∀ k, k < j → rowAt a k = rowAt b k)) (fun ji _ => b.length - (intOf ji).toNat)
    case atStart => exact ⟨0, 0, Nat.zero_le _, rfl, rfl, fun k hk => by omega⟩
    case round =>
      obtain ⟨j, q, hj, rfl, rfl, hO⟩ := hrel
      by_cases hlt : j < b.length
      · have LA := LL.out
        obtain ⟨g1, o1, rfl, _, h1⟩ := HA.out (by omega)
        obtain ⟨g2, o2, rfl, _, h2⟩ := HB.out (by omega)
        obtain ⟨r1, p1, q1⟩ := h1 j (by omega)
        obtain ⟨r2, p2, q2⟩ := h2 j hlt
        have Q1 := hid q1
        have Q2 := hid q2
        obtain ⟨A1, c1, rfl, _, _, _⟩ := q1
        obtain ⟨A2, c2, rfl, _, _, _⟩ := q2
        have i1 : (j : Int) < (b.length : Int) := by omega
        clear h1 h2 LA
        go_wp2_with fail
        refine (equal_any (rowAt a j) (rowAt b j) F _ _ (w.drewN q) (Q1.out.keep fun _ _ => rfl) (Q2.out.keep fun _ _ => rfl)).mono ?_
        rintro e w2 ⟨rfl, q2, rfl⟩
        rw [World.drewN_drewN]
        obtain ⟨tb, htb⟩ : ∃ tb, tb = decide (rowAt a j = rowAt b j) := ⟨_, rfl⟩
        rw [← htb]
        have TB := hid htb
        clear htb p1 p2
        cases tb with
        | true =>
          have N : Hid (∀ k, k < j + 1 → rowAt a k = rowAt b k) := fun k hk => by
            by_cases e : k = j
            · subst e; exact of_decide_eq_true TB.out.symm
            · exact hO.out k (by omega)
          go_wp2_with fail
          go_roundw
          case rel => exact ⟨j + 1, _, by omega, by go_num, rfl, N⟩
          case measure => simp [intOf]; omega
        | false =>
          have E : Hid (decide (a = b) = false) := decide_eq_false fun e => of_decide_eq_false TB.out.symm (by rw [e])
          go_wp2_with fail
          go_ret
          rw [E.out]
          exact ⟨rfl, _, rfl⟩
      · obtain rfl : j = b.length := by omega
        have E : Hid (decide (a = b) = true) := decide_eq_true (rows_ext LL.out fun i hi => hO.out i (by rw [← LL.out]; exact hi))
        go_wp2_with fail
        go_ret
        rw [E.out]
        exact ⟨rfl, _, rfl⟩
  · have z1 : ((a.length : Int) != (b.length : Int)) = true := by simpa using fun h => hl (by omega)
    have z2 : ¬ (a.length : Int) = (b.length : Int) := by omega
    have E : Hid (decide (a = b) = false) := decide_eq_false fun e => hl (by rw [e])
    clear hl
    go_wp2_with fail
    go_ret
    rw [E.out]
    exact ⟨rfl, 0, rfl⟩
set_option maxRecDepth 100000 in
set_option maxHeartbeats 1000000 in
theorem lsame_any (a b : List (List Int)) (F : Nat → Prop) (u v : Value) (w : World) (hu : RowsIn F w u a) (hv : RowsIn F w v b) :
    Calls Try.prog 44 #[u, v] w (Quiet w (.bool (decide (a = b)))) := by
  have HU := hid hu
  have HV := hid hv
  obtain ⟨A, ca, rfl, _, _⟩ := hu
  obtain ⟨B, cb, rfl, _, _⟩ := hv
  go_enter Try.func44, Try.ntmps44
  go_wp2_with fail
  refine (eqf_any a b F _ _ w HU.out HV.out).mono ?_
  rintro e w2 ⟨rfl, q, rfl⟩
  go_wp2_with fail
  go_ret
  exact ⟨rfl, q, rfl⟩
/-- a function value that is asked of words one by one, and may ask itself -/
structure AskW (fid : FuncId) (caps : Array Value) (P : List Int → Bool) (S : List Int → Prop) (r : Option Nat) (R : Nat → World → Prop) (d : Nat) (I : World → Prop) : Prop where
  call : ∀ (s : Nat) (w : World) (v : Value) (h : List Int), S h → I w → R s w → IntsIn .i64 (Fx r w) w v h →
    Calls Try.prog fid (#[v] ++ caps) w fun e w' => e = .returned (.bool (P h)) ∧ w.grownBy w' r ∧ R (s + d) w'
  keep : ∀ w w', I w → w.grownBy w' r → I w'
  enter : ∀ (args : Array Value) (w : World), Sem.run Try.prog (callFunc fid args) w = .ok (.enter fid args) w
def IxPost (P : List Int → Bool) (l : List (List Int)) (r : Option Nat) (R : Nat → World → Prop) (d s : Nat) (w : World) (e : Ending) (w' : World) : Prop :=
  e = .returned (.int .i64 (rIx P l)) ∧ w.grownBy w' r ∧ ∃ s', s ≤ s' ∧ s' ≤ s + d * l.length ∧ R s' w'
set_option maxRecDepth 100000 in
set_option maxHeartbeats 1000000 in
theorem ixw_any {fid : FuncId} {caps : Array Value} {P : List Int → Bool} {S : List Int → Prop} {r : Option Nat} {R : Nat → World → Prop} {d : Nat} {I : World → Prop} (HA : AskW fid caps P S r R d I) (l : List (List Int)) (v : Value) (s : Nat) (w : World)
    (hv : RowsIn (Fx r w) w v l) (hS : ∀ i, i < l.length → S (rowAt l i)) (hI : I w) (hR : R s w) :
    Calls Try.prog 38 #[v, .func (Fn.func fid) #[] caps] w (IxPost P l r R d s w) := by
  have HAA := hid HA
  have HV := hid hv
  have HS := hid hS
  have HI := hid hI
  have HR := hid hR
  have hcf := HA.enter
  obtain ⟨A, c, rfl, hc, h3⟩ := hv
  have H3 := hid h3
  unfold maxLen at hc
  clear HA hS hI hR h3
  go_enter Try.func38, Try.ntmps38
  go_wp2_with fail
  go_loopw [8] (fun ji wr => ∃ (j s1 : Nat), j ≤ l.length ∧ ji = .int .i64 j ∧ Hid (w.grownBy wr r) ∧ Hid (s ≤ s1 ∧ s1 ≤ s + d * j ∧ R s1 wr) ∧ Hid (∀ k, k < j → P (rowAt l k) = false)) (fun ji _ => l.length - (intOf ji).toNat)
  case atStart => exact ⟨0, s, Nat.zero_le _, rfl, World.grownBy.refl _ _, ⟨Nat.le_refl _, by omega, HR.out⟩, fun k hk => by omega⟩
  case round =>
    obtain ⟨j, s1, hj, rfl, hG, hS1, hO⟩ := hrel
    by_cases hlt : j < l.length
    · obtain ⟨b, o, rfl, hFb, hcc⟩ := H3.out (by omega)
      obtain ⟨x, p1, q1⟩ := hcc j hlt
      have Q1 := hid q1
      have c1 := (World.cell?_of_block (a := ⟨b, o + j, none⟩) (gr_block hG.out hFb.1 hFb.2)).trans p1
      obtain ⟨A1, cp1, rfl, _, _, _⟩ := q1
      have i1 : (j : Int) < (l.length : Int) := by omega
      clear hcc p1
      obtain ⟨wo, hwo⟩ : ∃ wo, wo = wr := ⟨_, rfl⟩
      subst hwo
      go_wp2_with fail
      refine (HAA.out.call s1 wo _ (rowAt l j) (HS.out j hlt) (HAA.out.keep _ _ HI.out hG.out) hS1.out.2.2 (ints_gr Q1.out hG.out)).mono ?_
      rintro e w5 ⟨rfl, hg5, hr5⟩
      have G5 := hid (hG.out.trans hg5)
      have R5 : Hid (s ≤ s1 + d ∧ s1 + d ≤ s + d * (j + 1) ∧ R (s1 + d) w5) := by
        have := hS1.out
        refine ⟨by omega, ?_, hr5⟩
        rw [Nat.mul_add, Nat.mul_one]; omega
      obtain ⟨tb, htb⟩ : ∃ tb, tb = P (rowAt l j) := ⟨_, rfl⟩
      rw [← htb]
      have TB := hid htb
      clear htb c1 hg5 hr5
      cases tb with
      | true =>
        have E : Hid (rIx P l = j) := rIx_at hlt TB.out.symm hO.out
        have D5 : Hid (s1 + d ≤ s + d * l.length) := Nat.le_trans R5.out.2.1 (Nat.add_le_add_left (Nat.mul_le_mul_left d (by omega)) s)
        go_wp2_with fail
        go_ret
        exact ⟨by rw [E.out]; rfl, G5.out, s1 + d, R5.out.1, D5.out, R5.out.2.2⟩
      | false =>
        have N : Hid (∀ k, k < j + 1 → P (rowAt l k) = false) := fun k hk => by
          by_cases e : k = j
          · subst e; exact TB.out.symm
          · exact hO.out k (by omega)
        go_wp2_with fail
        go_roundw
        case rel => exact ⟨j + 1, s1 + d, by omega, by go_num, G5, R5, N⟩
        case measure => simp [intOf]; omega
    · obtain rfl : j = l.length := by omega
      have E : Hid (rIx P l = -1) := rIx_none hO.out
      go_wp2_with fail
      go_ret
      exact ⟨by rw [E.out]; rfl, hG.out, s1, hS1.out⟩
end Go.Proofs.Ytkcggmhllijgcaa
