/- What dd.Min returns, for whatever function value that answers for lists and writes nothing that was there: some of which it is true, none too many. Condition: that function's contract. -/
import Derived.Test.YtkiljnggphlomaaCon
import Derived.Test.YtkiljnggphlomaaDdm
import Derived.Deep.RegionHeld3
import Derived.IntWalk
import Derived.Lib.MinMax
namespace Go.Proofs.Ytkiljnggphlomaa
open Go.RowKit Go.Deep
/-- a function value that answers P of lists in all later worlds -/
def Asks (fid : FuncId) (caps : Array Value) (P : List Int → Bool) (w0 : World) : Prop :=
  ∀ (w : World) (v : Value) (zs : List Int), Below w0.heap.size w0 w → IntsIn .i64 (fun b => b < w.heap.size) w v zs → zs.length ≤ 12 →
    Calls Try.prog fid (#[v] ++ caps) w fun e w' => e = .returned (.bool (P zs)) ∧ Below w.heap.size w w'
def DdPost (P : List Int → Bool) (l : List Int) (w : World) (e : Ending) (w' : World) : Prop :=
  Below w.heap.size w w' ∧ ((12 < l.length ∧ e = .returned (.tuple #[.slice none 0 0, .iface 47 (.int .i64 4)])) ∨
    (l.length ≤ 12 ∧ P l = false ∧ e = .returned (.tuple #[.slice none 0 0, .iface 47 (.int .i64 2)])) ∨
    (∃ r m, l.length ≤ 12 ∧ e = .returned (.tuple #[r, .nilIface]) ∧ DdSpec P l m ∧ IntsIn .i64 (Fresh w w') w' r m))
def lenS : Value → Nat
  | .slice _ n _ => n
  | _ => 0
theorem own_base {w : World} {base base' : Nat} {e : TypeId} {size n : Nat} {v : Value} {xs : List Value} (h : w.ownsRow base e size v n xs) (hb : base' ≤ base) : w.ownsRow base' e size v n xs := by
  refine ⟨h.1, ?_⟩
  rcases h.2 with h | ⟨g, cap, cur, rfl, h1, h2⟩
  · exact .inl h
  · exact .inr ⟨g, cap, cur, rfl, by omega, h2⟩
theorem own_slice {w : World} {base : Nat} {e : TypeId} {size n : Nat} {v : Value} {xs : List Value} (h : w.ownsRow base e size v n xs) : ∃ A c, v = .slice A n c ∧ n ≤ c ∧ c ≤ maxLen := by
  rcases h.2 with ⟨rfl, rfl⟩ | ⟨g, cap, cur, rfl, hb, hh, hc1, hc2, _⟩
  · exact ⟨none, 0, rfl, Nat.le_refl _, by unfold maxLen; omega⟩
  · exact ⟨_, cap, rfl, hc1, hc2⟩
theorem ints_take {F : Nat → Prop} {w : World} {A : Option Addr} {n c i : Nat} {zs : List Int} (h : IntsIn .i64 F w (.slice A n c) zs) (hi : i ≤ n) : IntsIn .i64 F w (.slice A i c) (zs.take i) := by
  obtain ⟨A', c', e, h1, h2, h3⟩ := h
  injection e with e1 e2 e3
  subst e1 e2 e3
  have hl : (zs.take i).length = i := by rw [List.length_take]; omega
  refine ⟨A, c, by rw [hl], by rw [hl]; omega, fun z hz => h2 z (List.mem_of_mem_take hz), fun hn => ?_⟩
  rw [hl] at hn
  obtain ⟨b, o, rfl, hF, hc⟩ := h3 (by omega)
  refine ⟨b, o, rfl, hF, fun j hj => ?_⟩
  rw [hl] at hj
  rw [hc j (by omega), List.getD_eq_getElem?_getD, List.getD_eq_getElem?_getD, List.getElem?_take_of_lt hj]
theorem ints_drop {F : Nat → Prop} {w : World} {b o n c k : Nat} {zs : List Int} (h : IntsIn .i64 F w (.slice (some ⟨b, o, none⟩) n c) zs) (hk : k ≤ n) : IntsIn .i64 F w (.slice (some ⟨b, o + k, none⟩) (n - k) (c - k)) (zs.drop k) := by
  obtain ⟨A', c', e, h1, h2, h3⟩ := h
  injection e with e1 e2 e3
  subst e1 e2 e3
  have hl : (zs.drop k).length = zs.length - k := by rw [List.length_drop]
  refine ⟨_, _, by rw [hl], by rw [hl]; omega, fun z hz => h2 z (List.mem_of_mem_drop hz), fun hn => ?_⟩
  rw [hl] at hn
  obtain ⟨b', o', e, hF, hc⟩ := h3 (by omega)
  injection e with e
  injection e with e1 e2
  subst e1 e2
  refine ⟨b, o + k, rfl, hF, fun j hj => ?_⟩
  rw [hl] at hj
  rw [show o + k + j = o + (k + j) from by omega, hc (k + j) (by omega), List.getD_eq_getElem?_getD, List.getD_eq_getElem?_getD, List.getElem?_drop]
theorem ints_none {F : Nat → Prop} {w : World} {A : Option Addr} {c : Nat} (hc : c ≤ maxLen) : IntsIn .i64 F w (.slice A 0 c) [] := ⟨A, c, rfl, by simp; exact hc, by simp, by simp⟩
/-- what a piece's loop has found -/
def DdIn (P : List Int → Bool) (q : List Int) (s i n8 : Nat) (w : World) (B : Nat) (v : Value) : Prop :=
  (n8 = q.length ∧ (s = 1 → ∀ k, k < i → P (cutL q k 1) = false)) ∨
  (n8 < q.length ∧ ∃ m : List Int, m.length = n8 ∧ m.Sublist q ∧ P m = true ∧ w.ownsRow B 3 1 v n8 (m.map (Value.int .i64)))
set_option maxRecDepth 100000 in
set_option maxHeartbeats 2000000 in
theorem ddmin_any (P : List Int → Bool) (fid : FuncId) (caps : Array Value) (l : List Int) (F : Nat → Prop) (v : Value) (w : World) (hF : ∀ b, F b → b < w.heap.size) (hv : IntsIn .i64 F w v l) (hf : Asks fid caps P w) (hcf : ∀ (args : Array Value) (w : World), Sem.run Try.prog (callFunc fid args) w = .ok (.enter fid args) w) :
    Calls Try.prog 7 #[v, .func (Fn.func fid) #[] caps] w (DdPost P l w) := by
  have HF := hid hF
  have HV := hid hv
  have HA := hid hf
  obtain ⟨A, c, rfl, h1, hwf, _⟩ := hv
  have WF := hid hwf
  unfold maxLen at h1
  clear hF hf hwf
  go_enter Try.func7, Try.ntmps7
  by_cases hl : 12 < l.length
  · go_wp2_with fail
    go_ret2
    exact ⟨Below.refl _ _, .inl ⟨by omega, rfl⟩⟩
  · have hl2 : l.length ≤ 12 := by omega
    have d1 : decide (12 < l.length) = false := by simp; omega
    go_wp2_with fail
    refine (clone_any l F _ w HF.out HV.out (by omega)).mono ?_
    rintro e w1 ⟨r1, rfl, hown, _, hb1⟩
    have B1 := hid hb1
    have O1 := hid hown
    clear hown hb1
    go_wp2_with fail
    refine (HA.out w1 r1 l B1.out ((ints_of_own O1.out WF.out).more fun b h => h.2) (by omega)).mono ?_
    rintro e w2 ⟨rfl, hb2⟩
    have B2 := hid (B1.out.trans (hb2.mono B1.out.size))
    clear hb2
    by_cases hp : P l = true
    · rw [hp]
      have HP := hid hp
      clear hp
      go_wp2_with fail
      refine (clone_any l F _ w2 (fun b hb => by have := HF.out b hb; have := B2.out.size; omega) (HV.out.keep (Same.of_below B2.out HF.out)) (by omega)).mono ?_
      rintro e w3 ⟨r3, rfl, hown, _, hb3⟩
      have B3 := hid (B2.out.trans (hb3.mono B2.out.size))
      have O3 := hid (own_base hown B2.out.size)
      clear hown hb3
      go_wp2_with fail
      obtain ⟨A3, c3, rfl, hc3⟩ := own_slice O3.out
      go_loopw [0, 6] (fun lv nv wr => ∃ (q : List Int) (n : Nat) (A : Option Addr) (c : Nat), lv = .slice A q.length c ∧ nv = .int .i64 n ∧ 2 ≤ n ∧ n ≤ 24 ∧ q.length ≤ 12 ∧ Hid (q.Sublist l ∧ P q = true) ∧ Hid (wr.ownsRow w.heap.size 3 1 (.slice A q.length c) q.length (q.map (Value.int .i64))) ∧ Hid (Below w.heap.size w wr)) (fun lv nv _ => 64 * lenS lv + (40 - (intOf nv).toNat))
      case atStart => exact ⟨l, 2, A3, c3, rfl, rfl, by omega, by omega, hl2, ⟨List.Sublist.refl _, HP.out⟩, O3, B3⟩
      case round =>
        obtain ⟨q, n, A4, c4, rfl, rfl, hn2, hn24, hq12, hQ, hO, hB⟩ := hrel
        obtain ⟨wo, rfl⟩ : ∃ wo : World, wo = wr := ⟨_, rfl⟩
        clear O3 B3
        by_cases hq : 0 < q.length
        · obtain ⟨g, cap, e4, hg1, hg2, hg3, hg4, _⟩ := own_open hO.out hq
          injection e4 with e4 _ e5
          subst e4 e5
          have WQ : Hid (∀ z ∈ q, (Lit.int .i64 z).wf = true) := fun z hz => WF.out z (hQ.out.1.subset hz)
          unfold maxLen at hg4
          obtain ⟨n1, hn1⟩ : ∃ n1, n1 = min n q.length := ⟨_, rfl⟩
          have HN1 := hid hn1
          have m1 : min (n : Int) (q.length : Int) = (n1 : Int) := by omega
          have m2 : 1 ≤ n1 := by omega
          have m3 : n1 ≤ q.length := by omega
          obtain ⟨s, hs⟩ : ∃ s, s = (q.length + n1 - 1) / n1 := ⟨_, rfl⟩
          have HS := hid hs
          have s1 : 1 ≤ s := by rw [hs]; exact (Nat.le_div_iff_mul_le (by omega)).2 (by omega)
          have s2 : s ≤ 24 := by rw [hs]; exact Nat.le_trans (Nat.div_le_self _ _) (by omega)
          have m4 : ((q.length : Int) + n1 - 1) / (n1 : Int) = (s : Int) := by rw [hs, Int.natCast_ediv]; congr 1; omega
          clear hn1 hs
          go_upto_region 8 with fail
          go_cut [6] (fun a wx => a = .int .i64 n1 ∧ wx = wo)
          case first =>
            go_wp2_with fail
            go_meet
            exact ⟨rfl, rfl⟩
          case rest =>
          obtain ⟨rfl, hwc⟩ := hcut
          subst wc
          have m5 : 0 < (n1 : Int) := by omega
          have IQ := hid ((ints_of_own hO.out WQ.out).more (F' := fun b => b < wo.heap.size) fun b h => h.2)
          go_wp2_with fail
          refine (clone_any q (fun b => b < wo.heap.size) _ wo (fun b h => h) IQ.out (by omega)).mono ?_
          rintro e w4 ⟨r4, rfl, hown, _, hb4⟩
          have B4 := hid hb4
          have O4 := hid hown
          obtain ⟨A5, c5, rfl, hc5⟩ := own_slice hown
          unfold maxLen at hc5
          clear hown hb4
          go_wp2_with fail
          go_loopw [8, 9] (fun lv iv wr => ∃ (i n8 c8 : Nat) (A8 : Option Addr), lv = .slice A8 n8 c8 ∧ iv = .int .i64 i ∧ i ≤ 36 ∧ n8 ≤ q.length ∧ Hid (DdIn P q s i n8 wr w.heap.size (.slice A8 n8 c8)) ∧ Hid (Below wo.heap.size wo wr)) (fun _ iv _ => 40 - (intOf iv).toNat)
          case atStart => exact ⟨0, q.length, c5, A5, rfl, rfl, by omega, Nat.le_refl _, .inl ⟨rfl, fun _ k hk => by omega⟩, B4⟩
          case round =>
            obtain ⟨i, n8, c8, A8, rfl, rfl, hi36, hn8, hD, hBi⟩ := hrel
            obtain ⟨wi, rfl⟩ : ∃ wi : World, wi = wr := ⟨_, rfl⟩
            clear O4 B4
            by_cases hgo : i < q.length ∧ n8 = q.length
            · obtain ⟨hiq, rfl⟩ := hgo
              obtain ⟨k, hk⟩ : ∃ k, k = min (i + s) q.length := ⟨_, rfl⟩
              have HK := hid hk
              have k1 : k ≤ q.length := by omega
              have CL : Hid ([q.take i, q.drop k].flatten = cutL q i s) := by show _ = _; unfold cutL; rw [← HK.out]; simp
              have CN : Hid ((cutL q i s).length < q.length) := cut_len hiq s1
              have CW : Hid (∀ z ∈ cutL q i s, (Lit.int .i64 z).wf = true) := fun z hz => WQ.out z ((cut_sub q i s).subset hz)
              have Oi := hid (own_below hO.out hBi.out)
              have Ii := hid ((ints_of_own Oi.out WQ.out).more (F' := fun b => b < wi.heap.size) fun b h => h.2)
              have lBi := hBi.out.size
              have iq2 : (i : Int) < (q.length : Int) := by omega
              clear hk
              go_upto_region 14 with fail
              go_cut [10] (fun rv wx => ∃ (c9 : Nat) (A9 : Option Addr), rv = .slice A9 (cutL q i s).length c9 ∧ (cutL q i s).length ≤ c9 ∧ c9 ≤ 9223372036854775807 ∧ Hid (wx.ownsRow wi.heap.size 3 1 (.slice A9 (cutL q i s).length c9) (cutL q i s).length ((cutL q i s).map (Value.int .i64))) ∧ Hid (Below wi.heap.size wi wx))
              case first =>
                have PRE : Hid (IntsIn .i64 (fun b => b < wi.heap.size) wi (.slice (some ⟨g, 0, none⟩) i c4) (q.take i)) := ints_take Ii.out (by omega)
                have u1 : IntKind.i64.wrap ((i : Int) + (s : Int)) = (i : Int) + s := IntWalk.i64_in _ (by omega)
                have SUF : Hid (IntsIn .i64 (fun b => b < wi.heap.size) wi (.slice (some ⟨g, k, none⟩) (q.length - k) (c4 - k)) (q.drop k)) := by have := ints_drop Ii.out k1; rw [Nat.zero_add] at this; exact this
                have ic : (i : Int) ≤ (c4 : Int) := by omega
                have kc : (k : Int) ≤ (q.length : Int) := by omega
                have u2 : min ((i : Int) + (s : Int)) (q.length : Int) = (k : Int) := by have := HK.out; omega
                by_cases hc : c4 = k
                · have u4 : (c4 = k) = True := by simp [hc]
                  have S2 : Hid (IntsIn .i64 (fun b => b < wi.heap.size) wi (.slice (some ⟨g, 0, none⟩) (q.length - k) (c4 - k)) (q.drop k)) := by
                    have z1 : q.length - k = 0 := by omega
                    have z2 : q.drop k = [] := List.drop_eq_nil_of_le (by omega)
                    show IntsIn _ _ _ _ _
                    rw [z1, z2]
                    exact ints_none (by unfold maxLen; omega)
                  clear hc
                  go_region_held3 (fun w' => w'.heap.size = w'.heap.size) (rfl)
                    (first | (go_at_call 19; refine (concat_any [q.take i, q.drop k] (fun b => b < wi.heap.size + 1) _ _ (fun b h => by simpa using h) (rows2 (b := wi.heap.size) (by omega) (by simp) (by simp) (((PRE.out.keep (w' := (wi.alloc (.cells #[.slice (some ⟨g, 0, none⟩) i c4, .slice (some ⟨g, 0, none⟩) (q.length - k) (c4 - k)] 22)).drew) fun b h => Below.heap_alloc _ _ _ h)).more fun b h => by omega) (((S2.out.keep (w' := (wi.alloc (.cells #[.slice (some ⟨g, 0, none⟩) i c4, .slice (some ⟨g, 0, none⟩) (q.length - k) (c4 - k)] 22)).drew) fun b h => Below.heap_alloc _ _ _ h)).more fun b h => by omega)) (by rw [CL.out]; have := CN.out; omega)).mono ?_; rintro e w5 ⟨r5, rfl, hown5, hb5⟩; rw [CL.out] at hown5; obtain ⟨A9, c9, rfl, hc9⟩ := own_slice hown5; have O5 := hid (own_base (base' := wi.heap.size) hown5 (by simp)); have B5 := hid ((((Below.refl _ _).alloc (Nat.le_refl _) _).drew).trans (hb5.mono (by simp)))))
                  go_wp2_with fail
                  go_meet
                  exact ⟨c9, A9, rfl, hc9.1, by have := hc9.2; unfold maxLen at this; omega, O5, B5⟩
                · have u4 : (c4 = k) = False := by simp [hc]
                  clear hc
                  go_region_held3 (fun w' => w'.heap.size = w'.heap.size) (rfl)
                    (first | (go_at_call 19; refine (concat_any [q.take i, q.drop k] (fun b => b < wi.heap.size + 1) _ _ (fun b h => by simpa using h) (rows2 (b := wi.heap.size) (by omega) (by simp) (by simp) (((PRE.out.keep (w' := (wi.alloc (.cells #[.slice (some ⟨g, 0, none⟩) i c4, .slice (some ⟨g, k, none⟩) (q.length - k) (c4 - k)] 22)).drew) fun b h => Below.heap_alloc _ _ _ h)).more fun b h => by omega) (((SUF.out.keep (w' := (wi.alloc (.cells #[.slice (some ⟨g, 0, none⟩) i c4, .slice (some ⟨g, k, none⟩) (q.length - k) (c4 - k)] 22)).drew) fun b h => Below.heap_alloc _ _ _ h)).more fun b h => by omega)) (by rw [CL.out]; have := CN.out; omega)).mono ?_; rintro e w5 ⟨r5, rfl, hown5, hb5⟩; rw [CL.out] at hown5; obtain ⟨A9, c9, rfl, hc9⟩ := own_slice hown5; have O5 := hid (own_base (base' := wi.heap.size) hown5 (by simp)); have B5 := hid ((((Below.refl _ _).alloc (Nat.le_refl _) _).drew).trans (hb5.mono (by simp)))))
                  go_wp2_with fail
                  go_meet
                  exact ⟨c9, A9, rfl, hc9.1, by have := hc9.2; unfold maxLen at this; omega, O5, B5⟩
              case rest =>
              obtain ⟨c9, A9, rfl, h91, h92, O5, B5⟩ := hcut
              obtain ⟨w5, rfl⟩ : ∃ w5 : World, w5 = wc := ⟨_, rfl⟩
              have CN1 := CN.out
              have I5 := hid ((ints_of_own O5.out CW.out).more (F' := fun b => b < w5.heap.size) fun b h => h.2)
              have B6 := hid (hBi.out.trans (B5.out.mono lBi))
              have lBo := hB.out.size
              have B7 := hid (hB.out.trans (B6.out.mono lBo))
              go_wp2_with fail
              refine (clone_any (cutL q i s) (fun b => b < w5.heap.size) _ w5 (fun b h => h) I5.out (by omega)).mono ?_
              rintro e w6 ⟨r6, rfl, hown6, _, hb6⟩
              have B8 := hid (B7.out.trans (hb6.mono B7.out.size))
              have I6 := hid ((ints_of_own hown6 CW.out).more (F' := fun b => b < w6.heap.size) fun b h => h.2)
              have O6 := hid (own_below O5.out hb6)
              have B9 := hid (B6.out.trans (hb6.mono B6.out.size))
              clear hown6 hb6
              go_wp2_with fail
              refine (HA.out w6 r6 (cutL q i s) B8.out I6.out (by omega)).mono ?_
              rintro e w7 ⟨rfl, hb7⟩
              have B10 := hid (B9.out.trans (hb7.mono B9.out.size))
              have O7 := hid (own_base (base' := w.heap.size) (own_below O6.out hb7) (by omega))
              clear hb7
              by_cases hp : P (cutL q i s) = true
              · rw [hp]
                have HPC := hid hp
                clear hp
                go_wp2_with fail
                go_roundw
                case rel => exact ⟨i + s, (cutL q i s).length, c9, A9, rfl, by go_num, by omega, by omega, .inr ⟨CN.out, cutL q i s, rfl, cut_sub q i s, HPC.out, O7.out⟩, B10⟩
                case measure => simp [intOf]; omega
              · rw [show P (cutL q i s) = false by simpa using hp]
                have HPC := hid (show P (cutL q i s) = false by simpa using hp)
                clear hp
                go_wp2_with fail
                go_roundw
                case rel => exact ⟨i + s, q.length, c8, A8, rfl, by go_num, by omega, Nat.le_refl _, .inl ⟨rfl, fun h1 k' hk' => by
                  rcases hD.out with ⟨_, h⟩ | ⟨h, _⟩
                  · by_cases hki : k' < i
                    · exact h h1 k' hki
                    · obtain rfl : k' = i := by omega
                      have := HPC.out; rw [h1] at this; exact this
                  · omega⟩, B10⟩
                case measure => simp [intOf]; omega
            · have GO := hid hgo
              clear hgo
              go_upto_region 12 with fail
              go_cut [49] (fun c wx => c = .bool false ∧ wx = wi)
              case first =>
                by_cases hi1 : i < q.length
                · have e1 : decide ((i : Int) < (q.length : Int)) = true := by simp; omega
                  have hne : n8 ≠ q.length := fun h => GO.out ⟨hi1, h⟩
                  have e2 : ((n8 : Int) == (q.length : Int)) = false := by simp; omega
                  have e3 : (n8 == q.length) = false := by simp; omega
                  go_wp2_with fail
                  go_meet
                  exact ⟨rfl, rfl⟩
                · have e1 : decide ((i : Int) < (q.length : Int)) = false := by simp; omega
                  have e2 : decide (i < q.length) = false := by simp; omega
                  go_wp2_with fail
                  go_meet
                  exact ⟨rfl, rfl⟩
              case rest =>
              obtain ⟨rfl, hwc⟩ := hcut
              subst wc
              have Oq := hid (own_below hO.out hBi.out)
              have Bq := hid (hB.out.trans (hBi.out.mono hB.out.size))
              by_cases h8 : n8 < q.length
              · have MM : Hid (∃ m : List Int, m.length = n8 ∧ m.Sublist q ∧ P m = true ∧ wi.ownsRow w.heap.size 3 1 (.slice A8 n8 c8) n8 (m.map (Value.int .i64))) := by
                  rcases hD.out with ⟨h, _⟩ | ⟨_, h⟩
                  · omega
                  · exact h
                have m6 : max ((n1 : Int) - 1) 2 = ((max (n1 - 1) 2 : Nat) : Int) := by omega
                go_wp2_with fail
                go_roundw
                case rel =>
                  obtain ⟨m, e1, e2, e3, e4⟩ := MM.out
                  exact ⟨m, max (n1 - 1) 2, A8, c8, by rw [e1], by go_num, by omega, by omega, by omega, ⟨e2.trans hQ.out.1, e3⟩, by show World.ownsRow _ _ _ _ _ _ _; rw [e1]; exact e4, Bq⟩
                case measure => simp [intOf, lenS]; omega
              · obtain rfl : n8 = q.length := by omega
                have d8 : decide ((q.length : Int) < (q.length : Int)) = false := by simp
                by_cases hnq : n1 = q.length
                · have S1 : Hid (s = 1) := by show s = 1; rw [HS.out, hnq]; exact Nat.div_eq_of_lt_le (by omega) (by omega)
                  have e1 : ((n1 : Int) == (q.length : Int)) = true := by simp [hnq]
                  have e2 : (n1 == q.length) = true := by simp [hnq]
                  have SP : Hid (DdSpec P l q) := ⟨hQ.out.1, hQ.out.2, fun k' hk' => by
                    rcases hD.out with ⟨_, h⟩ | ⟨h, _⟩
                    · have : ¬ i < q.length := fun h => GO.out ⟨h, rfl⟩
                      exact h S1.out k' (by omega)
                    · omega⟩
                  clear hnq
                  go_wp2_with fail
                  go_ret2
                  exact ⟨Bq.out, .inr (.inr ⟨_, q, hl2, rfl, SP.out, (ints_of_own Oq.out WQ.out)⟩)⟩
                · have e1 : ((n1 : Int) == (q.length : Int)) = false := by simp; omega
                  have e2 : (n1 == q.length) = false := by simp; omega
                  have HNQ := hid hnq
                  clear hnq
                  go_wp2_with fail
                  go_roundw
                  case rel => exact ⟨q, n1 * 2, _, c4, rfl, by go_num, by omega, by have := HNQ.out; omega, hq12, hQ, Oq, Bq⟩
                  case measure => have := HNQ.out; have := HN1.out; simp [intOf, lenS]; omega
        · have q0 : q = [] := List.eq_nil_of_length_eq_zero (by omega)
          have d9 : decide ((0 : Int) < (q.length : Int)) = false := by simp; omega
          have d10 : decide (0 < q.length) = false := by simp; omega
          have SP : Hid (DdSpec P l q) := ⟨hQ.out.1, hQ.out.2, fun k' hk' => by omega⟩
          have WQ : Hid (∀ z ∈ q, (Lit.int .i64 z).wf = true) := fun z hz => WF.out z (hQ.out.1.subset hz)
          clear q0
          go_wp2_with fail
          go_ret2
          exact ⟨hB.out, .inr (.inr ⟨_, q, hl2, rfl, SP.out, (ints_of_own hO.out WQ.out)⟩)⟩
    · rw [show P l = false by simpa using hp]
      have HP := hid (show P l = false by simpa using hp)
      clear hp
      go_wp2_with fail
      go_ret2
      exact ⟨B2.out, .inr (.inl ⟨hl2, HP.out, rfl⟩)⟩
end Go.Proofs.Ytkiljnggphlomaa
