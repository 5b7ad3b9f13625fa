/- What cond.Tests returns. No conditions. -/
import Derived.Test.YtmhledlcfbjfkaaDoorCdi
import Derived.Test.YtmhledlcfbjfkaaDoorCmp
import Derived.Test.YtmhledlcfbjfkaaDoorCon
import Derived.Deep.RegionHeld3
import Derived.Lib.MinMax
import Derived.IntWalk
namespace Go.Proofs.YtmhledlcfbjfkaaDoor
open Go.RowKit Go.Deep Go.Lib
theorem own_baseC {w : World} {base base' : Nat} {e : TypeId} {size n : Nat} {v : Value} {xs : List Value} (h : w.ownsRow base e size v n xs) (hb : base' ≤ base) : w.ownsRow base' e size v n xs := by
  refine ⟨h.1, ?_⟩
  rcases h.2 with h | ⟨g, cap, cur, rfl, h1, h2⟩
  · exact .inl h
  · exact .inr ⟨g, cap, cur, rfl, by omega, h2⟩
theorem own_sliceC {w : World} {base : Nat} {e : TypeId} {size n : Nat} {v : Value} {xs : List Value} (h : w.ownsRow base e size v n xs) : ∃ A c, v = .slice A n c ∧ n ≤ c ∧ c ≤ maxLen := by
  rcases h.2 with ⟨rfl, rfl⟩ | ⟨g, cap, cur, rfl, hb, hh, hc1, hc2, _⟩
  · exact ⟨none, 0, rfl, Nat.le_refl _, by unfold maxLen; omega⟩
  · exact ⟨_, cap, rfl, hc1, hc2⟩
theorem ints_takeC {F : Nat → Prop} {w : World} {A : Option Addr} {n c i : Nat} {zs : List Int} (h : IntsIn .i64 F w (.slice A n c) zs) (hi : i ≤ n) : IntsIn .i64 F w (.slice A i c) (zs.take i) := by
  obtain ⟨A', c', e, h1, h2, h3⟩ := h
  injection e with e1 e2 e3
  subst e1 e2 e3
  have hl : (zs.take i).length = i := by rw [List.length_take]; omega
  refine ⟨A, c, by rw [hl], by rw [hl]; omega, fun z hz => h2 z (List.mem_of_mem_take hz), fun hn => ?_⟩
  rw [hl] at hn
  obtain ⟨b, o, rfl, hF, hc⟩ := h3 (by omega)
  refine ⟨b, o, rfl, hF, fun j hj => ?_⟩
  rw [hl] at hj
  rw [hc j (by omega), List.getD_eq_getElem?_getD, List.getD_eq_getElem?_getD, List.getElem?_take_of_lt hj]
theorem ints_dropC {F : Nat → Prop} {w : World} {b o n c k : Nat} {zs : List Int} (h : IntsIn .i64 F w (.slice (some ⟨b, o, none⟩) n c) zs) (hk : k ≤ n) : IntsIn .i64 F w (.slice (some ⟨b, o + k, none⟩) (n - k) (c - k)) (zs.drop k) := by
  obtain ⟨A', c', e, h1, h2, h3⟩ := h
  injection e with e1 e2 e3
  subst e1 e2 e3
  have hl : (zs.drop k).length = zs.length - k := by rw [List.length_drop]
  refine ⟨_, _, by rw [hl], by rw [hl]; omega, fun z hz => h2 z (List.mem_of_mem_drop hz), fun hn => ?_⟩
  rw [hl] at hn
  obtain ⟨b', o', e, hF, hc⟩ := h3 (by omega)
  injection e with e
  injection e with e1 e2
  subst e1 e2
  refine ⟨b, o + k, rfl, hF, fun j hj => ?_⟩
  rw [hl] at hj
  rw [Nat.add_assoc, hc (k + j) (by omega), List.getD_eq_getElem?_getD, List.getD_eq_getElem?_getD, List.getElem?_drop]
theorem cells_two (w : World) (a b : Value) (t : TypeId) {g : Nat} (hg : g = w.heap.size) : CellsIn (fun b => b = g) (w.alloc (.cells #[a, b] t)) 1 (.slice (some ⟨g, 0, none⟩) 2 2) 2 [a, b] := by
  subst hg
  exact ⟨_, 2, rfl, rfl, fun _ => ⟨w.heap.size, 0, rfl, rfl, fun j u hj => by
    match j, hj with
    | 0, hj => simp at hj; subst hj; simp
    | 1, hj => simp at hj; subst hj; simp⟩⟩
theorem ints_noneC {F : Nat → Prop} {w : World} {A : Option Addr} {c : Nat} (hc : c ≤ maxLen) : IntsIn .i64 F w (.slice A 0 c) [] := ⟨A, c, rfl, ⟨by simp, hc⟩, (fun z hz => by cases hz), fun h => by simp at h⟩
theorem wrap_incC {m k : Nat} (h : k = m + 1) (hk : k ≤ 100) : wrap64 ((m : Int) + 1) = (k : Int) := by subst h; unfold wrap64; omega
theorem wrap_incD {m k : Nat} (h : k = m + 1) (hk : k ≤ 100) : IntKind.i64.wrap ((m : Int) + 1) = (k : Int) := by
  rw [IntWalk.i64_in _ (by omega)]; omega
theorem out0_len (f : List Bool) : ∀ n, (out0 f n).length ≤ 2 * n
  | 0 => by rw [out0]; simp
  | n + 1 => by
    rw [out0, List.length_append]
    have := out0_len f n
    split <;> simp <;> omega
theorem wf_inR {n : Nat} (hn : n ≤ 6) {T : List Int} (h : InR n T) : ∀ z ∈ T, (Lit.int .i64 z).wf = true := fun z hz => by
  have := h z hz
  have := pow_le6 hn
  exact WalkArith.wf_i64 (by omega)
def testsR (n : Int) (f : List Bool) : List Int := if chkC n f = 0 then testsF n.toNat f else []
def TestsPost (n : Int) (f : List Bool) (w : World) (e : Ending) (w' : World) : Prop := ∃ v, e = .returned (.tuple #[v, errV (chkC n f)]) ∧ w'.ownsRow w.heap.size 3 1 v (testsR n f).length ((testsR n f).map (Value.int .i64)) ∧ Below w.heap.size w w'
set_option maxRecDepth 100000 in
set_option maxHeartbeats 4000000 in
theorem tests_good (N : Nat) (f : List Bool) (F : Nat → Prop) (fv : Value) (w : World) (hF : ∀ b, F b → b < w.heap.size) (hf : BoolsIn F w fv f) (h1N : 1 ≤ N) (hN : N ≤ 6) (hl : f.length = 2 ^ N) :
    Calls Tryd.prog 5 #[.int .i64 N, fv] w fun e w' => ∃ v, e = .returned (.tuple #[v, .nilIface]) ∧ w'.ownsRow w.heap.size 3 1 v (testsF N f).length ((testsF N f).map (Value.int .i64)) ∧ Below w.heap.size w w' := by
  have HF := hid hF
  have FV := hid hf
  have CK := hid (ccheck_any N f F fv w hf)
  have C0 := hid (chkC_of h1N hN hl)
  have HL := hid hl
  obtain ⟨Af, cf, rfl, _, _, _⟩ := hf
  obtain ⟨i0, hi0, hz0, hz1, hz2⟩ := info_parts infoInt
  clear hF hl
  go_enter Tryd.func5, Tryd.ntmps5
  go_wp2_with fail
  refine CK.out.mono ?_
  rintro e w1 ⟨rfl, rfl⟩
  rw [C0.out, errV_0]
  go_wp2_with fail
  go_loopw [7, 21] (fun ov iv wr => ∃ (i : Nat) (A : Option Addr) (c : Nat), i ≤ N ∧ ov = .slice A (out0 f i).length c ∧ iv = .int .i64 i ∧ Hid (wr.ownsRow w1.heap.size 3 1 (.slice A (out0 f i).length c) (out0 f i).length ((out0 f i).map (Value.int .i64))) ∧ Hid (Below w1.heap.size w1 wr)) (fun _ iv _ => N - (intOf iv).toNat)
  case atStart => exact ⟨0, none, 0, Nat.zero_le _, rfl, rfl, World.ownsRow_nil _ _ _ _, Below.refl _ _⟩
  case round =>
    obtain ⟨i, A, c, hi, rfl, rfl, hO, hB⟩ := hrel
    obtain ⟨wo, rfl⟩ : ∃ wo : World, wo = wr := ⟨_, rfl⟩
    have lB := hB.out.size
    by_cases hlt : i < N
    · have i1 : (i : Int) < (N : Int) := by omega
      have ol := out0_len f i
      have PO := hid (pair_ok N i f F (.slice Af f.length cf) wo (fun b hb => by have := HF.out b hb; omega) (FV.out.keep (Same.of_below hB.out HF.out)) h1N hN HL.out hlt)
      cases ho : pairF f i with
      | none =>
        have R2 : Hid (pairR f i = .tuple #[.int .i64 0, .int .i64 0, .iface 41 (.int .i64 2)]) := by show _ = _; unfold pairR; rw [ho]
        have OS : Hid (out0 f (i + 1) = out0 f i) := by show _ = _; rw [out0, ho]; simp
        clear ho
        go_wp2_with fail
        refine PO.out.mono ?_
        rintro e w2 ⟨rfl, hb⟩
        rw [R2.out]
        have O2 := hid (own_below hO.out hb)
        have B2 := hid (hB.out.trans (hb.mono lB))
        clear hb
        go_wp2_with fail
        go_roundw
        case rel => exact ⟨i + 1, A, c, by omega, by rw [OS.out], by go_num, by rw [OS.out]; exact O2, B2⟩
        case measure => simp [intOf]; omega
      | some t =>
        have R2 : Hid (pairR f i = .tuple #[.int .i64 (t : Int), .int .i64 ((up t i : Nat) : Int), .nilIface]) := by show _ = _; unfold pairR; rw [ho]
        have OS : Hid (out0 f (i + 1) = out0 f i ++ [(t : Int), ((up t i : Nat) : Int)]) := by show _ = _; rw [out0, ho]
        clear ho
        generalize up t i = u at *
        go_wp2_with fail
        refine PO.out.mono ?_
        rintro e w2 ⟨rfl, hb⟩
        rw [R2.out]
        have O2 := hid (own_below hO.out hb)
        have B2 := hid (hB.out.trans (hb.mono lB))
        have AO := hid (O2.out.alloc (.cells #[.int .i64 (t : Int), .int .i64 (u : Int)] 3))
        have CO := hid (cells_two w2 (.int .i64 (t : Int)) (.int .i64 (u : Int)) 3 rfl)
        have s2 := B2.out.size
        obtain ⟨L, hL⟩ : ∃ L, L = out0 f i := ⟨_, rfl⟩
        have HLL := hid hL
        rw [← hL] at AO ol ⊢
        clear hb hL hO O2
        go_wp2_with (at_builtin; refine wpList_app _ rfl (.tmp 34) (.tmp 37) 23 rfl w1.heap.size 3 i0 (.int .i64 0) 1 8 Tryd.underlying23 hi0 hz0 hz1 hz2 rfl (by decide) _ _ _ rfl AO.out _ _ 2 _ rfl CO.out (by intro u hu; simp at hu; rcases hu with rfl | rfl <;> rfl) (by unfold maxLen; omega) (by omega) (by simp; omega) ?_; intro v3 w3 hown hgrow hat; obtain ⟨A3, c3, rfl, _⟩ := own_sliceC hown; have R1 := hid hown; have G1 := hid hgrow; clear hown hgrow hat)
        have B3 : Hid (Below w1.heap.size w1 w3) := (B2.out.alloc s2 (.cells #[.int .i64 (t : Int), .int .i64 (u : Int)] 3)).grown G1.out (by simp; omega) (own_ge AO.out)
        have E : (out0 f (i + 1)).length = L.length + 2 := by rw [OS.out, ← HLL.out]; simp
        have EM : (out0 f (i + 1)).map (Value.int .i64) = L.map (Value.int .i64) ++ [.int .i64 (t : Int), .int .i64 (u : Int)] := by rw [OS.out, ← HLL.out]; simp
        have R3 : Hid (w3.ownsRow w1.heap.size 3 1 (.slice A3 (out0 f (i + 1)).length c3) (out0 f (i + 1)).length ((out0 f (i + 1)).map (Value.int .i64))) := by
          show World.ownsRow _ _ _ _ _ _ _
          rw [E, EM]; exact R1.out
        have HE := hid E
        clear E EM R1 G1 AO CO
        go_roundw
        case rel => exact ⟨i + 1, A3, c3, by omega, by rw [HE.out], by go_num, R3, B3⟩
        case measure => simp [intOf]; omega
    · obtain rfl : i = N := by omega
      have ol := out0_len f i
      obtain ⟨L, hL⟩ : ∃ L, L = out0 f i := ⟨_, rfl⟩
      have HLL := hid hL
      have SO := hid (start_ok hN HL.out)
      rw [← hL] at hO ol SO ⊢
      clear hL
      go_wp2_with fail
      refine (sort_any L L.length w1.heap.size _ wo rfl hO.out (by omega)).mono ?_
      rintro e w2 ⟨rfl, o2, g2⟩
      have B2 := hid (hB.out.grown g2 lB (own_ge hO.out))
      have O2 := hid o2
      have sl := srt_len L
      clear o2 g2
      go_wp2_with fail
      refine (comp_any (srt L) L.length w1.heap.size _ w2 sl O2.out (by omega)).mono ?_
      rintro e w3 ⟨r3, rfl, o3, g3⟩
      have B3 := hid (B2.out.grown g3 B2.out.size (own_ge O2.out))
      obtain ⟨T, hT⟩ : ∃ T, T = compact (srt L) := ⟨_, rfl⟩
      have cl := compact_len (srt L)
      rw [sl] at cl
      have TF : Hid (testsF i f = dropF i f T.length T) := by show _ = _; unfold testsF; rw [← HLL.out, ← hT]
      rw [← hT] at o3 SO cl
      obtain ⟨A3, c3, rfl, _⟩ := own_sliceC o3
      have O3 := hid o3
      have IR := hid SO.out.inR
      have wl : wrap64 ((T.length : Int) - 1) = (T.length : Int) - 1 := by unfold wrap64; omega
      clear hT o3 g3 O2 sl
      go_wp2_with fail
      go_loopw [7, 12] (fun ov iv wr => ∃ (k : Nat) (T : List Int) (A : Option Addr) (c : Nat), k ≤ T.length ∧ ov = .slice A T.length c ∧ iv = .int .i64 ((k : Int) - 1) ∧ T.length ≤ 12 ∧ Hid (testsF i f = dropF i f k T) ∧ Hid (InR i T) ∧ Hid (wr.ownsRow w1.heap.size 3 1 (.slice A T.length c) T.length (T.map (Value.int .i64))) ∧ Hid (Below w1.heap.size w1 wr)) (fun _ iv _ => (intOf iv + 1).toNat)
      case atStart => exact ⟨T.length, T, A3, c3, Nat.le_refl _, rfl, rfl, by omega, TF, IR, O3, B3⟩
      case round =>
        clear TF IR O3 B3 cl wl SO HLL hO hB
        obtain ⟨k, q, A, c4, hk, rfl, rfl, hq12, hTF, hIR, hOw, hBw⟩ := hrel
        obtain ⟨wi, rfl⟩ : ∃ wi : World, wi = wr := ⟨_, rfl⟩
        have lBi := hBw.out.size
        match k, hk, hTF with
        | 0, _, hTF =>
          have E : Hid (testsF i f = q) := by show _ = _; rw [hTF.out, dropF]
          have ez : ((0 : Nat) : Int) - 1 = -1 := by omega
          rw [ez]
          clear ez
          go_wp2_with fail
          go_ret2
          exact ⟨_, rfl, by rw [E.out]; exact hOw.out, hBw.out⟩
        | m + 1, hk, hTF =>
          have em : ((m + 1 : Nat) : Int) - 1 = (m : Int) := by omega
          rw [em]
          clear em
          have DF : Hid (dropF i f (m + 1) q = if cov i f (q.take m ++ q.drop (m + 1)) then dropF i f m (q.take m ++ q.drop (m + 1)) else dropF i f m q) := by show _ = _; rw [dropF]
          obtain ⟨g, cap, eq, hg1, hg2, hcc, hcm, hcell⟩ := own_open hOw.out (by omega)
          have c0 := hcell 0 (by omega)
          obtain ⟨u0, hu0⟩ : ∃ u0, (q.map (Value.int .i64))[0]? = some u0 := ⟨_, List.getElem?_eq_getElem (by simp; omega)⟩
          rw [hu0] at c0
          clear hu0 hcell
          injection eq with eq _ ec
          subst eq ec
          obtain ⟨Ls, hLs⟩ : ∃ Ls, Ls = q.take m ++ q.drop (m + 1) := ⟨_, rfl⟩
          have CL : Hid ([q.take m, q.drop (m + 1)].flatten = Ls) := by show _ = _; rw [hLs]; simp
          have CN : Ls.length + 1 = q.length := by rw [hLs, List.length_append, List.length_take, List.length_drop]; omega
          have CNl : Ls.length ≤ 12 := by omega
          have CNm : m ≤ Ls.length := by omega
          have IL : Hid (InR i Ls) := fun t ht => by
            rw [hLs] at ht
            rcases List.mem_append.1 ht with h | h
            · exact hIR.out t (List.mem_of_mem_take h)
            · exact hIR.out t (List.mem_of_mem_drop h)
          rw [← hLs] at DF
          have Ii := hid ((ints_of_own hOw.out (wf_inR hN hIR.out)).more (F' := fun b => b < wi.heap.size) fun b h => h.2)
          have im0 : (0 : Int) ≤ (m : Int) := by omega
          have HKQ := hid hk
          have HCC := hid hcc
          have HCN := hid CN
          have HCM := hid hcm
          clear hLs CN hcm
          go_upto_region 17 with fail
          go_cut [13] (fun rv wx => ∃ (c9 : Nat) (A9 : Option Addr), rv = .slice A9 Ls.length c9 ∧ Ls.length ≤ c9 ∧ c9 ≤ 9223372036854775807 ∧ Hid (wx.ownsRow wi.heap.size 3 1 (.slice A9 Ls.length c9) Ls.length (Ls.map (Value.int .i64))) ∧ Hid (Below wi.heap.size wi wx))
          case first =>
            have PRE : Hid (IntsIn .i64 (fun b => b < wi.heap.size) wi (.slice (some ⟨g, 0, none⟩) m c4) (q.take m)) := ints_takeC Ii.out (by omega)
            have SUF : Hid (IntsIn .i64 (fun b => b < wi.heap.size) wi (.slice (some ⟨g, m + 1, none⟩) (q.length - (m + 1)) (c4 - (m + 1))) (q.drop (m + 1))) := by have := ints_dropC Ii.out hk; rw [Nat.zero_add] at this; exact this
            have ic : (m : Int) ≤ (c4 : Int) := by omega
            obtain ⟨k, hk2⟩ : ∃ k, k = m + 1 := ⟨_, rfl⟩
            rw [← hk2] at SUF CL
            have kc : (k : Int) ≤ (q.length : Int) := by omega
            have kc2 : (k : Int) ≤ (c4 : Int) := by omega
            have kq : k ≤ q.length := by rw [hk2]; exact hk
            have u1 := wrap_incC hk2 (Nat.le_trans kq (Nat.le_trans hq12 (by decide)))
            have u2 := wrap_incD hk2 (Nat.le_trans kq (Nat.le_trans hq12 (by decide)))
            have CLL : Hid ([q.take m, q.drop k].flatten.length * 8 ≤ 140737488355328) := by show _ ≤ _; rw [CL.out]; omega
            clear hk hk2 CNl CNm hq12 im0
            have NE := World.new_ne wi ⟨g, 0, none⟩ c0
            by_cases hc : c4 = k
            · have u4 : (c4 = k) = True := by simp [hc]
              have S2 : Hid (IntsIn .i64 (fun b => b < wi.heap.size) wi (.slice (some ⟨g, 0, none⟩) (q.length - k) (c4 - k)) (q.drop k)) := by
                have z0 : q.length ≤ k := by rw [← hc]; exact HCC.out
                have z1 : q.length - k = 0 := Nat.sub_eq_zero_of_le z0
                have z2 : q.drop k = [] := List.drop_eq_nil_of_le z0
                show IntsIn _ _ _ _ _
                rw [z1, z2]
                exact ints_noneC (Nat.le_trans (Nat.sub_le _ _) HCM.out)
              clear hc
              go_region_held3 (fun w' => w'.cell? ⟨g, 0, none⟩ = some u0) (first | go_keep | exact k0)
                (first | (go_at_call 14; refine (concat_any [q.take m, q.drop k] (fun b => b < wi.heap.size + 1) _ _ (fun b h => by simpa using h) (rows2 (b := wi.heap.size) (by omega) (by simp) (by simp) (((PRE.out.keep (w' := (wi.alloc (.cells #[.slice (some ⟨g, 0, none⟩) m c4, .slice (some ⟨g, 0, none⟩) (q.length - k) (c4 - k)] 23)).drew) fun b h => Below.heap_alloc _ _ _ h)).more fun b h => by omega) (((S2.out.keep (w' := (wi.alloc (.cells #[.slice (some ⟨g, 0, none⟩) m c4, .slice (some ⟨g, 0, none⟩) (q.length - k) (c4 - k)] 23)).drew) fun b h => Below.heap_alloc _ _ _ h)).more fun b h => by omega)) CLL.out).mono ?_; rintro e w5 ⟨r5, rfl, hown5, hb5⟩; rw [CL.out] at hown5; obtain ⟨A9, c9, rfl, hc9⟩ := own_sliceC hown5; have O5 := hid (own_baseC (base' := wi.heap.size) hown5 (by simp)); have B5 : Hid (Below wi.heap.size wi w5) := ((Below.refl wi.heap.size wi).alloc (Nat.le_refl _) _).drew.trans (hb5.mono (by simp)); have k0 : w5.cell? ⟨g, 0, none⟩ = some u0 := (B5.out.cell (p := ⟨g, 0, none⟩) hg2).trans c0; clear hown5 hb5))
              go_wp2_with fail
              go_meet
              exact ⟨c9, A9, rfl, hc9.1, by have := hc9.2; unfold maxLen at this; omega, O5, B5⟩
            · have u4 : (c4 = k) = False := by simp [hc]
              clear hc
              go_region_held3 (fun w' => w'.cell? ⟨g, 0, none⟩ = some u0) (first | go_keep | exact k0)
                (first | (go_at_call 14; refine (concat_any [q.take m, q.drop k] (fun b => b < wi.heap.size + 1) _ _ (fun b h => by simpa using h) (rows2 (b := wi.heap.size) (by omega) (by simp) (by simp) (((PRE.out.keep (w' := (wi.alloc (.cells #[.slice (some ⟨g, 0, none⟩) m c4, .slice (some ⟨g, k, none⟩) (q.length - k) (c4 - k)] 23)).drew) fun b h => Below.heap_alloc _ _ _ h)).more fun b h => by omega) (((SUF.out.keep (w' := (wi.alloc (.cells #[.slice (some ⟨g, 0, none⟩) m c4, .slice (some ⟨g, k, none⟩) (q.length - k) (c4 - k)] 23)).drew) fun b h => Below.heap_alloc _ _ _ h)).more fun b h => by omega)) CLL.out).mono ?_; rintro e w5 ⟨r5, rfl, hown5, hb5⟩; rw [CL.out] at hown5; obtain ⟨A9, c9, rfl, hc9⟩ := own_sliceC hown5; have O5 := hid (own_baseC (base' := wi.heap.size) hown5 (by simp)); have B5 : Hid (Below wi.heap.size wi w5) := ((Below.refl wi.heap.size wi).alloc (Nat.le_refl _) _).drew.trans (hb5.mono (by simp)); have k0 : w5.cell? ⟨g, 0, none⟩ = some u0 := (B5.out.cell (p := ⟨g, 0, none⟩) hg2).trans c0; clear hown5 hb5))
              go_wp2_with fail
              go_meet
              exact ⟨c9, A9, rfl, hc9.1, by have := hc9.2; unfold maxLen at this; omega, O5, B5⟩
          case rest =>
          obtain ⟨c9, A9, rfl, h91, h92, O5, B5⟩ := hcut
          obtain ⟨w5, rfl⟩ : ∃ w5 : World, w5 = wc := ⟨_, rfl⟩
          have s5 := B5.out.size
          have B6 := hid (hBw.out.trans (B5.out.mono lBi))
          have I5 := hid ((ints_of_own O5.out (wf_inR hN IL.out)).more (F' := fun b => b < w5.heap.size) fun b h => h.2)
          go_wp2_with fail
          refine (covers_ok i f Ls (fun b => b < w5.heap.size) _ _ w5 (fun b h => h) ((FV.out.keep fun b hb => B6.out.block b (HF.out b hb)).more fun b hb => by have := HF.out b hb; omega) I5.out h1N hN HL.out IL.out).mono ?_
          rintro e w6 ⟨rfl, hb6⟩
          have B7 := hid (B6.out.trans (hb6.mono B6.out.size))
          have O6 := hid (own_baseC (base' := w1.heap.size) (own_below O5.out hb6) lBi)
          have O7 := hid (own_below (own_below hOw.out (B5.out)) (hb6.mono (by omega)))
          clear hb6
          cases hcv : cov i f Ls with
          | true =>
            have ND : Hid (testsF i f = dropF i f m Ls) := by show _ = _; rw [hTF.out, DF.out, if_pos hcv]
            clear hcv DF
            go_wp2_with fail
            go_roundw
            case rel => exact ⟨m, Ls, A9, c9, CNm, rfl, by go_num, CNl, ND, IL, O6, B7⟩
            case measure => simp [intOf]
          | false =>
            have ND : Hid (testsF i f = dropF i f m q) := by show _ = _; rw [hTF.out, DF.out, if_neg (by simp [hcv])]
            clear hcv DF
            go_wp2_with fail
            go_roundw
            case rel => exact ⟨m, q, _, c4, by have := HKQ.out; omega, rfl, by go_num, hq12, ND, hIR, O7, B7⟩
            case measure => simp [intOf]
end Go.Proofs.YtmhledlcfbjfkaaDoor
