/- What hada.Table returns: rows, each another list; the second one begins with 1 and -1. No conditions. -/
import Derived.Test.YtcnhccpoakldnaaDoorHsg
import Derived.Test.YtcnhccpoakldnaaDoorErv
import Derived.Test.YtcnhccpoakldnaaDoorSpo
import Derived.Deep.RegionLaw
namespace Go.Proofs.YtcnhccpoakldnaaDoor
open Go.RowKit Go.Deep
theorem infoRow : (Tryd.prog.info? 22).map (fun i => (i.zero, i.size, i.bytes)) = some (some (.slice none 0 0), 1, 24) := by kernel_rfl
structure TabInv (B n i : Nat) (v : Value) (w : World) : Prop where
  ex : ∃ (cs : List Value) (G C : Nat → Nat), w.ownsRow B 22 1 v i cs ∧
    (∀ j, j < i → ∃ ys : List Int, cs[j]? = some (.slice (some ⟨G j, 0, none⟩) n (C j)) ∧ ys.length = n ∧ w.ownsRow B 3 1 (.slice (some ⟨G j, 0, none⟩) n (C j)) n (ys.map (Value.int .i64)) ∧ (j = 1 → ys[0]? = some 1 ∧ (2 ≤ n → ys[1]? = some (-1))) ∧ v.ownBlock ≠ some (G j)) ∧
    ∀ j j', j < j' → j' < i → G j ≠ G j'
theorem tab_nil (B n : Nat) (w : World) : TabInv B n 0 (.slice none 0 0) w :=
  ⟨[], fun _ => 0, fun _ => 0, World.ownsRow_nil _ _ _ _, fun j h => absurd h (by omega), fun j j' _ h => absurd h (by omega)⟩
theorem tab_snoc {B n i g c : Nat} {v v' : Value} {w w1 w2 : World} {ys : List Int} {cs : List Value} {G C : Nat → Nat} (o1 : w.ownsRow B 22 1 v i cs)
    (o2 : ∀ j, j < i → ∃ ys : List Int, cs[j]? = some (.slice (some ⟨G j, 0, none⟩) n (C j)) ∧ ys.length = n ∧ w.ownsRow B 3 1 (.slice (some ⟨G j, 0, none⟩) n (C j)) n (ys.map (Value.int .i64)) ∧ (j = 1 → ys[0]? = some 1 ∧ (2 ≤ n → ys[1]? = some (-1))) ∧ v.ownBlock ≠ some (G j)) (o3 : ∀ j j', j < j' → j' < i → G j ≠ G j') (hB : B ≤ w.heap.size) (hb : Below w.heap.size w w1) (hy : w1.ownsRow w.heap.size 3 1 (.slice (some ⟨g, 0, none⟩) n c) n (ys.map (Value.int .i64))) (hl : ys.length = n) (h1 : i = 1 → ys[0]? = some 1 ∧ (2 ≤ n → ys[1]? = some (-1)))
    (hown : w2.ownsRow B 22 1 v' (i + 1) (cs ++ [.slice (some ⟨g, 0, none⟩) n c])) (hg : w1.grownBy w2 v.ownBlock) (hat : v'.ownBlock = v.ownBlock ∨ ∃ k, v'.ownBlock = some k ∧ w1.heap.size ≤ k) : TabInv B n (i + 1) v' w2 := by
  have s1 := hb.size
  have lg : g < w1.heap.size := own_lt hy g rfl
  have gg : w.heap.size ≤ g := own_ge hy g rfl
  have vb : ∀ k, v.ownBlock = some k → k < w.heap.size := fun k hk => own_lt o1 k hk
  have lc := o1.1
  simp at lc
  have Gl : ∀ j, j < i → G j < w.heap.size := fun j hj => by
    obtain ⟨ys, _, _, q, _⟩ := o2 j hj
    exact own_lt q (G j) rfl
  refine ⟨cs ++ [.slice (some ⟨g, 0, none⟩) n c], fun j => if j = i then g else G j, fun j => if j = i then c else C j, hown, fun j hj => ?_, fun j j' hjj hj' => ?_⟩
  · by_cases hji : j = i
    · subst hji
      simp only [if_true]
      refine ⟨ys, ?_, hl, ?_, h1, ?_⟩
      · rw [List.getElem?_append_right (by omega), lc, Nat.sub_self]; rfl
      · refine own_base1 (own_keep hy fun k hk => ?_) hB
        have : k = g := by simpa [Value.ownBlock] using hk.symm
        subst this
        exact hg.block k lg fun e => by have := vb k e.symm; omega
      · rcases hat with e | ⟨k, e, hk⟩
        · rw [e]; intro e2; have := vb g e2; omega
        · rw [e]; intro e2; injection e2 with e2; omega
    · simp only [if_neg hji]
      obtain ⟨zs, q1, q2, q3, q4, q5⟩ := o2 j (by omega)
      have gl := Gl j (by omega)
      refine ⟨zs, ?_, q2, ?_, q4, ?_⟩
      · rw [List.getElem?_append_left (by omega)]; exact q1
      · refine own_keep (own_below q3 hb) fun k hk => ?_
        have : k = G j := by simpa [Value.ownBlock] using hk.symm
        subst this
        exact hg.block _ (by omega) fun e => q5 e.symm
      · rcases hat with e | ⟨k, e, hk⟩
        · rw [e]; exact q5
        · rw [e]; intro e2; injection e2 with e2; omega
  · by_cases h2 : j' = i
    · subst h2
      have := Gl j (by omega)
      simp only [if_true, if_neg (show j ≠ j' by omega)]
      omega
    · simp only [if_neg h2, if_neg (show j ≠ i by omega)]
      exact o3 j j' hjj (by omega)
def TabPost (k : Int) (w : World) (e : Ending) (w' : World) : Prop := ∃ v c, e = .returned (.tuple #[v, errV c]) ∧ Below w.heap.size w w' ∧
  ((c ≠ 0 ∧ (k < 0 ∨ 6 < k) ∧ v = .slice none 0 0) ∨ (c = 0 ∧ 0 ≤ k ∧ k ≤ 6 ∧ TabInv w.heap.size (2 ^ k.toNat) (2 ^ k.toNat) v w'))
set_option maxHeartbeats 400000 in
theorem table_bad (k : Int) (w : World) (h : k < 0 ∨ 6 < k) : Calls Tryd.prog 7 #[.int .i64 k] w (TabPost k w) := by
  have H := hid h
  by_cases h0 : k < 0
  · clear h
    go_enter Tryd.func7, Tryd.ntmps7
    go_wp2_with fail
    go_ret2
    exact ⟨_, 1, rfl, Below.refl _ _, .inl ⟨by decide, H.out, rfl⟩⟩
  · have h6 : 6 < k := by omega
    clear h
    go_enter Tryd.func7, Tryd.ntmps7
    go_wp2_with fail
    go_ret2
    exact ⟨_, 1, rfl, Below.refl _ _, .inl ⟨by decide, H.out, rfl⟩⟩
set_option maxRecDepth 100000 in
set_option maxHeartbeats 1000000 in
theorem table_ok (K : Nat) (w : World) (hK : K ≤ 6) : Calls Tryd.prog 7 #[.int .i64 (K : Int)] w (TabPost K w) := by
  obtain ⟨i0, hi0, hz0, hz1, hz2⟩ := info_parts infoInt
  obtain ⟨i1, hi1, hy0, hy1, hy2⟩ := info_parts infoRow
  have hn : 1 ≤ 2 ^ K ∧ 2 ^ K ≤ 64 := ⟨Nat.two_pow_pos K, Nat.le_trans (Nat.pow_le_pow_right (by omega) hK) (by decide)⟩
  obtain ⟨n, hnK⟩ : ∃ n, n = 2 ^ K := ⟨_, rfl⟩
  rw [← hnK] at hn
  have hp : (2 : Int) ^ K = n := by subst hnK; rfl
  have HK := hid hnK
  have HL := hid hK
  obtain ⟨n1, n2⟩ := hn
  have n3 : (n : Int) ≤ 64 := by omega
  have d1 : decide ((K : Int) < 0) = false := by simp
  have d2 : decide (6 < (K : Int)) = false := by simp; omega
  clear hnK
  go_enter Tryd.func7, Tryd.ntmps7
  go_wp2_with fail
  go_loopw [4, 17] (fun ov iv wr => ∃ (i : Nat) (v : Value), i ≤ n ∧ ov = v ∧ iv = .int .i64 i ∧ Hid (TabInv w.heap.size n i v wr) ∧ Hid (Below w.heap.size w wr)) (fun _ iv _ => n - (intOf iv).toNat)
  case atStart => exact ⟨0, _, Nat.zero_le _, rfl, rfl, tab_nil _ _ _, Below.refl _ _⟩
  case round =>
    obtain ⟨i, v, hi, rfl, rfl, hT, hB⟩ := hrel
    obtain ⟨wo, rfl⟩ : ∃ wo : World, wo = wr := ⟨_, rfl⟩
    have lB := hB.out.size
    by_cases hlt : i < n
    · have j1 : (i : Int) < (n : Int) := by omega
      go_wp2_with fail
      go_loopw [6, 22] (fun rv jv wr => ∃ (j : Nat) (u : Value) (ys : List Int), j ≤ n ∧ rv = u ∧ jv = .int .i64 j ∧ ys.length = j ∧ Hid (wr.ownsRow wo.heap.size 3 1 u j (ys.map (Value.int .i64))) ∧ Hid (i = 1 → (0 < j → ys[0]? = some 1) ∧ (1 < j → ys[1]? = some (-1))) ∧ Hid (Below wo.heap.size wo wr)) (fun _ jv _ => n - (intOf jv).toNat)
      case atStart => exact ⟨0, _, [], Nat.zero_le _, rfl, rfl, rfl, World.ownsRow_nil _ _ _ _, fun _ => ⟨fun h => absurd h (by omega), fun h => absurd h (by omega)⟩, Below.refl _ _⟩
      case round =>
        obtain ⟨j, u, ys, hj, rfl, rfl, hyl, hO, h1, hBi⟩ := hrel
        obtain ⟨wi, rfl⟩ : ∃ wi : World, wi = wr := ⟨_, rfl⟩
        have lBi := hBi.out.size
        have HYL := hid hyl
        clear hyl
        by_cases hjl : j < n
        · have j2 : (j : Int) < (n : Int) := by omega
          go_wp2_with fail
          refine (sign_spec i j wi).mono ?_
          rintro e w2 ⟨⟨m, rfl, s0, s1⟩, rfl⟩
          have S0 := hid s0
          have S1 := hid s1
          clear s0 s1
          go_wp2_with (at_builtin; refine wpList_app _ rfl _ _ 22 rfl wo.heap.size 3 i0 (.int .i64 0) 1 8 Tryd.underlying22 hi0 hz0 hz1 hz2 rfl (by decide) u6 j _ rfl (hO.out.alloc _) _ _ 1 [.int .i64 m] rfl (cells_oneAt _ _ _ (by simp)) (by intro u hu; simp at hu; subst hu; rfl) (by unfold maxLen; omega) (by omega) (by simp; omega) ?_; intro v5 w5 hown5 hgrow5 _; have O5 := hid hown5; have B5 : Hid (Below wo.heap.size wo w5) := (hBi.out.alloc lBi _).grown hgrow5 (by simp; omega) (fun k hk => own_ge hO.out k hk); clear hown5 hgrow5)
          go_roundw
          case rel =>
            refine ⟨j + 1, v5, ys ++ [m], by omega, rfl, by go_num, by simp [HYL.out], by simpa using O5, fun hi1 => ⟨fun _ => ?_, fun _ => ?_⟩, B5⟩
            · by_cases h0 : j = 0
              · have : ys = [] := List.eq_nil_of_length_eq_zero (by rw [HYL.out, h0])
                rw [this, S0.out hi1 h0]; rfl
              · rw [List.getElem?_append_left (by rw [HYL.out]; omega)]; exact (h1.out hi1).1 (by omega)
            · by_cases h0 : j = 1
              · rw [List.getElem?_append_right (by rw [HYL.out]; omega), HYL.out, h0, S1.out hi1 h0]; rfl
              · rw [List.getElem?_append_left (by rw [HYL.out]; omega)]; exact (h1.out hi1).2 (by omega)
          case measure => simp [intOf]; omega
        · obtain rfl : j = n := by omega
          obtain ⟨g, c, rfl, hg1, hg2, _, _, _⟩ := own_open hO.out (by omega)
          obtain ⟨cs, G, C, o1, o2, o3⟩ := hT.out.ex
          have OW := hid (own_below o1 hBi.out)
          have OG : Hid (∀ k, u4.ownBlock = some k → w.heap.size ≤ k) := own_ge o1
          have Q1 := hid o1
          have Q2 := hid o2
          have Q3 := hid o3
          clear o1 o2 o3
          go_wp2_with (at_builtin; refine wpList_app _ rfl _ _ 28 rfl w.heap.size 22 i1 (.slice none 0 0) 1 24 Tryd.underlying28 hi1 hy0 hy1 hy2 rfl (by decide) u4 i cs rfl (OW.out.alloc _) _ _ 1 [.slice (some ⟨g, 0, none⟩) j c] rfl (cells_oneAt _ _ _ (by simp)) (by intro u hu; simp at hu; subst hu; rfl) (by unfold maxLen; omega) (by omega) (by simp; omega) ?_; intro v5 w5 hown5 hgrow5 hat5; have O5 := hid hown5; have G5 := hid hgrow5; have A5 := hid hat5; clear hown5 hgrow5 hat5)
          have BA : Hid (Below wo.heap.size wo (wi.alloc (.cells #[.slice (some ⟨g, 0, none⟩) j c] 22))) := hBi.out.alloc lBi _
          have TS := hid (tab_snoc (ys := ys) Q1.out Q2.out Q3.out lB BA.out (hO.out.alloc _) HYL.out (fun hi1 => ⟨(h1.out hi1).1 (by omega), fun h2 => (h1.out hi1).2 (by omega)⟩) O5.out G5.out (by rcases A5.out with e | e; exact .inl e; exact .inr ⟨_, e, Nat.le_refl _⟩))
          have B5 := hid (hB.out.trans ((BA.out.mono lB).grown G5.out (by simp; omega) OG.out))
          go_roundw
          case rel => exact ⟨i + 1, v5, by omega, rfl, by go_num, TS, B5⟩
          case measure => simp [intOf]; omega
    · obtain rfl : i = n := by omega
      go_wp2_with fail
      go_ret2
      exact ⟨_, 0, rfl, hB.out, .inr ⟨rfl, by omega, by have := HL.out; omega, by rw [show (2 : Nat) ^ ((K : Int)).toNat = i by rw [HK.out]; rfl]; exact hT.out⟩⟩
theorem table_any (k : Int) (w : World) : Calls Tryd.prog 7 #[.int .i64 k] w (TabPost k w) := by
  by_cases h : k < 0 ∨ 6 < k
  · exact table_bad k w h
  · obtain ⟨K, rfl⟩ : ∃ K : Nat, k = K := ⟨k.toNat, by omega⟩
    exact table_ok K w (by omega)
end Go.Proofs.YtcnhccpoakldnaaDoor
