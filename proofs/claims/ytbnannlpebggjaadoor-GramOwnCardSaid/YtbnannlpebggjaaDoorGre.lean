/- The places at which a piece of a word may end: (gram.spans).ends. Condition: a word of at most 8 letters, at most 4 things, that are names of the table. -/
import Derived.Test.YtbnannlpebggjaaDoorGra
import Derived.Test.YtbnannlpebggjaaDoorInd
import Derived.Test.YtbnannlpebggjaaDoorOwh
import Derived.Deep.QuietTactic
import Derived.BigQuiet
namespace Go.Proofs.YtbnannlpebggjaaDoor
open Go.RowKit Go.Deep
def tabAt (bs : List Bool) (a i k : Nat) : Bool := bs.getD (a * 81 + i * 9 + k) false
/-- may this thing stand from i to k? -/
def condE (bs : List Bool) (word : List Int) (x : Int) (i k : Nat) : Bool := if 0 ≤ x then decide (k = i + 1) && decide (at0 word i = x) else tabAt bs (-1 - x).toNat i k
def kL (bs : List Bool) (word : List Int) (x : Int) (i : Nat) (next : List Int) : Nat → List Int
  | 0 => next
  | m + 1 => if condE bs word x i (i + m) = true ∧ ¬ ((i + m : Nat) : Int) ∈ kL bs word x i next m then kL bs word x i next m ++ [((i + m : Nat) : Int)] else kL bs word x i next m
def iL (bs : List Bool) (word : List Int) (x : Int) (at_ : List Int) : Nat → List Int
  | 0 => []
  | m + 1 => kL bs word x (at0 at_ m).toNat (iL bs word x at_ m) (word.length + 1 - (at0 at_ m).toNat)
def xL (bs : List Bool) (word things : List Int) (from_ : Nat) : Nat → List Int
  | 0 => [(from_ : Int)]
  | m + 1 => iL bs word (at0 things m) (xL bs word things from_ m) (xL bs word things from_ m).length
/-- where the things may end -/
def endsF (bs : List Bool) (word things : List Int) (from_ : Nat) : List Int := xL bs word things from_ things.length
theorem kL_len (bs : List Bool) (word : List Int) (x : Int) (i : Nat) (next : List Int) : ∀ m, (kL bs word x i next m).length ≤ next.length + m
  | 0 => by rw [kL]; omega
  | m + 1 => by
    have := kL_len bs word x i next m
    rw [kL]
    split
    · rw [List.length_append, List.length_singleton]; omega
    · omega
theorem kL_mem {bs : List Bool} {word : List Int} {x : Int} {i : Nat} {next : List Int} {N : Nat} (h : ∀ z ∈ next, 0 ≤ z ∧ z ≤ (N : Int)) : ∀ m, i + m ≤ N + 1 → ∀ z ∈ kL bs word x i next m, 0 ≤ z ∧ z ≤ (N : Int)
  | 0, _, z, hz => h z (by rw [kL] at hz; exact hz)
  | m + 1, hm, z, hz => by
    rw [kL] at hz
    split at hz
    · rcases List.mem_append.1 hz with hz | hz
      · exact kL_mem h m (by omega) z hz
      · rw [List.mem_singleton] at hz; subst hz; omega
    · exact kL_mem h m (by omega) z hz
theorem iL_mem {bs : List Bool} {word : List Int} {x : Int} {at_ : List Int} (h : ∀ z ∈ at_, 0 ≤ z ∧ z ≤ (word.length : Int)) : ∀ m, m ≤ at_.length → ∀ z ∈ iL bs word x at_ m, 0 ≤ z ∧ z ≤ (word.length : Int)
  | 0, _, z, hz => by rw [iL] at hz; cases hz
  | m + 1, hm, z, hz => by
    rw [iL] at hz
    have := h _ (mem_at (l := at_) (i := m) (by omega))
    exact kL_mem (iL_mem h m (by omega)) _ (by omega) z hz
theorem iL_len (bs : List Bool) (word : List Int) (x : Int) (at_ : List Int) (hw : word.length ≤ 8) : ∀ m, (iL bs word x at_ m).length ≤ 9 * m
  | 0 => by simp [iL]
  | m + 1 => by
    rw [iL]
    have h1 := kL_len bs word x (at0 at_ m).toNat (iL bs word x at_ m) (word.length + 1 - (at0 at_ m).toNat)
    have h2 := iL_len bs word x at_ hw m
    omega
theorem xL_mem {bs : List Bool} {word things : List Int} {from_ : Nat} (h : from_ ≤ word.length) : ∀ m, ∀ z ∈ xL bs word things from_ m, 0 ≤ z ∧ z ≤ (word.length : Int)
  | 0, z, hz => by rw [xL, List.mem_singleton] at hz; subst hz; omega
  | m + 1, z, hz => by rw [xL] at hz; exact iL_mem (xL_mem h m) _ (Nat.le_refl _) z hz
theorem xL_len {bs : List Bool} {word things : List Int} {from_ : Nat} (hw : word.length ≤ 8) : ∀ m, (xL bs word things from_ m).length ≤ 9 ^ m
  | 0 => by simp [xL]
  | m + 1 => by
    rw [xL]
    have h1 := iL_len bs word (at0 things m) (xL bs word things from_ m) hw (xL bs word things from_ m).length
    have h2 := xL_len (bs := bs) (things := things) (from_ := from_) hw m
    rw [Nat.pow_succ]; omega
theorem ends_facts {bs : List Bool} {word things : List Int} {from_ : Nat} (hw : word.length ≤ 8) (ht : things.length ≤ 4) (h : from_ ≤ word.length) : (endsF bs word things from_).length ≤ 6561 ∧ ∀ z ∈ endsF bs word things from_, 0 ≤ z ∧ z ≤ (word.length : Int) := by
  refine ⟨?_, xL_mem h _⟩
  have h1 := xL_len (bs := bs) (things := things) (from_ := from_) hw things.length
  have h2 : 9 ^ things.length ≤ 9 ^ 4 := Nat.pow_le_pow_right (by omega) ht
  exact Nat.le_trans h1 h2
/-- the table of a call's own: so many names, from, to -/
def TabIn (w : World) (v : Value) (sb n : Nat) (bs : List Bool) : Prop := v = .slice (some ⟨sb, 0, none⟩) n n ∧ bs.length = n * 81 ∧ w.heap[sb]? = some (.cells (bs.map Value.bool).toArray 50 (0, 0))
theorem TabIn.at_ {w : World} {v : Value} {sb n : Nat} {bs : List Bool} (h : TabIn w v sb n bs) {a i k : Nat} (ha : a < n) (hi : i < 9) (hk : k < 9) : w.cell? ⟨sb, a * 81 + i * 9 + k, none⟩ = some (.bool (tabAt bs a i k)) := by
  obtain ⟨_, h2, h3⟩ := h
  have hlt : a * 81 + i * 9 + k < bs.length := by
    have : (a + 1) * 81 ≤ n * 81 := Nat.mul_le_mul_right _ ha
    omega
  rw [Has.cell h3]
  unfold tabAt
  simp [List.getD_eq_getElem?_getD, List.getElem?_eq_getElem hlt]
theorem TabIn.below {w w' : World} {v : Value} {sb n : Nat} {bs : List Bool} (h : TabIn w v sb n bs) (hb : Below w.heap.size w w') : TabIn w' v sb n bs := ⟨h.1, h.2.1, Has.below h.2.2 hb (Has.lt h.2.2)⟩
set_option maxRecDepth 100000 in
set_option maxHeartbeats 4000000 in
theorem ends_any (bs : List Bool) (n sb : Nat) (word things : List Int) (from_ : Nat) (F : Nat → Prop) (s v u : Value) (w : World) (hF : ∀ b, F b → b < w.heap.size) (hs : TabIn w s sb n bs) (hv : IntsIn .i64 F w v word) (hu : IntsIn .i64 F w u things) (hn : n ≤ 5) (hw : word.length ≤ 8) (ht : things.length ≤ 4) (hsym : ∀ x ∈ things, -(n : Int) ≤ x) (hf : from_ ≤ word.length) :
    Calls Tryd.prog 18 #[s, v, u, .int .i64 from_] w fun e w' => ∃ r, e = .returned r ∧ IntsIn .i64 (fun b => w.heap.size ≤ b ∧ b < w'.heap.size) w' r (endsF bs word things from_) ∧ Below w.heap.size w w' := by
  have HF := hid hF
  have HS := hid hs
  obtain ⟨A, c, rfl, h1, _, h3⟩ := hv
  obtain ⟨A', c', rfl, h1', _, h3'⟩ := hu
  obtain ⟨rfl, _, _⟩ := hs
  have HV := hid h3
  have HU := hid h3'
  have SY := hid hsym
  have HFR := hid hf
  have HW8 := hid hw
  unfold maxLen at h1 h1'
  have XM := hid (fun m => xL_mem (bs := bs) (things := things) hf m)
  have XL := hid (fun m => xL_len (bs := bs) (things := things) (from_ := from_) hw m)
  clear hF h3 h3' hsym hf
  obtain ⟨i0, hi0, hz0, hz1, hz2⟩ := info_parts infoInt
  go_enter Tryd.func18, Tryd.ntmps18
  go_wp2_with fail
  have B0 := hid ((Below.refl w.heap.size w).alloc (Nat.le_refl _) (.cells #[.int .i64 from_] 3))
  have I0 : Hid (IntsIn .i64 (fun b => w.heap.size ≤ b ∧ b < (w.alloc (.cells #[.int .i64 from_] 3)).heap.size) (w.alloc (.cells #[.int .i64 from_] 3)) (.slice (some ⟨w.heap.size, 0, none⟩) 1 1) (xL bs word things from_ 0)) := by
    refine ints1 (x := (from_ : Int)) (c := 1) (by simp) (by simp) ?_
    exact WalkArith.wf_i64 (by have := HFR.out; omega)
  go_loopw [9, 20] (fun av mi wr => ∃ m : Nat, m ≤ things.length ∧ mi = .int .i64 m ∧ Hid (IntsIn .i64 (fun b => w.heap.size ≤ b ∧ b < wr.heap.size) wr av (xL bs word things from_ m)) ∧ Hid (Below w.heap.size w wr)) (fun _ mi _ => things.length - (intOf mi).toNat)
  case atStart => exact ⟨0, Nat.zero_le _, rfl, I0, B0⟩
  case round =>
    clear B0 I0
    obtain ⟨m, hm, rfl, hI, hB⟩ := hrel
    by_cases hlt : m < things.length
    · obtain ⟨b, o, rfl, hb, hc⟩ := HU.out (by omega)
      have c1 := (hB.out.cell (p := ⟨b, o + m, none⟩) (HF.out b hb)).trans (hc m hlt)
      have EX : things.getD m 0 = at0 things m := rfl
      rw [EX] at c1
      have SX := hid (SY.out _ (mem_at hlt))
      have i1 : (m : Int) < (things.length : Int) := by omega
      obtain ⟨x, hx⟩ : ∃ x, x = at0 things m := ⟨_, rfl⟩
      rw [← hx] at c1 SX
      have HX := hid hx
      obtain ⟨al, hal⟩ : ∃ al, al = xL bs word things from_ m := ⟨_, rfl⟩
      have AM := hid (XM.out m)
      have AL := XL.out m
      rw [← hal] at hI AM AL
      have HAL := hid hal
      have a6 : al.length ≤ 6561 := by
        have : 9 ^ m ≤ 9 ^ 4 := Nat.pow_le_pow_right (by omega) (by omega)
        omega
      have I1 := hid hI.out
      have B1 := hid hB.out
      obtain ⟨Aa, ca, rfl, hca, _, hav⟩ := hI.out
      have HA := hid hav
      unfold maxLen at hca
      have s1 := hB.out.size
      obtain ⟨w1, hw1⟩ : ∃ w1, w1 = wr := ⟨_, rfl⟩
      subst hw1
      clear hc hb EX hx hal hav hI hB AL
      go_wp2_with fail
      go_loopw [12, 26] (fun nv pi wr => ∃ p : Nat, p ≤ al.length ∧ pi = .int .i64 p ∧ Hid (wr.ownsRow w1.heap.size 3 1 nv (iL bs word x al p).length ((iL bs word x al p).map (Value.int .i64))) ∧ Hid (Below w1.heap.size w1 wr)) (fun _ pi _ => al.length - (intOf pi).toNat)
      case atStart => exact ⟨0, Nat.zero_le _, rfl, World.ownsRow_nil _ _ _ _, Below.refl _ _⟩
      case round =>
        clear c1
        obtain ⟨p, hp, rfl, hO, hB⟩ := hrel
        by_cases hpt : p < al.length
        · obtain ⟨b2, o2, rfl, hb2, hc2⟩ := HA.out (by omega)
          have c2 := (hB.out.cell (p := ⟨b2, o2 + p, none⟩) hb2.2).trans (hc2 p hpt)
          have EX : al.getD p 0 = at0 al p := rfl
          rw [EX] at c2
          have MZ := AM.out _ (mem_at hpt)
          obtain ⟨i, hi⟩ : ∃ i : Nat, at0 al p = (i : Int) := ⟨(at0 al p).toNat, by omega⟩
          have HI : Hid ((at0 al p).toNat = i) := by show _ = _; rw [hi]; simp
          rw [hi] at c2 MZ
          have i2 : (p : Int) < (al.length : Int) := by omega
          have iw : i ≤ word.length := by omega
          have IE : Hid (iL bs word x al (p + 1) = kL bs word x i (iL bs word x al p) (word.length + 1 - i)) := by show _ = _; rw [iL, HI.out]
          have N0 := hid (iL_len bs word x al HW8.out p)
          have NM := hid (iL_mem (bs := bs) (x := x) AM.out p (by omega))
          obtain ⟨nx, hnx⟩ : ∃ nx, nx = iL bs word x al p := ⟨_, rfl⟩
          rw [← hnx] at hO IE N0 NM
          obtain ⟨w2, hw2⟩ : ∃ w2, w2 = wr := ⟨_, rfl⟩
          subst hw2
          have O2 := hid hO.out
          have B2 := hid hB.out
          clear hc2 hb2 EX hi MZ hnx hO hB HI
          go_wp2_with fail
          go_loopw [12, 15] (fun nv ki wr => ∃ q : Nat, i + q ≤ word.length + 1 ∧ ki = .int .i64 ((i + q : Nat) : Int) ∧ Hid (wr.ownsRow w1.heap.size 3 1 nv (kL bs word x i nx q).length ((kL bs word x i nx q).map (Value.int .i64))) ∧ Hid (Below w1.heap.size w1 wr)) (fun _ ki _ => word.length + 1 - (intOf ki).toNat)
          case atStart => exact ⟨0, by omega, by simp, O2, B2⟩
          case round =>
            clear c2 O2 B2
            obtain ⟨q, hq, rfl, hO, hB⟩ := hrel
            by_cases hqt : i + q < word.length + 1
            · obtain ⟨kk, hkk⟩ : ∃ kk, kk = i + q := ⟨_, rfl⟩
              have HKK := hid hkk
              obtain ⟨cur, hcur⟩ : ∃ cur, cur = kL bs word x i nx q := ⟨_, rfl⟩
              have CL := kL_len bs word x i nx q
              have CM := hid (kL_mem (bs := bs) (word := word) (x := x) (i := i) NM.out q (by omega))
              have STP : Hid (kL bs word x i nx (q + 1) = if condE bs word x i kk = true ∧ ¬ (kk : Int) ∈ cur then cur ++ [(kk : Int)] else cur) := by show _ = _; rw [kL, hkk, hcur]
              rw [← hcur] at hO CL CM
              have cl : cur.length ≤ 70000 := by have := N0.out; omega
              have k1 : (kk : Int) ≤ (word.length : Int) := by omega
              have kw : kk ≤ word.length := by omega
              have sB := hB.out.size
              have O := hid hO.out
              have B := hid hB.out
              have IC := hid ((ints_of_own O.out (fun z hz => WalkArith.wf_i64 (by have := CM.out z hz; omega))).more (F' := fun _ => True) fun _ _ => trivial)
              obtain ⟨Ac, cc, rfl, _, _⟩ := own_sl hO.out
              rw [← hkk]
              clear hkk hcur hO hB CL CM
              by_cases hx0 : 0 ≤ x
              · have CE : Hid (condE bs word x i kk = (decide (kk = i + 1) && decide (at0 word i = x))) := by show _ = _; unfold condE; rw [if_pos hx0]
                have hx1 : decide (0 ≤ x) = true := by simpa using hx0
                have hx2 : ¬ x < 0 := by omega
                have hx3 : decide (x < 0) = false := by simpa using hx0
                by_cases hk1 : kk = i + 1
                · have HK1 := hid hk1
                  obtain ⟨b4, o4, rfl, hb4, hc4⟩ := HV.out (by omega)
                  have c4 := (((B1.out.trans (B.out.mono s1)).cell (p := ⟨b4, o4 + i, none⟩) (HF.out b4 hb4)).trans (hc4 i (by omega)))
                  have EX : word.getD i 0 = at0 word i := rfl
                  rw [EX] at c4
                  have i5 : (i : Int) < (word.length : Int) := by omega
                  have e5 : ((kk : Int) == (i : Int) + 1) = true := by simp; omega
                  have e6 : decide ((kk : Int) = (i : Int) + 1) = true := by simp; omega
                  have e7 : ((kk : Int) = (i : Int) + 1) = True := by simp; omega
                  clear hk1
                  by_cases hy : at0 word i = x
                  · have CT : Hid (condE bs word x i kk = true) := by show _ = _; rw [CE.out]; simp [hy, HK1.out]
                    rw [hy] at c4
                    clear hy hc4 EX CE
                    have CTA := hid (contains_any cur (kk : Int) (fun _ => True) _ _ IC.out)
                    by_cases hin : (kk : Int) ∈ cur
                    · have E : Hid (kL bs word x i nx (q + 1) = cur) := by show _ = _; rw [STP.out, if_neg (fun h => h.2 hin)]
                      have D : Hid (decide ((kk : Int) ∈ cur) = true) := by show _ = _; simpa using hin
                      clear STP CT hin
                      go_wp2_with fail
                      refine CTA.out.mono ?_
                      rintro e w' ⟨rfl, rfl⟩
                      rw [D.out]
                      go_wp2_with fail
                      go_roundw
                      case rel => exact ⟨q + 1, by omega, by have := HKK.out; go_num, by rw [E.out]; exact O, B⟩
                      case measure => have := HKK.out; simp [intOf]; omega
                    · have E : Hid (kL bs word x i nx (q + 1) = cur ++ [(kk : Int)]) := by show _ = _; rw [STP.out, if_pos ⟨CT.out, hin⟩]
                      have D : Hid (decide ((kk : Int) ∈ cur) = false) := by show _ = _; simpa using hin
                      obtain ⟨w4, hw4⟩ : ∃ w4, w4 = wr := ⟨_, rfl⟩
                      have O3 := hid (O.out.alloc (.cells #[.int .i64 (kk : Int)] 3))
                      have C3 := hid (cells_1 wr (.int .i64 (kk : Int)) 3 rfl)
                      clear STP CT hin
                      go_wp2_with fail
                      refine CTA.out.mono ?_
                      rintro e w' ⟨rfl, rfl⟩
                      rw [D.out]
                      go_wp2_with (at_builtin; refine wpList_app _ rfl (.tmp 74) (.tmp 76) 29 rfl w1.heap.size 3 i0 (.int .i64 0) 1 8 Tryd.underlying29 hi0 hz0 hz1 hz2 rfl (by decide) _ _ _ rfl O3.out _ _ 1 _ rfl C3.out (by intro u hu; simp at hu; subst hu; rfl) (by unfold maxLen; omega) (by omega) (by simp; omega) ?_; intro v5 w5 hown hgrow hat; have R5 : Hid (w5.ownsRow w1.heap.size 3 1 v5 (kL bs word x i nx (q + 1)).length ((kL bs word x i nx (q + 1)).map (Value.int .i64))) := (by rw [E.out, List.length_append, List.map_append]; exact hown); have B5 : Hid (Below w1.heap.size w1 w5) := ((B.out.alloc sB _).grown hgrow (by simp; omega) (own_ge O3.out)); clear hown hgrow hat)
                      go_roundw
                      case rel => exact ⟨q + 1, by omega, by have := HKK.out; go_num, R5, B5⟩
                      case measure => have := HKK.out; simp [intOf]; omega
                  · have CT : Hid (condE bs word x i kk = false) := by show _ = _; rw [CE.out]; simp [hy]
                    generalize at0 word i = y at c4 hy
                    have hy2 : decide (y = x) = false := by simpa using hy
                    have hy3 : (y == x) = false := by simpa using hy
                    have hy4 : (y = x) = False := by simpa using hy
                    clear hy
                    clear hc4 EX CE
                    have E : Hid (kL bs word x i nx (q + 1) = cur) := by show _ = _; rw [STP.out, if_neg (by rw [CT.out]; simp)]
                    clear STP CT
                    go_wp2_with fail
                    go_roundw
                    case rel => exact ⟨q + 1, by omega, by have := HKK.out; go_num, by rw [E.out]; exact O, B⟩
                    case measure => have := HKK.out; simp [intOf]; omega
                · have CT : Hid (condE bs word x i kk = false) := by show _ = _; rw [CE.out]; simp [hk1]
                  have hk2 : ((kk : Int) == (i : Int) + 1) = false := by simp; omega
                  have hk3 : decide ((kk : Int) = (i : Int) + 1) = false := by simp; omega
                  have hk4 : ((kk : Int) = (i : Int) + 1) = False := by simp; omega
                  clear hk1 CE
                  have E : Hid (kL bs word x i nx (q + 1) = cur) := by show _ = _; rw [STP.out, if_neg (by rw [CT.out]; simp)]
                  clear STP CT
                  go_wp2_with fail
                  go_roundw
                  case rel => exact ⟨q + 1, by omega, by have := HKK.out; go_num, by rw [E.out]; exact O, B⟩
                  case measure => have := HKK.out; simp [intOf]; omega
              · have hx1 : decide (0 ≤ x) = false := by simpa using hx0
                have hx2 : x < 0 := by omega
                have hx3 : decide (x < 0) = true := by simpa using hx2
                obtain ⟨a, ha⟩ : ∃ a : Nat, -1 - x = (a : Int) := ⟨(-1 - x).toNat, by omega⟩
                have HA2 : Hid ((-1 - x).toNat = a) := by show _ = _; rw [ha]; simp
                have CE : Hid (condE bs word x i kk = tabAt bs a i kk) := by show _ = _; unfold condE; rw [if_neg hx0, HA2.out]
                have an : a < n := by have := SX.out; omega
                have c4 := (((B1.out.trans (B.out.mono s1)).cell (p := ⟨sb, a * 81 + i * 9 + kk, none⟩) (Has.lt HS.out.2.2)).trans (HS.out.at_ an (by omega) (by omega)))
                have e5 : wrap64 (-1 - x) = (a : Int) := by unfold wrap64; omega
                have i5 : (a : Int) < (n : Int) := by omega
                have i6 : (i : Int) < 9 := by omega
                have i7 : (kk : Int) < 9 := by omega
                clear ha HA2 hx0
                cases hy : tabAt bs a i kk with
                | true =>
                  have CT : Hid (condE bs word x i kk = true) := by show _ = _; rw [CE.out, hy]
                  rw [hy] at c4
                  clear hy CE
                  have CTA := hid (contains_any cur (kk : Int) (fun _ => True) _ _ IC.out)
                  by_cases hin : (kk : Int) ∈ cur
                  · have E : Hid (kL bs word x i nx (q + 1) = cur) := by show _ = _; rw [STP.out, if_neg (fun h => h.2 hin)]
                    have D : Hid (decide ((kk : Int) ∈ cur) = true) := by show _ = _; simpa using hin
                    clear STP CT hin
                    go_wp2_with fail
                    refine CTA.out.mono ?_
                    rintro e w' ⟨rfl, rfl⟩
                    rw [D.out]
                    go_wp2_with fail
                    go_roundw
                    case rel => exact ⟨q + 1, by omega, by have := HKK.out; go_num, by rw [E.out]; exact O, B⟩
                    case measure => have := HKK.out; simp [intOf]; omega
                  · have E : Hid (kL bs word x i nx (q + 1) = cur ++ [(kk : Int)]) := by show _ = _; rw [STP.out, if_pos ⟨CT.out, hin⟩]
                    have D : Hid (decide ((kk : Int) ∈ cur) = false) := by show _ = _; simpa using hin
                    obtain ⟨w4, hw4⟩ : ∃ w4, w4 = wr := ⟨_, rfl⟩
                    have O3 := hid (O.out.alloc (.cells #[.int .i64 (kk : Int)] 3))
                    have C3 := hid (cells_1 wr (.int .i64 (kk : Int)) 3 rfl)
                    clear STP CT hin
                    go_wp2_with fail
                    refine CTA.out.mono ?_
                    rintro e w' ⟨rfl, rfl⟩
                    rw [D.out]
                    go_wp2_with (at_builtin; refine wpList_app _ rfl (.tmp 74) (.tmp 76) 29 rfl w1.heap.size 3 i0 (.int .i64 0) 1 8 Tryd.underlying29 hi0 hz0 hz1 hz2 rfl (by decide) _ _ _ rfl O3.out _ _ 1 _ rfl C3.out (by intro u hu; simp at hu; subst hu; rfl) (by unfold maxLen; omega) (by omega) (by simp; omega) ?_; intro v5 w5 hown hgrow hat; have R5 : Hid (w5.ownsRow w1.heap.size 3 1 v5 (kL bs word x i nx (q + 1)).length ((kL bs word x i nx (q + 1)).map (Value.int .i64))) := (by rw [E.out, List.length_append, List.map_append]; exact hown); have B5 : Hid (Below w1.heap.size w1 w5) := ((B.out.alloc sB _).grown hgrow (by simp; omega) (own_ge O3.out)); clear hown hgrow hat)
                    go_roundw
                    case rel => exact ⟨q + 1, by omega, by have := HKK.out; go_num, R5, B5⟩
                    case measure => have := HKK.out; simp [intOf]; omega
                | false =>
                  have CT : Hid (condE bs word x i kk = false) := by show _ = _; rw [CE.out, hy]
                  rw [hy] at c4
                  clear hy CE
                  have E : Hid (kL bs word x i nx (q + 1) = cur) := by show _ = _; rw [STP.out, if_neg (by rw [CT.out]; simp)]
                  clear STP CT
                  go_wp2_with fail
                  go_roundw
                  case rel => exact ⟨q + 1, by omega, by have := HKK.out; go_num, by rw [E.out]; exact O, B⟩
                  case measure => have := HKK.out; simp [intOf]; omega
            · have hqe : i + q = word.length + 1 := by omega
              have k1 : ¬ ((i + q : Nat) : Int) ≤ (word.length : Int) := by omega
              have k2 : decide (((i + q : Nat) : Int) ≤ (word.length : Int)) = false := by simpa using k1
              have EQ : kL bs word x i nx q = iL bs word x al (p + 1) := by rw [IE.out, show word.length + 1 - i = q by omega]
              rw [EQ] at hO
              have NX := hid hO.out
              clear EQ
              have B := hid hB.out
              clear hO hB
              go_wp2_with fail
              go_roundw
              case rel => exact ⟨p + 1, by omega, by go_num, NX, B⟩
              case measure => simp [intOf]; omega
        · obtain rfl : p = al.length := by omega
          have E : Hid (xL bs word things from_ (m + 1) = iL bs word x al al.length) := by show _ = _; rw [xL, ← HAL.out, ← HX.out]
          have NW := hid (fun z hz => WalkArith.wf_i64 (n := z) (by have := XM.out (m + 1) z hz; omega))
          have sB := hB.out.size
          rw [← E.out] at hO
          have I2 := hid ((ints_of_own hO.out NW.out).more (F' := fun b => w.heap.size ≤ b ∧ b < wr.heap.size) fun b hb => by omega)
          have B2 := hid (B1.out.trans (hB.out.mono s1))
          clear hO hB
          go_wp2_with fail
          go_roundw
          case rel => exact ⟨m + 1, by omega, by go_num, I2, B2⟩
          case measure => simp [intOf]; omega
    · obtain rfl : m = things.length := by omega
      have I2 := hid hI.out
      have B2 := hid hB.out
      clear hI hB
      go_wp2_with fail
      go_ret
      exact ⟨_, rfl, I2.out, B2.out⟩
end Go.Proofs.YtbnannlpebggjaaDoor
