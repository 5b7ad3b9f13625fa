/- What learn.Learn returns, whatever is asked of words and of machines. Conditions: the contracts of the two function values; that heads with unlike rows are six at most; that what is learnt goes on by a rule (Inv). -/
import Derived.Test.YtkcggmhllijgcaaLqk
import Derived.Test.YtkcggmhllijgcaaLqd
import Derived.Test.YtkcggmhllijgcaaLea
import Derived.Test.YtkcggmhllijgcaaHle
import Derived.Laws.EntriesVeiled
namespace Go.Proofs.Ytkcggmhllijgcaa
open Go.RowKit Go.Deep
/-- a function value that is asked what is wrong with a machine -/
structure WrongOk (fid : FuncId) (caps : Array Value) (W : MachD → Option (List Int)) (n : Nat) (r : Option Nat) (R : Nat → Nat → World → Prop) (B0 : Nat) : Prop where
  call : ∀ (k s : Nat) (w : World) (v : Value) (m : MachD), R k s w → B0 ≤ w.heap.size → MachIn (Fx r w) w v m → Good m → ins m = n →
    Calls Try.prog fid (#[v] ++ caps) w fun e w' => ∃ u s', e = .returned u ∧ (W m = none → u = .slice none 0 0) ∧ (∀ t, W m = some t → IntsIn .i64 (fun b => w.heap.size ≤ b ∧ b < w'.heap.size) w' u t ∧ 0 < t.length) ∧ w.grownBy w' r ∧ s ≤ s' ∧ s' ≤ s + 1 ∧ R (k + 1) s' w'
  enter : ∀ (args : Array Value) (w : World), Sem.run Try.prog (callFunc fid args) w = .ok (.enter fid args) w
def letters (n : Nat) : List (List Int) := (List.range n).map fun (x : Nat) => [(x : Int)]
theorem letters_succ (n : Nat) : letters (n + 1) = letters n ++ [[(n : Int)]] := by unfold letters; rw [List.range_succ, List.map_append]; rfl
theorem letters_len (n : Nat) : (letters n).length = n := by simp [letters]
theorem letters_ok (n : Nat) (h3 : n ≤ 3) : TSz n (letters n) := by
  refine ⟨⟨fun x hx => ?_, fun t ht x hx => ?_⟩, fun t ht => ?_, by rw [letters_len]; omega⟩
  · unfold letters; exact List.mem_map.2 ⟨x, List.mem_range.2 hx, rfl⟩
  · unfold letters at ht
    obtain ⟨y, hy, rfl⟩ := List.mem_map.1 ht
    have := List.mem_range.1 hy
    rw [List.mem_singleton.1 hx]; omega
  · unfold letters at ht
    obtain ⟨y, _, rfl⟩ := List.mem_map.1 ht
    simp
theorem addT_tsz {n : Nat} {tails : List (List Int)} {t : List Int} (h : TSz n tails) (ht : ∀ x ∈ t, 0 ≤ x ∧ x < (n : Int)) (hl : t.length ≤ 20) (k : Nat) (hk : tails.length + k ≤ 1000) : TSz n (addT tails t k) :=
  ⟨h.ok.add ht k, fun y hy => by
    rcases mem_addT tails t k hy with h1 | ⟨j, rfl⟩
    · exact h.len y h1
    · rw [List.length_drop]; omega, by have := (addT_len tails t k).2; omega⟩
/-- how learning goes on: before each round, heads and tails -/
structure Rule (T : List Int → List Int) (W : MachD → Option (List Int)) (n : Nat) (Inv : Nat → List (List Int) → List (List Int) → Prop) : Prop where
  start : Inv 1 [[]] (letters n)
  max : ∀ tails hs, TSz n tails → HeadsOk T tails n hs → hs.length ≤ 6
  step : ∀ a heads tails r c l t, Inv a heads tails → TSz n tails → ClosedL T tails n (heads ++ r) → ClassOf (machL T tails (heads ++ r) n) c → LeastD (machL T tails (heads ++ r) n) c l → W l = some t → a ≤ 6 ∧ t.length ≤ 20 ∧ (∀ x ∈ t, 0 ≤ x ∧ x < (n : Int)) ∧ Inv (a + 1) (heads ++ r) (addT tails t t.length)
def LearnPost (T : List Int → List Int) (W : MachD → Option (List Int)) (n : Nat) (Inv : Nat → List (List Int) → List (List Int) → Prop) (r : Option Nat) (R : Nat → Nat → World → Prop) (w : World) (e : Ending) (w' : World) : Prop :=
  ∃ a heads tails r' c l v s, Inv a heads tails ∧ TSz n tails ∧ ClosedL T tails n (heads ++ r') ∧ ClassOf (machL T tails (heads ++ r') n) c ∧ LeastD (machL T tails (heads ++ r') n) c l ∧ W l = none ∧ 1 ≤ a ∧ a ≤ 7 ∧
    e = .returned (.tuple #[v, .int .i64 (a : Nat), .nilIface]) ∧ MachIn (fun b => w.heap.size ≤ b ∧ b < w'.heap.size) w' v l ∧ w.grownBy w' r ∧ R a s w' ∧ 1 ≤ s ∧ s ≤ 10000000
theorem heads0 (T : List Int → List Int) (tails : List (List Int)) (n : Nat) : HeadsOk T tails n [[]] :=
  ⟨by simp, rfl, fun i j h1 h2 => by simp at h2; omega, fun i hi x hx => by
    obtain rfl : i = 0 := by simpa using hi
    simp [rowAt] at hx, fun i hi => by
    obtain rfl : i = 0 := by simpa using hi
    simp [rowAt]⟩
set_option maxRecDepth 100000 in
set_option maxHeartbeats 4000000 in
theorem learn_any {fid wfid : FuncId} {caps wcaps : Array Value} {T : List Int → List Int} {W : MachD → Option (List Int)} {n : Nat} {r : Option Nat} {R : Nat → Nat → World → Prop} {B0 : Nat} {Inv : Nat → List (List Int) → List (List Int) → Prop} (HT : ∀ k, TellsOk fid caps T n r (R k) B0) (HW : WrongOk wfid wcaps W n r R B0) (HI : Rule T W n Inv) (n1 : 1 ≤ n) (n3 : n ≤ 3) (w : World) (hR : R 0 0 w) (hB : B0 ≤ w.heap.size) :
    Calls Try.prog 7 #[.int .i64 n, .func (Fn.func fid) #[] caps, .func (Fn.func wfid) #[] wcaps] w (LearnPost T W n Inv r R w) := by
  have HTT := hid HT
  have HWW := hid HW
  have HII := hid HI
  have HR := hid hR
  have hcf := HW.enter
  have LOW : Hid (∀ b, r = some b → b < w.heap.size) := fun b hb => by have := (HT 0).low b hb; omega
  obtain ⟨i1, hi1, hy0, hy1, hy2⟩ := info_parts infoRowL
  have z1 : ¬ (n : Int) < 1 := by omega
  have z2 : ¬ (3 : Int) < (n : Int) := by omega
  clear HT HW HI hR
  go_enter Try.func7, Try.ntmps7
  go_wp2_with fail
  obtain ⟨W1, hW1⟩ : ∃ W1, W1 = w.alloc (.cells #[.slice none 0 0, .slice none 0 0] 24) := ⟨_, rfl⟩
  obtain ⟨w2, hw2⟩ : ∃ w2, w2 = W1.alloc (.cells #[.slice none 0 0] 29) := ⟨_, rfl⟩
  obtain ⟨rb, hrb⟩ : ∃ rb, rb = w.heap.size := ⟨_, rfl⟩
  obtain ⟨hb, hhb⟩ : ∃ hb, hb = w.heap.size + 1 := ⟨_, rfl⟩
  obtain ⟨bt, hbt⟩ : ∃ bt, bt = w.heap.size + 1 + 1 := ⟨_, rfl⟩
  obtain ⟨w3, hw3⟩ : ∃ w3, w3 = w2.alloc (.cells #[.int .i64 (n : Int), .func (Fn.func fid) #[] caps, .slice (some ⟨hb, 0, none⟩) 1 1, .slice none 0 0] 53) := ⟨_, rfl⟩
  have SZ : Hid (W1.heap.size = w.heap.size + 1 ∧ w2.heap.size = w.heap.size + 2 ∧ w3.heap.size = w.heap.size + 3 ∧ rb = w.heap.size ∧ hb = w.heap.size + 1 ∧ bt = w.heap.size + 2) := by
    show _ ∧ _
    have h1 : W1.heap.size = w.heap.size + 1 := by rw [hW1]; simp
    have h2 : w2.heap.size = w.heap.size + 2 := by rw [hw2]; simp; omega
    have h3 : w3.heap.size = w.heap.size + 3 := by rw [hw3]; simp; omega
    exact ⟨h1, h2, h3, hrb, hhb, by omega⟩
  have GW1 : Hid (w.grownBy W1 r) := by show World.grownBy _ _ _; rw [hW1]; exact gr_below ((Below.refl _ _).alloc (Nat.le_refl _) _) r
  have GW2 : Hid (W1.grownBy w2 r) := by show World.grownBy _ _ _; rw [hw2]; exact gr_below ((Below.refl _ _).alloc (Nat.le_refl _) _) r
  have GW3 : Hid (w2.grownBy w3 r) := by show World.grownBy _ _ _; rw [hw3]; exact gr_below ((Below.refl _ _).alloc (Nat.le_refl _) _) r
  have LOW1 : Hid (∀ b, r = some b → b < W1.heap.size) := fun b hb => by have := LOW.out b hb; have := SZ.out; omega
  have XR : Hid (W1.heap[rb]? = some (.cells #[.slice none 0 0, .slice none 0 0] 24 (0, 0))) := by show _ = _; rw [hW1, hrb]; exact Has.new w _
  have M0 : Hid (TMem fid caps r n bt W1.heap.size (.slice (some ⟨hb, 0, none⟩) 1 1) (.slice none 0 0) [.slice none 0 0] [] [[]] (letters 0) w3) := by
    have o1 : w2.ownsRow W1.heap.size 29 1 (.slice (some ⟨hb, 0, none⟩) 1 1) 1 [.slice none 0 0] := by
      have := World.ownsRow_lit (e := 29) (size := 1) (base := W1.heap.size) W1 #[.slice none 0 0] 1 (Nat.le_refl _) (by unfold maxLen; omega) rfl
      rw [← hw2, show W1.heap.size = hb by have := SZ.out; omega] at this
      rw [show W1.heap.size = hb by have := SZ.out; omega]
      exact this
    refine ⟨?_, own_gr o1 GW3.out (fun b hb => LOW1.out b hb), World.ownsRow_nil _ _ _ _, fun i hi => ?_, fun i hi => by simp [letters] at hi, by have := SZ.out; omega, ?_, by simp [Value.ownBlock], fun b _ => by simp [Value.ownBlock], LOW1.out⟩
    · rw [hw3]; exact Has.newAt _ _ (by have := SZ.out; omega)
    · obtain rfl : i = 0 := by simpa using hi
      exact ⟨_, rfl, IntsIn.nil_⟩
    · have := SZ.out; simp [Value.ownBlock]; omega
  have R3 : Hid (R 0 0 w3) := (HTT.out 0).keep _ _ _ HR.out fun b hb => by
    have h := SZ.out
    rw [hw3, Below.heap_alloc w2 _ b (by omega), hw2, Below.heap_alloc W1 _ b (by omega), hW1, Below.heap_alloc w _ b (by omega)]
  have G3 := hid (GW2.out.trans GW3.out)
  rw [← hbt, ← hhb, ← hW1, ← hw2, ← hw3, ← hrb]
  clear hbt hhb hW1 hw2 hw3 hrb
  go_loopw [31] (fun xi wr => ∃ (x : Nat) (tv : Value) (tc : List Value), xi = .int .i64 x ∧ x ≤ n ∧ Hid (TMem fid caps r n bt W1.heap.size (.slice (some ⟨hb, 0, none⟩) 1 1) tv [.slice none 0 0] tc [[]] (letters x) wr) ∧ Hid (W1.grownBy wr r) ∧ Hid (R 0 0 wr)) (fun xi _ => n - (intOf xi).toNat)
  case atStart => exact ⟨0, _, [], rfl, Nat.zero_le _, M0, G3, R3⟩
  case round =>
    clear M0 G3 R3
    obtain ⟨x, tv, tc, rfl, hx, hM, hG, hR⟩ := hrel
    have sB := hG.out.size
    have o2 := hM.out.o2
    rw [letters_len] at o2
    have O2 := hid o2
    obtain ⟨At, ct, rfl, _, _⟩ := own_slL o2
    have lb := hM.out.lt
    clear o2
    by_cases hxn : x < n
    · have i1' : (x : Int) < (n : Int) := by omega
      obtain ⟨wo, hwo⟩ : ∃ wo, wo = wr := ⟨_, rfl⟩
      subst hwo
      have BA : Hid (Below wo.heap.size wo (wo.alloc (.cells #[.int .i64 (x : Int)] 3))) := (Below.refl _ _).alloc (Nat.le_refl _) _
      have MA := hid (hM.out.gr (gr_below BA.out r))
      have sz := SZ.out
      have IU : Hid (IntsIn .i64 (LF W1.heap.size bt (.slice (some ⟨hb, 0, none⟩) 1 1) (.slice At x ct) (wo.alloc (.cells #[.int .i64 (x : Int)] 3))) (wo.alloc (.cells #[.int .i64 (x : Int)] 3)) (.slice (some ⟨wo.heap.size, 0, none⟩) 1 1) [(x : Int)]) := by
        refine ⟨_, 1, rfl, by simp [maxLen], fun z hz => by rw [List.mem_singleton.1 hz]; exact WalkArith.wf_i64 (by omega), fun _ => ⟨wo.heap.size, 0, rfl, ⟨sB, by simp, by omega, fun e => ?_, fun e => ?_⟩, fun j hj => ?_⟩⟩
        · have := own_lt hM.out.o1 _ e; omega
        · have := own_lt O2.out _ e; omega
        · obtain rfl : j = 0 := by simpa using hj
          exact (Has.cell (Has.new wo _) 0).trans rfl
      have c3 : (wo.alloc (.cells #[.int .i64 (x : Int)] 3)).cell? ⟨bt, 3, none⟩ = some (.slice At x ct) := (Has.cell MA.out.box 3).trans rfl
      have c39 : wo.cell? ⟨bt, 3, none⟩ = some (.slice At x ct) := (Has.cell hM.out.box 3).trans rfl
      have OB := hid ((O2.out.alloc (.cells #[.int .i64 (x : Int)] 3)).alloc (.cells #[.slice (some ⟨wo.heap.size, 0, none⟩) 1 1] 29))
      have C1 : Hid (CellsIn (fun b => b = wo.heap.size + 1) ((wo.alloc (.cells #[.int .i64 (x : Int)] 3)).alloc (.cells #[.slice (some ⟨wo.heap.size, 0, none⟩) 1 1] 29)) 1 (.slice (some ⟨wo.heap.size + 1, 0, none⟩) 1 1) 1 [.slice (some ⟨wo.heap.size, 0, none⟩) 1 1]) := cells_oneAt _ _ _ (by simp)
      have LS := hid (letters_succ x)
      have B2' := hid hM.out.b2
      clear sz
      go_wp2_with (at_builtin; refine wpList_app _ rfl (.tmp 38) (.tmp 41) 22 rfl W1.heap.size 29 i1 (.slice none 0 0) 1 24 Try.underlying22 hi1 hy0 hy1 hy2 rfl (by decide) (.slice At x ct) x tc rfl (by exact OB.out) _ (.slice (some ⟨wo.heap.size + 1, 0, none⟩) 1 1) 1 [.slice (some ⟨wo.heap.size, 0, none⟩) 1 1] rfl (by exact C1.out) (by intro u hu; simp at hu; subst hu; rfl) (by unfold maxLen; omega) (by omega) (by show W1.heap.size ≤ ((wo.alloc _).alloc _).heap.size; simp; omega) ?_; intro v7 w7 hown7 hgrow7 hat7; have G7 : Hid ((wo.alloc (.cells #[.int .i64 (x : Int)] 3)).grownBy w7 (Value.ownBlock (.slice At x ct))) := (World.grownBy_alloc _ _ _).trans ⟨hgrow7.os, hgrow7.tape, hgrow7.output, hgrow7.size, hgrow7.block⟩; have AT7 : Hid (v7.ownBlock = (Value.slice At x ct).ownBlock ∨ ∃ b, v7.ownBlock = some b ∧ (wo.alloc (.cells #[.int .i64 (x : Int)] 3)).heap.size ≤ b) := hat7.imp id (fun e => ⟨_, e, by simp⟩); have OW7 := hid hown7; have c7 : w7.cell? ⟨bt, 3, none⟩ = some (.slice At x ct) := (World.cell?_of_block (a := ⟨bt, 3, none⟩) (G7.out.block bt (by simp; omega) (fun e => B2'.out e.symm))).trans c3; have f7 : w7.frozen? ⟨bt, 3, none⟩ = false := (World.frozen?_of_block (a := ⟨bt, 3, none⟩) (G7.out.block bt (by simp; omega) (fun e => B2'.out e.symm))).trans (Has.froz MA.out.box 3); obtain ⟨A7, c7', rfl, _, _⟩ := own_slL hown7; clear hown7 hgrow7 hat7)
      have M8 : Hid (TMem fid caps r n bt W1.heap.size (.slice (some ⟨hb, 0, none⟩) 1 1) (.slice A7 (x + 1) c7') [.slice none 0 0] (tc ++ [.slice (some ⟨wo.heap.size, 0, none⟩) 1 1]) [[]] (letters (x + 1)) (w7.setCell ⟨bt, 3, none⟩ (.slice A7 (x + 1) c7'))) := by
        show TMem _ _ _ _ _ _ _ _ _ _ _ _ _
        rw [LS.out]
        exact MA.out.tailApp (by rw [letters_len]; exact OW7.out) G7.out AT7.out IU.out
      have G8 : Hid (W1.grownBy (w7.setCell ⟨bt, 3, none⟩ (.slice A7 (x + 1) c7')) r) := by
        have g1 := gr_own0 (hG.out.trans (gr_below BA.out r)) G7.out (fun b hb => own_ge O2.out b hb)
        exact ⟨g1.os, g1.tape, g1.output, by have := g1.size; simpa using this, fun b hb hr => (Below.heap_setCell w7 _ _ b (by have := hM.out.lo; show b ≠ bt; omega)).trans (g1.block b hb hr)⟩
      have R8 : Hid (R 0 0 (w7.setCell ⟨bt, 3, none⟩ (.slice A7 (x + 1) c7'))) := (HTT.out 0).keep _ _ _ hR.out fun b hb => by
        have l1 := hM.out.lo
        have l2 := SZ.out
        exact (Below.heap_setCell w7 _ _ b (by show b ≠ bt; omega)).trans ((G7.out.block b (by simp; omega) (fun e => by have := own_ge O2.out b e.symm; omega)).trans (Below.heap_alloc wo _ b (by omega)))
      go_roundw
      case rel => exact ⟨x + 1, _, _, by go_num, by omega, M8, G8, R8⟩
      case measure => simp [intOf]; omega
    · obtain rfl : n = x := by omega
      go_wp2_with fail
      go_loopw [11] (fun ai wr => ∃ (a s : Nat) (heads tails : List (List Int)) (hv tv : Value) (hc tc : List Value), ai = .int .i64 a ∧ 1 ≤ a ∧ a ≤ 7 ∧ tails.length ≤ 3 + 20 * (a - 1) ∧ s ≤ 40000 * (a - 1) ∧ Hid (Inv a heads tails) ∧ Hid (TSz n tails) ∧ Hid (HeadsOk T tails n heads) ∧ Hid (TMem fid caps r n bt W1.heap.size hv tv hc tc heads tails wr) ∧ Hid (W1.grownBy wr r) ∧ Hid (R (a - 1) s wr)) (fun ai _ => 8 - (intOf ai).toNat)
      case atStart => exact ⟨1, 0, [[]], letters n, _, _, _, tc, rfl, by omega, by omega, by rw [letters_len]; omega, by omega, HII.out.start, letters_ok n n3, heads0 _ _ _, hM, hG, hR⟩
      case round =>
        clear hM hG hR lb sB hxn hx
        obtain ⟨a, s, heads, tails, hv, tv, hc, tc', rfl, a1, a7, htl, hs, hInv, hTS, hH, hM, hG, hR⟩ := hrel
        have sB := hG.out.size
        have e1 : (a : Int) ≤ 7 := by omega
        obtain ⟨wo, hwo⟩ : ∃ wo, wo = wr := ⟨_, rfl⟩
        subst hwo
        go_wp2_with fail
        refine (closed_any (HTT.out (a - 1)) bt hv tv hc tc' heads tails s W1 wo hM.out hR.out (by have := SZ.out; omega) hG.out hTS.out hH.out n3 (fun hs h => HII.out.max tails hs hTS.out h)).mono ?_
        rintro e w4 ⟨rfl, hv4, hc4, r4, hC4, hM4, hG4, s4, hs41, hs42, hR4⟩
        have C4 := hid hC4
        have M4 := hid hM4
        have G4 := hid hG4
        have R4 := hid hR4
        have S4 : Hid (s ≤ s4 ∧ s4 ≤ s + 126 * tails.length) := ⟨hs41, hs42⟩
        have H64 := HII.out.max tails _ hTS.out hC4.1
        have s4B := hG4.size
        clear hC4 hM4 hG4 hR4 hs41 hs42
        go_wp2_with fail
        refine (machine_any (HTT.out (a - 1)) bt hv4 tv (heads ++ r4) tails s4 w4 M4.out.tin R4.out (by have := SZ.out; omega) hTS.out C4.out.1 n3 H64).mono ?_
        rintro e w5 ⟨v5, rfl, hm5, hg5, s5, hs51, hs52, hR5⟩
        have s5B := hg5.size
        have M5 := hid (M4.out.gr hg5)
        have G5 := hid (G4.out.trans hg5)
        have R5 := hid hR5
        have S5 : Hid (s4 + 1 ≤ s5 ∧ s5 ≤ s4 + 18 * (1 + 7 * tails.length)) := ⟨by
          have h1 : 1 * 1 ≤ (heads ++ r4).length * n := Nat.mul_le_mul C4.out.1.one n1
          omega, hs52⟩
        have MI5 : Hid (MachIn (fun b => b < w5.heap.size) w5 v5 (machL T tails (heads ++ r4) n)) := hm5.more fun b hb => hb.2
        have GD := hid (machL_good (T := T) (tails := tails) (n := n) C4.out.1.one H64 n1 n3)
        obtain ⟨q1, q2, rfl, ⟨A51, c51, rfl, -, -⟩, ⟨A52, c52, rfl, -, -⟩⟩ := hm5
        clear hg5 hR5 hs51 hs52
        go_wp2_with fail
        refine (least_ok (machL T tails (heads ++ r4) n) _ _ w5 (fun b hb => hb) MI5.out GD.out).mono ?_
        rintro e w6 ⟨v6, c6, l, rfl, hco, hld, hm6, hb6⟩
        have CO := hid hco
        have LD := hid hld
        have s6B := hb6.size
        have M6 := hid (M5.out.gr (gr_below hb6 r))
        have G6 := hid (G5.out.trans (gr_below hb6 r))
        have R6 := hid ((HTT.out (a - 1)).below R5.out (by have := SZ.out; omega) hb6)
        have LP := hid (least_props GD.out hco hld)
        have MF6 : Hid (MachIn (fun b => w5.heap.size ≤ b ∧ b < w6.heap.size) w6 v6 l) := hm6
        obtain ⟨o1, o2, rfl, ⟨A61, c61, rfl, -, -⟩, ⟨A62, c62, rfl, -, -⟩⟩ := hm6
        clear hco hld hb6
        have LG := hid LP.out.1
        have LI : Hid (ins l = n) := LP.out.2.1.trans (machL_ins C4.out.1.one)
        obtain ⟨w7, hw7⟩ : ∃ w7, w7 = w6.alloc (.cells #[.slice A61 l.out.length c61, .slice A62 l.next.length c62] 24) := ⟨_, rfl⟩
        obtain ⟨mb, hmb⟩ : ∃ mb, mb = w6.heap.size := ⟨_, rfl⟩
        have s7B : w7.heap.size = w6.heap.size + 1 := by rw [hw7]; simp
        have HMB := hid hmb
        have NMB : Hid (some mb ≠ r) := fun e => by have := LOW1.out mb e.symm; omega
        have B7 : Hid (Below w6.heap.size w6 w7) := by show Below _ _ _; rw [hw7]; exact (Below.refl _ _).alloc (Nat.le_refl _) _
        have X7 : Hid (w7.heap[mb]? = some (.cells #[.slice A61 l.out.length c61, .slice A62 l.next.length c62] 24 (0, 0))) := by show _ = _; rw [hw7, hmb]; exact Has.new w6 _
        have SX7 : Hid (w7.cell? ⟨mb, 0, none⟩ = some (.slice A61 l.out.length c61) ∧ w7.cell? ⟨mb, 1, none⟩ = some (.slice A62 l.next.length c62)) := ⟨(Has.cell X7.out 0).trans rfl, (Has.cell X7.out 1).trans rfl⟩
        have M7 := hid (M6.out.gr (gr_below B7.out r))
        have G7 := hid (G6.out.trans (gr_below B7.out r))
        have R7 := hid ((HTT.out (a - 1)).below R6.out (by have := SZ.out; omega) B7.out)
        have MM7 := hid ((MF6.out.keep (Same.of_below B7.out fun b h => h.2)).more (F' := fun b => W1.heap.size ≤ b ∧ b < w7.heap.size) fun b h => by have := h.1; have := h.2; omega)
        have RR7 : Hid (RowsIn (fun b => b < w7.heap.size) w7 (.slice A61 l.out.length c61) l.out ∧ RowsIn (fun b => b < w7.heap.size) w7 (.slice A62 l.next.length c62) l.next) := by
          obtain ⟨x1, x2, e, h1, h2⟩ := MM7.out
          injection e with e
          have e3 : x1 = .slice A61 l.out.length c61 ∧ x2 = .slice A62 l.next.length c62 := by
            have := congrArg Array.toList e
            simp at this
            exact ⟨this.1.symm, this.2.symm⟩
          rw [e3.1] at h1
          rw [e3.2] at h2
          exact ⟨h1.more fun b h => h.2, h2.more fun b h => h.2⟩
        have RO7 := hid RR7.out.1
        have RN7 := hid RR7.out.2
        have hcf2 := HWW.out.enter
        go_wp2_with fail
        rw [← hw7, ← hmb]
        clear hw7 hmb RR7
        cases hWl' : W l with
        | none =>
          have hWl := hid hWl'
          clear hWl'
          go_region_held3 (fun w' => w'.cell? ⟨mb, 0, none⟩ = some (.slice A61 l.out.length c61) ∧ w'.cell? ⟨mb, 1, none⟩ = some (.slice A62 l.next.length c62)) (first | exact SX7.out | exact SX8.out | exact SX9.out | exact SX10.out) (first
            | (go_simp; refine (HWW.out.call (a - 1) s5 w9 _ l R9.out (by have := SZ.out; omega) AR9.out LG.out LI.out).mono ?_; rintro e w10 ⟨u10, s10, rfl, hn10, ht10, hg10, hs101, hs102, hR10⟩; have G10 : Hid (W1.grownBy w10 r) := hid (G9.out.trans hg10); have M10 := hid (M9.out.gr hg10); have R10 := hid hR10; have S10 : Hid (s5 ≤ s10 ∧ s10 ≤ s5 + 1) := ⟨hs101, hs102⟩; have X10 : Hid (w10.heap[mb]? = some (.cells #[.slice A61 l.out.length c61, .slice A62 l.next.length c62] 24 (0, 0))) := (gr_block hg10 (Has.lt X9.out) NMB.out).trans X9.out; have SX10 : Hid (w10.cell? ⟨mb, 0, none⟩ = some (.slice A61 l.out.length c61) ∧ w10.cell? ⟨mb, 1, none⟩ = some (.slice A62 l.next.length c62)) := ⟨(Has.cell X10.out 0).trans rfl, (Has.cell X10.out 1).trans rfl⟩; have MM10 := hid (MM9.out.keep (w' := w10) fun b hb => gr_block hg10 (by have := hb.2; omega) (fun e => by have := LOW1.out b e.symm; have := hb.1; omega)); obtain rfl := hn10 hWl.out; clear hn10 ht10 hg10 hs101 hs102 hR10)
            | (go_simp; go_at_call 24; refine (cloned_any l.next (fun b => b < w8.heap.size) _ w8 (fun b h => h) (K8.out) (by have := LG.out; have := LG.out.next; have := LG.out.le; omega) (fun i hi => by have h1 := LG.out.next; have := LG.out.rowN i (by omega); have := LG.out.ins3; omega)).mono ?_; rintro e w9 ⟨u9, rfl, hr9, hb9⟩; have s9B := hb9.size; have G9 : Hid (W1.grownBy w9 r) := hid (G8.out.trans (gr_below hb9 r)); have M9 := hid (M8.out.gr (gr_below hb9 r)); have R9 := hid ((HTT.out (a - 1)).below R8.out (by have := SZ.out; omega) hb9); have X9 := hid (Has.below X8.out hb9 (Has.lt X8.out)); have SX9 : Hid (w9.cell? ⟨mb, 0, none⟩ = some (.slice A61 l.out.length c61) ∧ w9.cell? ⟨mb, 1, none⟩ = some (.slice A62 l.next.length c62)) := ⟨(Has.cell X9.out 0).trans rfl, (Has.cell X9.out 1).trans rfl⟩; have MM9 := hid (MM8.out.keep (w' := w9) fun b hb => hb9.block b (by have := hb.2; omega)); have AR9 : Hid (MachIn (Fx r w9) w9 (.agg #[.slice A8 l.out.length c8, u9]) l) := ⟨_, _, rfl, (C8.out.keep (Same.of_below hb9 fun b h => h.2)).more (fun b h => ⟨by have := h.2; omega, fun e => by have := LOW1.out b e.symm; have := h.1; omega⟩), hr9.more (fun b h => ⟨h.2, fun e => by have := LOW1.out b e.symm; have := h.1; omega⟩)⟩; obtain ⟨A9, c9, rfl, -, -⟩ := hr9; clear hb9)
            | (go_simp; go_at_call 24; refine (cloned_any l.out (fun b => b < w7.heap.size) _ w7.drew (fun b h => h) (RO7.out.keep (w' := w7.drew) fun _ _ => rfl) (by have := LG.out.le; omega) (fun i hi => by have := LG.out.rowO i hi; have := LG.out.ins3; omega)).mono ?_; rintro e w8 ⟨u8, rfl, hr8, hb8⟩; have s8B : w7.heap.size ≤ w8.heap.size := hb8.size; have B8 : Hid (Below w7.heap.size w7 w8) := (Below.refl w7.heap.size w7).drew.trans hb8; have G8 : Hid (W1.grownBy w8 r) := hid (G7.out.trans (gr_below B8.out r)); have M8 := hid (M7.out.gr (gr_below B8.out r)); have R8 := hid ((HTT.out (a - 1)).below R7.out (by have := SZ.out; omega) B8.out); have X8 := hid (Has.below X7.out B8.out (Has.lt X7.out)); have SX8 : Hid (w8.cell? ⟨mb, 0, none⟩ = some (.slice A61 l.out.length c61) ∧ w8.cell? ⟨mb, 1, none⟩ = some (.slice A62 l.next.length c62)) := ⟨(Has.cell X8.out 0).trans rfl, (Has.cell X8.out 1).trans rfl⟩; have MM8 := hid (MM7.out.keep (w' := w8) fun b hb => B8.out.block b hb.2); have K8 : Hid (RowsIn (fun b => b < w8.heap.size) w8 (.slice A62 l.next.length c62) l.next) := (RN7.out.keep (Same.of_below B8.out fun b h => h)).more (fun b h => by omega); have C8 : Hid (RowsIn (fun b => w7.heap.size ≤ b ∧ b < w8.heap.size) w8 u8 l.out) := hr8; obtain ⟨A8, c8, rfl, -, -⟩ := hr8; clear hb8))
          have hrb : rb < W1.heap.size := by have := SZ.out; omega
          have XR10 : w10.heap[rb]? = some (.cells #[.slice none 0 0, .slice none 0 0] 24 (0, 0)) := (gr_block G10.out hrb (fun e => by have := LOW.out rb e.symm; have := SZ.out; omega)).trans XR.out
          have x0 := (Has.cell XR10 0).trans rfl
          have x1 := (Has.cell XR10 1).trans rfl
          have fx0 := Has.froz XR10 0
          have fx1 := Has.froz XR10 1
          have m0 := SX10.out.1
          have m1 := SX10.out.2
          have P : Hid (LearnPost T W n Inv r R w (.returned (.tuple #[.agg #[.slice A61 l.out.length c61, .slice A62 l.next.length c62], .int .i64 (a : Nat), .nilIface])) ((w10.setCell ⟨rb, 0, none⟩ (.slice A61 l.out.length c61)).setCell ⟨rb, 1, none⟩ (.slice A62 l.next.length c62))) := by
            have kk : ∀ b, b ≠ rb → ((w10.setCell ⟨rb, 0, none⟩ (.slice A61 l.out.length c61)).setCell ⟨rb, 1, none⟩ (.slice A62 l.next.length c62)).heap[b]? = w10.heap[b]? := fun b hb => (Below.heap_setCell _ _ _ b hb).trans (Below.heap_setCell w10 _ _ b hb)
            have sz := SZ.out
            refine ⟨a, heads, tails, r4, c6, l, _, s10, hInv.out, hTS.out, C4.out, CO.out, LD.out, hWl.out, a1, a7, rfl, ?_, ?_, ?_, ?_, ?_⟩
            · refine (MM10.out.keep fun b hb => kk b (by have := hb.1; omega)).more fun b hb => ⟨by have := hb.1; omega, ?_⟩
              have := hb.2
              have h1 := G10.out.size
              show b < ((w10.setCell _ _).setCell _ _).heap.size
              simp
              have h2 := Has.lt X10.out
              have h3 := HMB.out
              omega
            · have g := GW1.out.trans G10.out
              exact ⟨g.os, g.tape, g.output, by have := g.size; simp; omega, fun b hb hr => (kk b (by omega)).trans (g.block b hb hr)⟩
            · have h1 := R10.out
              rw [Nat.sub_add_cancel a1] at h1
              exact (HTT.out a).keep _ _ _ h1 fun b hb => kk b (by omega)
            · have := S10.out; have := S5.out; omega
            · have h1 := S10.out; have h2 := S5.out; have h3 := S4.out; omega
          clear XR10
          have eqn := fun w => Lib.run_eql_slice_nil (P := Try.prog) w 29 3 none 0 0 0 0 Try.underlying29
          go_wp2_with fail
          refine bodyPost_ret (v := .tuple #[.agg #[.slice A61 l.out.length c61, .slice A62 l.next.length c62], .int .i64 (a : Nat), .nilIface]) (by simp [results, Try.results7, go_sem, x0, x1]) rfl ?_
          exact P.out
        | some t =>
          have hWl := hid hWl'
          clear hWl'
          go_region_held3 (fun w' => w'.cell? ⟨mb, 0, none⟩ = some (.slice A61 l.out.length c61) ∧ w'.cell? ⟨mb, 1, none⟩ = some (.slice A62 l.next.length c62)) (first | exact SX7.out | exact SX8.out | exact SX9.out | exact SX10.out) (first
            | (go_simp; refine (HWW.out.call (a - 1) s5 w9 _ l R9.out (by have := SZ.out; omega) AR9.out LG.out LI.out).mono ?_; rintro e w10 ⟨u10, s10, rfl, hn10, ht10, hg10, hs101, hs102, hR10⟩; have G10 : Hid (W1.grownBy w10 r) := hid (G9.out.trans hg10); have M10 := hid (M9.out.gr hg10); have R10 := hid hR10; have S10 : Hid (s5 ≤ s10 ∧ s10 ≤ s5 + 1) := ⟨hs101, hs102⟩; have X10 : Hid (w10.heap[mb]? = some (.cells #[.slice A61 l.out.length c61, .slice A62 l.next.length c62] 24 (0, 0))) := (gr_block hg10 (Has.lt X9.out) NMB.out).trans X9.out; have SX10 : Hid (w10.cell? ⟨mb, 0, none⟩ = some (.slice A61 l.out.length c61) ∧ w10.cell? ⟨mb, 1, none⟩ = some (.slice A62 l.next.length c62)) := ⟨(Has.cell X10.out 0).trans rfl, (Has.cell X10.out 1).trans rfl⟩; have MM10 := hid (MM9.out.keep (w' := w10) fun b hb => gr_block hg10 (by have := hb.2; omega) (fun e => by have := LOW1.out b e.symm; have := hb.1; omega)); obtain ⟨hi10, hp10⟩ := ht10 t hWl.out; have I10 := hid hi10; have TP := hid hp10; obtain ⟨AU, cu, rfl, hcu, -, hau⟩ := hi10; obtain ⟨gu, ou, rfl, hgu, -⟩ := hau hp10; have GU := hid hgu; clear hn10 ht10 hg10 hs101 hs102 hR10)
            | (go_simp; go_at_call 24; refine (cloned_any l.next (fun b => b < w8.heap.size) _ w8 (fun b h => h) (K8.out) (by have := LG.out; have := LG.out.next; have := LG.out.le; omega) (fun i hi => by have h1 := LG.out.next; have := LG.out.rowN i (by omega); have := LG.out.ins3; omega)).mono ?_; rintro e w9 ⟨u9, rfl, hr9, hb9⟩; have s9B := hb9.size; have G9 : Hid (W1.grownBy w9 r) := hid (G8.out.trans (gr_below hb9 r)); have M9 := hid (M8.out.gr (gr_below hb9 r)); have R9 := hid ((HTT.out (a - 1)).below R8.out (by have := SZ.out; omega) hb9); have X9 := hid (Has.below X8.out hb9 (Has.lt X8.out)); have SX9 : Hid (w9.cell? ⟨mb, 0, none⟩ = some (.slice A61 l.out.length c61) ∧ w9.cell? ⟨mb, 1, none⟩ = some (.slice A62 l.next.length c62)) := ⟨(Has.cell X9.out 0).trans rfl, (Has.cell X9.out 1).trans rfl⟩; have MM9 := hid (MM8.out.keep (w' := w9) fun b hb => hb9.block b (by have := hb.2; omega)); have AR9 : Hid (MachIn (Fx r w9) w9 (.agg #[.slice A8 l.out.length c8, u9]) l) := ⟨_, _, rfl, (C8.out.keep (Same.of_below hb9 fun b h => h.2)).more (fun b h => ⟨by have := h.2; omega, fun e => by have := LOW1.out b e.symm; have := h.1; omega⟩), hr9.more (fun b h => ⟨h.2, fun e => by have := LOW1.out b e.symm; have := h.1; omega⟩)⟩; obtain ⟨A9, c9, rfl, -, -⟩ := hr9; clear hb9)
            | (go_simp; go_at_call 24; refine (cloned_any l.out (fun b => b < w7.heap.size) _ w7.drew (fun b h => h) (RO7.out.keep (w' := w7.drew) fun _ _ => rfl) (by have := LG.out.le; omega) (fun i hi => by have := LG.out.rowO i hi; have := LG.out.ins3; omega)).mono ?_; rintro e w8 ⟨u8, rfl, hr8, hb8⟩; have s8B : w7.heap.size ≤ w8.heap.size := hb8.size; have B8 : Hid (Below w7.heap.size w7 w8) := (Below.refl w7.heap.size w7).drew.trans hb8; have G8 : Hid (W1.grownBy w8 r) := hid (G7.out.trans (gr_below B8.out r)); have M8 := hid (M7.out.gr (gr_below B8.out r)); have R8 := hid ((HTT.out (a - 1)).below R7.out (by have := SZ.out; omega) B8.out); have X8 := hid (Has.below X7.out B8.out (Has.lt X7.out)); have SX8 : Hid (w8.cell? ⟨mb, 0, none⟩ = some (.slice A61 l.out.length c61) ∧ w8.cell? ⟨mb, 1, none⟩ = some (.slice A62 l.next.length c62)) := ⟨(Has.cell X8.out 0).trans rfl, (Has.cell X8.out 1).trans rfl⟩; have MM8 := hid (MM7.out.keep (w' := w8) fun b hb => B8.out.block b hb.2); have K8 : Hid (RowsIn (fun b => b < w8.heap.size) w8 (.slice A62 l.next.length c62) l.next) := (RN7.out.keep (Same.of_below B8.out fun b h => h)).more (fun b h => by omega); have C8 : Hid (RowsIn (fun b => w7.heap.size ≤ b ∧ b < w8.heap.size) w8 u8 l.out) := hr8; obtain ⟨A8, c8, rfl, -, -⟩ := hr8; clear hb8))
          obtain ⟨a6, t20, tlt, hInv'⟩ := HII.out.step a heads tails r4 c6 l t hInv.out hTS.out C4.out CO.out LD.out hWl.out
          have INV' := hid hInv'
          have TLT := hid tlt
          have R10' : Hid (R a s10 w10) := by
            have h1 := R10.out
            rw [Nat.sub_add_cancel a1] at h1
            exact h1
          have SB10 : s10 ≤ 40000 * a := by have h1 := S10.out; have h2 := S5.out; have h3 := S4.out; omega
          have TV9 := hid (own_lt M9.out.o2)
          have WFT : Hid (∀ z ∈ t, (Lit.int .i64 z).wf = true) := fun z hz => by
            have := TLT.out z hz
            obtain ⟨q, rfl⟩ : ∃ q : Nat, z = q := ⟨z.toNat, by omega⟩
            exact WalkArith.wf_i64 (by omega)
          have tu : t.length ≤ cu ∧ cu ≤ maxLen := hcu
          have IT10 : Hid (IntsIn .i64 (fun b => b = gu) w10 (.slice (some ⟨gu, ou, none⟩) t.length cu) t) := by
            obtain ⟨x1, x2, e, h1, h2, h3⟩ := I10.out
            injection e with e1 _ e2
            subst e1 e2
            refine ⟨_, _, rfl, h1, h2, fun h => ?_⟩
            obtain ⟨b, off, e, _, hc⟩ := h3 h
            injection e with e
            injection e with e1 e2
            subst e1 e2
            exact ⟨gu, ou, rfl, rfl, hc⟩
          clear hInv' tlt hcu hau hp10
          have eqn := fun w => Lib.run_eql_slice_nil (P := Try.prog) w 29 3 (some ⟨gu, ou, none⟩) t.length cu 0 0 Try.underlying29
          go_wp2_with fail
          go_loopw [79] (fun ki wr => ∃ (k : Nat) (tv' : Value) (tc2 : List Value), ki = .int .i64 k ∧ k ≤ t.length ∧ Hid (TMem fid caps r n bt W1.heap.size hv4 tv' hc4 tc2 (heads ++ r4) (addT tails t k) wr) ∧ Hid (W1.grownBy wr r) ∧ Hid (R a s10 wr) ∧ Hid (IntsIn .i64 (fun b => b = gu) wr (.slice (some ⟨gu, ou, none⟩) t.length cu) t) ∧ Hid (∀ b, tv'.ownBlock = some b → b ≠ gu) ∧ gu < wr.heap.size) (fun ki _ => t.length - (intOf ki).toNat)
          case atStart => exact ⟨0, _, _, rfl, Nat.zero_le _, M10, G10, R10', IT10, fun b hb => by have := TV9.out b hb; have := GU.out.1; omega, GU.out.2⟩
          case round =>
            clear M10 G10 R10 R10' IT10
            obtain ⟨k, tv', tc2, rfl, hk, hMk, hGk, hRk, hIk, hNk, hgk⟩ := hrel
            by_cases hkt : k < t.length
            · have i1' : (k : Int) < (t.length : Int) := by omega
              have i2' : (k : Int) ≤ (t.length : Int) := by omega
              have i3' : (k : Int) ≤ (cu : Int) := by omega
              have i4' : (t.length : Int) ≤ (cu : Int) := by omega
              have t1 : ((cu : Int) = (k : Int)) = False := eq_false (by omega)
              have t3 : (cu = k) = False := eq_false (by omega)
              have t4 : (k = cu) = False := eq_false (by omega)
              have ID := hid (ints_dropL hIk.out (Nat.le_of_lt hkt))
              have gN : gu ≠ bt := by have := GU.out.1; have := M9.out.lt; omega
              have sz := hid SZ.out
              obtain ⟨wo, hwo⟩ : ∃ wo, wo = wr := ⟨_, rfl⟩
              subst hwo
              go_wp2_with fail
              obtain ⟨td, htd⟩ : ∃ td, td = t.drop k := ⟨_, rfl⟩
              have HTD := hid htd
              rw [← htd] at ID
              obtain ⟨LV, hLV⟩ : ∃ LV, LV = td.length := ⟨_, rfl⟩
              have HLV := hid hLV
              have LV20 : LV ≤ 20 := by rw [hLV, htd, List.length_drop]; omega
              have LVe : t.length - k = LV := by rw [hLV, htd, List.length_drop]
              have WFD : Hid (∀ z ∈ td, (Lit.int .i64 z).wf = true) := fun z hz => by rw [htd] at hz; exact WFT.out z (List.mem_of_mem_drop hz)
              clear htd
              refine (clone_any td (fun b => b = gu) _ wo (fun b hb => by rw [hb]; exact hgk) ID.out (by omega)).mono ?_
              rintro e w5' ⟨v5', rfl, ho5, -, hb5⟩
              rw [← hLV] at ho5
              have O5' := hid ho5
              have sB5 := hb5.size
              have M5' := hid (hMk.out.gr (gr_below hb5 r))
              have G5' := hid (hGk.out.trans (gr_below hb5 r))
              have R5' := hid ((HTT.out a).below hRk.out (by have := sz.out; have := hGk.out.size; omega) hb5)
              have T5' := hid (hIk.out.keep (w' := w5') fun b hb => hb5.block b (by rw [hb]; exact hgk))
              obtain ⟨AV, cV, rfl, -, -⟩ := own_slL ho5
              clear ho5 hb5 hLV
              have BA : Hid (Below w5'.heap.size w5' (w5'.alloc (.cells #[.slice AV LV cV] 29))) := (Below.refl _ _).alloc (Nat.le_refl _) _
              have XG := hid (Has.new w5' (.cells #[.slice AV LV cV] 29))
              have M6' := hid (M5'.out.gr (gr_below BA.out r))
              have G6' := hid (G5'.out.trans (gr_below BA.out r))
              have R6' := hid ((HTT.out a).below R5'.out (by have := sz.out; have := G5'.out.size; omega) BA.out)
              have T6' := hid (T5'.out.keep (w' := w5'.alloc (.cells #[.slice AV LV cV] 29)) fun b hb => Below.heap_alloc _ _ b (by rw [hb]; omega))
              have O6' := hid (O5'.out.alloc (.cells #[.slice AV LV cV] 29))
              obtain ⟨w6', hw6'⟩ : ∃ y, y = w5'.alloc (.cells #[.slice AV LV cV] 29) := ⟨_, rfl⟩
              obtain ⟨g, hg⟩ : ∃ g, g = w5'.heap.size := ⟨_, rfl⟩
              have HG := hid hg
              have s6' : w6'.heap.size = w5'.heap.size + 1 := by rw [hw6']; simp
              rw [← hw6'] at XG M6' G6' R6' T6' O6' BA
              rw [← hg] at XG
              have I6' : Hid (IntsIn .i64 (Fx r w6') w6' (.slice AV LV cV) td) := ints_own O6'.out WFD.out (fun b hb => by have := LOW1.out b hb; have := hGk.out.size; omega)
              have NR : Hid (some g ≠ r) := fun e => by have := LOW1.out g e.symm; have := hGk.out.size; have := HG.out; omega
              have ct6 := (Has.cell M6'.out.box 3).trans rfl
              have o2 := M6'.out.o2
              obtain ⟨LT, hLT⟩ : ∃ LT, LT = (addT tails t k).length := ⟨_, rfl⟩
              have HLT := hid hLT
              rw [← hLT] at o2
              have O26 := hid o2
              have LTB : LT ≤ 3 + 20 * (a - 1) + 20 := by have := (addT_len tails t k).2; omega
              obtain ⟨AT, cT, rfl, -, -⟩ := own_slL o2
              clear o2 hLT hg
              go_upto_region 22 with fail
              rw [← hw6', ← HG.out]
              clear hw6'
              obtain ⟨tb, htb⟩ : ∃ tb : Bool, tb = decide (td ∈ addT tails t k) := ⟨_, rfl⟩
              have TB := hid htb
              have e9 : decide (td ∈ addT tails t k) = tb := htb.symm
              clear htb
              go_upto_if 92 with (go_at_call 25; refine (cont_any (HTT.out a) (addT tails t k) (.slice AT LT cT) g (.slice AV LV cV) td s10 w6' M6'.out.tin.ts ⟨XG.out, NR.out, I6'.out⟩ R6'.out).mono ?_; rintro e w7 ⟨rfl, hg7, hR7⟩)
              have G7' := hid (G6'.out.trans hg7)
              have M7' := hid (M6'.out.gr hg7)
              have R7' := hid hR7
              have s7 := hg7.size
              have T7' := hid (T6'.out.keep (w' := w7) fun b hb => gr_block hg7 (by rw [hb]; omega) (fun e => by have := LOW1.out b e.symm; have := GU.out.1; have := M9.out.lt; have := M9.out.lo; omega))
              have XG7 : Hid (w7.heap[g]? = some (.cells #[.slice AV LV cV] 29 (0, 0))) := (gr_block hg7 (Has.lt XG.out) NR.out).trans XG.out
              have O7' := hid (own_gr O6'.out hg7 (fun b hb => by have := LOW1.out b hb; have := hGk.out.size; omega))
              have o27 := M7'.out.o2
              rw [← HLT.out] at o27
              have O27 := hid o27
              have g7 : gu < w7.heap.size := by omega
              clear hg7 hR7 o27 ct6
              clear e9
              cases tb with
              | true =>
                have ES : Hid (addT tails t (k + 1) = addT tails t k) := by
                  show _ = _
                  simp only [addT]
                  rw [if_pos (by rw [← HTD.out]; exact of_decide_eq_true TB.out.symm)]
                go_wp2_with fail
                go_roundw
                case rel => exact ⟨k + 1, _, tc2, by go_num, by omega, by rw [ES.out]; exact M7'.out, G7', R7', T7', hNk, g7⟩
                case measure => simp [intOf]; omega
              | false =>
                have ES : Hid (addT tails t (k + 1) = addT tails t k ++ [td]) := by
                  show _ = _
                  simp only [addT]
                  rw [if_neg (by rw [← HTD.out]; exact of_decide_eq_false TB.out.symm), ← HTD.out]
                have c3 : w7.cell? ⟨bt, 3, none⟩ = some (.slice AT LT cT) := (Has.cell M7'.out.box 3).trans rfl
                have f3 := Has.froz M7'.out.box 3
                have cg : w7.cell? ⟨g, 0, none⟩ = some (.slice AV LV cV) := (Has.cell XG7.out 0).trans rfl
                have lb7 := M7'.out.lt
                have lg7 := Has.lt XG7.out
                have c3a : (w7.alloc (.cells #[.slice AV LV cV] 29)).cell? ⟨bt, 3, none⟩ = some (.slice AT LT cT) := (World.cell?_of_block (a := ⟨bt, 3, none⟩) (Below.heap_alloc w7 _ bt lb7)).trans c3
                have cga : (w7.alloc (.cells #[.slice AV LV cV] 29)).cell? ⟨g, 0, none⟩ = some (.slice AV LV cV) := (World.cell?_of_block (a := ⟨g, 0, none⟩) (Below.heap_alloc w7 _ g lg7)).trans cg
                have B27 := hid M7'.out.b2
                have NG : Hid ((Value.slice AT LT cT).ownBlock ≠ some g) := fun e => by have := own_lt O26.out g e; have := own_lt hMk.out.o2 g e; have := HG.out; have := sB5; omega
                have OB := hid (O27.out.alloc (.cells #[.slice AV LV cV] 29))
                have C1 : Hid (CellsIn (fun b => b = w7.heap.size) (w7.alloc (.cells #[.slice AV LV cV] 29)) 1 (.slice (some ⟨w7.heap.size, 0, none⟩) 1 1) 1 [.slice AV LV cV]) := cells_one w7 _ _
                have W7B : W1.heap.size ≤ w7.heap.size := G7'.out.size
                have IU : Hid (IntsIn .i64 (LF W1.heap.size bt hv4 (.slice AT LT cT) w7) w7 (.slice AV LV cV) td) :=
                  (ints_of_own O7'.out WFD.out).more fun b hb => by
                    have l1 := hMk.out.lt
                    have l2 := hGk.out.size
                    refine ⟨by omega, hb.2, by omega, fun e => ?_, fun e => ?_⟩
                    · have := own_lt hMk.out.o1 b e; omega
                    · have := own_lt hMk.out.o2 b e; omega
                go_upto_region 23 with fail
                refine wp_region_l (S := (fun w' => w'.cell? ⟨bt, 3, none⟩ = some (.slice AT LT cT) ∧ w'.cell? ⟨g, 0, none⟩ = some (.slice AV LV cV))) (Ls := [10]) (by kernel_rfl) ⟨c3, cg⟩ (fun hHeld => ?_)
                refine takeL [8, 9, 10] (i := 0) (d := 93) (oi := _) (v := ?_) rfl rfl (by kernel_rfl) (by kernel_rfl) (by kernel_rfl) (by kernel_rfl) (by kernel_rfl) (fun _ _ _ h => h) (Or.inl ⟨by rfl, ?_⟩) (by assumption) ?_
                rotate_left
                · intro wz hSw; (try dsimp only at hSw); go_simp; (try with_reducible rfl)
                try simp only [Act.put, List.setIfInBounds_toArray, List.set_cons_zero, List.set_cons_succ]
                refine takeL [8, 9, 10] (i := 1) (d := 94) (oi := _) (v := ?_) rfl rfl (by kernel_rfl) (by kernel_rfl) (by kernel_rfl) (by kernel_rfl) (by kernel_rfl) (fun _ _ _ h => h) (Or.inl ⟨by rfl, ?_⟩) (by assumption) ?_
                rotate_left
                · intro wz hSw; (try dsimp only at hSw); go_simp; (try with_reducible rfl)
                try simp only [Act.put, List.setIfInBounds_toArray, List.set_cons_zero, List.set_cons_succ]
                refine takeL [8, 9, 10] (i := 2) (d := 95) (oi := _) (v := ?_) rfl rfl (by kernel_rfl) (by kernel_rfl) (by kernel_rfl) (by kernel_rfl) (by kernel_rfl) (fun _ _ _ h => h) (Or.inl ⟨by rfl, ?_⟩) (by assumption) ?_
                rotate_left
                · intro wz hSw; (try dsimp only at hSw); go_simp; (try with_reducible rfl)
                try simp only [Act.put, List.setIfInBounds_toArray, List.set_cons_zero, List.set_cons_succ]
                refine takeL [8, 9, 10] (i := 3) (d := 96) (oi := _) (v := ?_) rfl rfl (by kernel_rfl) (by kernel_rfl) (by kernel_rfl) (by kernel_rfl) (by kernel_rfl) (fun _ _ _ h => h) (Or.inl ⟨by rfl, ?_⟩) (by assumption) ?_
                rotate_left
                · intro wz hSw; (try dsimp only at hSw); go_simp; (try with_reducible rfl)
                try simp only [Act.put, List.setIfInBounds_toArray, List.set_cons_zero, List.set_cons_succ]
                refine takeL [8, 9, 10] (i := 4) (d := 97) (oi := _) (v := ?_) rfl rfl (by kernel_rfl) (by kernel_rfl) (by kernel_rfl) (by kernel_rfl) (by kernel_rfl) (fun _ _ _ h => h) (Or.inl ⟨by rfl, ?_⟩) (by assumption) ?_
                rotate_left
                · intro wz hSw; (try dsimp only at hSw); go_simp; (try with_reducible rfl)
                try simp only [Act.put, List.setIfInBounds_toArray, List.set_cons_zero, List.set_cons_succ]
                refine takeL [8, 9, 10] (i := 5) (d := 98) (oi := _) (v := ?_) rfl rfl (by kernel_rfl) (by kernel_rfl) (by kernel_rfl) (by kernel_rfl) (by kernel_rfl) (fun _ _ _ h => h) (Or.inl ⟨by rfl, ?_⟩) (by assumption) ?_
                rotate_left
                · intro wz hSw; (try dsimp only at hSw); go_simp; (try with_reducible rfl)
                try simp only [Act.put, List.setIfInBounds_toArray, List.set_cons_zero, List.set_cons_succ]
                refine nxtL (i := 6) (o := _) (by kernel_rfl) rfl (fun K' hK => ?_)
                go_simp
                refine hK.out _ _ (Or.inl ⟨c3a, cga⟩) ?_
                clear hK K' hHeld
                try simp only [Act.put, List.setIfInBounds_toArray, List.set_cons_zero, List.set_cons_succ]
                refine nxtL (i := 7) (o := _) (by kernel_rfl) rfl (fun K' hK => ?_)
                refine step_app _ (by rfl) (.tmp 97) (.tmp 99) 22 (by rfl) W1.heap.size 29 i1 (.slice none 0 0) 1 24 Try.underlying22 hi1 hy0 hy1 hy2 rfl (by decide) (.slice AT LT cT) LT tc2 (by simp [Act.eval, Act.put]) (by exact OB.out) _ (.slice (some ⟨w7.heap.size, 0, none⟩) 1 1) 1 [.slice AV LV cV] (by simp [Act.eval, Act.put]) (by exact C1.out) (by intro u hu; simp at hu; subst hu; rfl) (by unfold maxLen; omega) (by omega) (by show W1.heap.size ≤ (w7.alloc _).heap.size; simp; omega) ?_
                intro v8 w8 hown8 hgrow8 hat8
                have G8 : Hid (w7.grownBy w8 (Value.ownBlock (.slice AT LT cT))) := (World.grownBy_alloc _ _ _).trans ⟨hgrow8.os, hgrow8.tape, hgrow8.output, hgrow8.size, hgrow8.block⟩
                have AT8 : Hid (v8.ownBlock = (Value.slice AT LT cT).ownBlock ∨ ∃ b, v8.ownBlock = some b ∧ w7.heap.size ≤ b) := hat8.imp id (fun e => ⟨_, e, by simp⟩)
                have OW8 := hid hown8
                have c8 : w8.cell? ⟨bt, 3, none⟩ = some (.slice AT LT cT) := (World.cell?_of_block (a := ⟨bt, 3, none⟩) (G8.out.block bt lb7 (fun e => B27.out e.symm))).trans c3
                have f8 : w8.frozen? ⟨bt, 3, none⟩ = false := (World.frozen?_of_block (a := ⟨bt, 3, none⟩) (G8.out.block bt lb7 (fun e => B27.out e.symm))).trans f3
                have cg8 : w8.cell? ⟨g, 0, none⟩ = some (.slice AV LV cV) := (World.cell?_of_block (a := ⟨g, 0, none⟩) (G8.out.block g lg7 (fun e => NG.out e.symm))).trans cg
                obtain ⟨A8', c8', rfl, -, -⟩ := own_slL hown8
                clear hown8 hgrow8 hat8
                refine hK.out _ _ (Or.inl ⟨c8, cg8⟩) ?_
                clear hK K'
                try simp only [Act.put, List.setIfInBounds_toArray, List.set_cons_zero, List.set_cons_succ]
                have hHeld : (fun w' => w'.cell? ⟨bt, 3, none⟩ = some (.slice AT LT cT) ∧ w'.cell? ⟨g, 0, none⟩ = some (.slice AV LV cV)) w8 := ⟨c8, cg8⟩
                refine takeL [9, 10] (i := 8) (d := 101) (oi := _) (v := ?_) rfl rfl (by kernel_rfl) (by kernel_rfl) (by kernel_rfl) (by kernel_rfl) (by kernel_rfl) (fun _ _ _ h => h) (Or.inl ⟨by rfl, ?_⟩) (by assumption) ?_
                rotate_left
                · intro wz hSw; (try dsimp only at hSw); go_simp; (try with_reducible rfl)
                try simp only [Act.put, List.setIfInBounds_toArray, List.set_cons_zero, List.set_cons_succ]
                refine takeL [10] (i := 9) (d := 102) (oi := _) (v := ?_) rfl rfl (by kernel_rfl) (by kernel_rfl) (by kernel_rfl) (by kernel_rfl) (by kernel_rfl) (fun _ _ _ h => h) (Or.inl ⟨by rfl, ?_⟩) (by assumption) ?_
                rotate_left
                · intro wz hSw; (try dsimp only at hSw); go_simp; (try with_reducible rfl)
                try simp only [Act.put, List.setIfInBounds_toArray, List.set_cons_zero, List.set_cons_succ]
                refine nxtL (i := 10) (o := _) (by kernel_rfl) rfl (fun K' hK => ?_)
                go_simp
                refine hK.out _ _ (Or.inr (by simp)) ?_
                clear hK K' hHeld
                try simp only [Act.put, List.setIfInBounds_toArray, List.set_cons_zero, List.set_cons_succ]
                refine doneL (by kernel_rfl) ?_ _
                have M9' := hid (M7'.out.tailApp (by rw [← HLT.out]; exact OW8.out) G8.out AT8.out IU.out)
                have G9' : Hid (W1.grownBy (w8.setCell ⟨bt, 3, none⟩ (.slice A8' (LT + 1) c8')) r) := by
                  have g1 := gr_own0 G7'.out G8.out (fun b hb => own_ge O27.out b hb)
                  exact ⟨g1.os, g1.tape, g1.output, by have := g1.size; simpa using this, fun b hb hr => (Below.heap_setCell w8 _ _ b (by have := M7'.out.lo; show b ≠ bt; omega)).trans (g1.block b hb hr)⟩
                have R9' : Hid (R a s10 (w8.setCell ⟨bt, 3, none⟩ (.slice A8' (LT + 1) c8'))) := (HTT.out a).keep _ _ _ R7'.out fun b hb => by
                  have l1 := M7'.out.lo
                  have l2 := sz.out
                  exact (Below.heap_setCell w8 _ _ b (by show b ≠ bt; omega)).trans (G8.out.block b (by omega) (fun e => by have := own_ge O27.out b e.symm; omega))
                have T9' := hid (T7'.out.keep (w' := w8.setCell ⟨bt, 3, none⟩ (.slice A8' (LT + 1) c8')) fun b hb => by
                  rw [hb]
                  exact (Below.heap_setCell w8 _ _ gu gN).trans (G8.out.block gu g7 (fun e => hNk.out gu e.symm rfl)))
                have N9' : Hid (∀ b, (Value.slice A8' (LT + 1) c8').ownBlock = some b → b ≠ gu) := fun b hb e => by
                  rcases AT8.out with k1 | ⟨c, k1, k2⟩
                  · exact hNk.out b (by rw [← k1]; exact hb) e
                  · rw [k1] at hb; injection hb with hb; omega
                have g9 : gu < (w8.setCell ⟨bt, 3, none⟩ (.slice A8' (LT + 1) c8')).heap.size := by have := G8.out.size; simp; omega
                go_wp2_with fail
                go_roundw
                case rel => exact ⟨k + 1, _, _, by go_num, by omega, by rw [ES.out]; exact M9'.out, G9', R9', T9', N9', g9⟩
                case measure => simp [intOf]; omega
            · obtain rfl : k = t.length := by omega
              have AT9 := hid (addT_tsz hTS.out TLT.out t20 t.length (by omega))
              have HT9 := hid (C4.out.1.tails (tails' := addT tails t t.length) (fun y hy => addT_sub tails t hy _))
              have LT9 : (addT tails t t.length).length ≤ 3 + 20 * (a + 1 - 1) := by have := (addT_len tails t t.length).2; omega
              have SB9 : s10 ≤ 40000 * (a + 1 - 1) := by omega
              go_wp2_with fail
              go_roundw
              case rel => exact ⟨a + 1, s10, heads ++ r4, addT tails t t.length, hv4, tv', hc4, tc2, by go_num, by omega, by omega, LT9, SB9, INV', AT9, HT9, hMk, hGk, hRk⟩
              case measure => simp [intOf]; omega
end Go.Proofs.Ytkcggmhllijgcaa
