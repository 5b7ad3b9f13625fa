/- What gen's made does with a right generator and a chooser that answers each question on the way. Conditions: the chooser's contract; that it answers all. -/
import Derived.Test.YtopehfmppfibhaaDoorGck
import Derived.Deep.OwnRows
import Derived.Deep.LoopGhost
import Derived.Deep.RegionLaw
import Derived.Deep.RegionHeld3
import Derived.IntWalk
namespace Go.Proofs.YtopehfmppfibhaaDoor
open Go.RowKit Go.Deep
theorem infoVal : (Tryd.prog.info? 47).map (fun i => (i.zero, i.size, i.bytes)) = some (some (.agg #[.bool false, .int .i64 0, .slice none 0 0]), 3, 40) := by kernel_rfl
mutual
/-- no list of parts is longer than 30 -/
def Ge.wide : Ge → Prop
  | .mk _ _ _ s => s.length ≤ 30 ∧ Ges.wide s
def Ges.wide : List Ge → Prop
  | [] => True
  | y :: r => y.wide ∧ Ges.wide r
end
theorem Ges.wide_mem : ∀ {s : List Ge}, Ges.wide s → ∀ y ∈ s, y.wide
  | [], _, _, h => by cases h
  | x :: r, hx, y, h => by
    rw [Ges.wide] at hx
    rcases List.mem_cons.1 h with rfl | h
    · exact hx.1
    · exact Ges.wide_mem hx.2 y h
theorem Ge.parts_pos : ∀ (g : Ge) (d : Nat), 1 ≤ (g.parts d).1
  | .mk k a b s, d => by
    rw [Ge.parts]
    show 1 ≤ (Ges.parts s (d + 1) (1, decide (d < 6))).1
    have key : ∀ (l : List Ge) (p : Nat × Bool), 1 ≤ p.1 → 1 ≤ (Ges.parts l (d + 1) p).1 := by
      intro l
      induction l with
      | nil => intro p h; rw [Ges.parts]; exact h
      | cons x r ih =>
        intro p h
        rw [Ges.parts]
        split
        · exact ih _ (by show 1 ≤ p.1 + _; omega)
        · exact h
    exact key s _ (Nat.le_refl _)
mutual
theorem Ge.parts_wide : ∀ (g : Ge) (d : Nat), (g.parts d).2 = true → g.wide
  | .mk k a b s, d, h => by
    rw [Ge.parts] at h
    simp only [Bool.and_eq_true, decide_eq_true_eq] at h
    rw [Ge.wide]
    have := Ges.parts_wide s (d + 1) (1, decide (d < 6)) h.1
    exact ⟨by have h2 := this.1; have := h.2; simp only at h2; omega, this.2⟩
theorem Ges.parts_wide : ∀ (l : List Ge) (d : Nat) (p : Nat × Bool), (Ges.parts l d p).2 = true → p.1 + l.length ≤ (Ges.parts l d p).1 ∧ Ges.wide l
  | [], _, p, _ => by rw [Ges.parts]; simp [Ges.wide]
  | x :: r, d, p, h => by
    rw [Ges.parts] at h ⊢
    split at h
    · rename_i hp
      have h1 := Ges.parts_wide r d _ h
      rw [if_pos hp, Ges.wide]
      have h3 : ∀ (l : List Ge) (q : Nat × Bool), (Ges.parts l d q).2 = true → q.2 = true := by
        intro l
        induction l with
        | nil => intro q h; rw [Ges.parts] at h; exact h
        | cons z t ih =>
          intro q h
          rw [Ges.parts] at h
          split at h
          · assumption
          · exact h
      have h4 := h3 r _ h
      simp only [Bool.and_eq_true] at h4
      have h5 := Ge.parts_pos x d
      refine ⟨?_, Ge.parts_wide x d h4.1, h1.2⟩
      have h6 := h1.1
      simp only at h6
      rw [List.length_cons]; omega
    · rename_i hp; exact absurd h hp
end
theorem all_cons_ok {S α : Type} {f : S → Int → Except Int (S × Int)} {c : Ch α} {r : List (Ch α)} {s s' : S} {l : List α} (h : (Ch.all (c :: r)).run f s = .ok (s', l)) : ∃ s1 x l', c.run f s = .ok (s1, x) ∧ (Ch.all r).run f s1 = .ok (s', l') := by
  rw [Ch.all, run_bind'] at h
  cases hc : c.run f s with
  | error e => rw [hc] at h; cases h
  | ok p =>
    obtain ⟨s1, x⟩ := p
    rw [hc] at h
    simp only [thenR] at h
    rw [run_bind'] at h
    cases hr : (Ch.all r).run f s1 with
    | error e => rw [hr] at h; cases h
    | ok q =>
      obtain ⟨s2, l'⟩ := q
      rw [hr] at h
      simp only [thenR, Ch.run, Except.ok.injEq, Prod.mk.injEq] at h
      exact ⟨s1, x, l', rfl, by rw [hr, h.1]⟩
theorem all_nil_ok {S α : Type} {f : S → Int → Except Int (S × Int)} {s s' : S} {l : List α} (h : (Ch.all ([] : List (Ch α))).run f s = .ok (s', l)) : s = s' := by
  rw [Ch.all, Ch.run] at h
  injection h with h
  injection h
theorem bind_done_ok {S α β : Type} {f : S → Int → Except Int (S × Int)} {c : Ch α} {g : α → β} {s s' : S} {y : β} (h : (c.bind fun x => Ch.done (g x)).run f s = .ok (s', y)) : ∃ x, c.run f s = .ok (s', x) := by
  rw [run_bind'] at h
  cases hc : c.run f s with
  | error e => rw [hc] at h; cases h
  | ok p =>
    obtain ⟨s1, x⟩ := p
    rw [hc] at h
    simp only [thenR, Ch.run, Except.ok.injEq, Prod.mk.injEq] at h
    exact ⟨x, by rw [h.1]⟩
theorem ask_ok {S α : Type} {f : S → Int → Except Int (S × Int)} {m : Int} {k : Int → Ch α} {s s' : S} {y : α} (h : (Ch.ask m k).run f s = .ok (s', y)) : ∃ s1 x, f s m = .ok (s1, x) ∧ (k x).run f s1 = .ok (s', y) := by
  rw [Ch.run] at h
  cases hc : f s m with
  | error e => rw [hc] at h; cases h
  | ok p => obtain ⟨s1, x⟩ := p; rw [hc] at h; exact ⟨s1, x, rfl, h⟩
/-- nothing that was there is written but the blocks of D -/
def OutsD (D : Nat → Prop) (w w' : World) : Prop := Below 0 w w' ∧ ∀ b, b < w.heap.size → ¬ D b → w'.heap[b]? = w.heap[b]?
section
variable {D D' : Nat → Prop} {w w1 w2 : World}
theorem OutsD.refl (D : Nat → Prop) (w : World) : OutsD D w w := ⟨Below.refl _ _, fun _ _ _ => rfl⟩
theorem OutsD.trans (h : OutsD D w w1) (k : OutsD D' w1 w2) (hD : ∀ b, D' b → D b ∨ w.heap.size ≤ b) : OutsD D w w2 :=
  ⟨h.1.trans k.1, fun b hb hC => (k.2 b (Nat.lt_of_lt_of_le hb h.1.size) fun hd => by rcases hD b hd with h | h; exact hC h; omega).trans (h.2 b hb hC)⟩
theorem OutsD.below {B : Nat} (h : Below B w w1) (hB : w.heap.size ≤ B) : OutsD D w w1 := ⟨⟨h.os, h.tape, h.output, h.size, fun b hb => absurd hb (by omega)⟩, fun b hb _ => h.block b (by omega)⟩
theorem OutsD.then_ {B : Nat} (h : OutsD D w w1) (hb : Below B w1 w2) (hB : w.heap.size ≤ B) : OutsD D w w2 :=
  ⟨h.1.trans (hb.mono (Nat.zero_le _)), fun b hlt hC => (hb.block b (by omega)).trans (h.2 b hlt hC)⟩
theorem OutsD.same {F : Nat → Prop} (h : OutsD D w w1) (hF : ∀ b, F b → b < w.heap.size ∧ ¬ D b) : Same F w w1 := fun b hb => h.2 b (hF b hb).1 (hF b hb).2
end
def AskPost {S : Type} (R : S → (Nat → Prop) → World → Prop) (D : Nat → Prop) (r : Except Int (S × Int)) (w : World) (e : Ending) (w' : World) : Prop :=
  ∀ s' x, r = .ok (s', x) → e = .returned (.int .i64 x) ∧ OutsD D w w' ∧ ∃ D', R s' D' w' ∧ ∀ b, D' b → D b ∨ w.heap.size ≤ b
/-- a function value that answers questions by a rule; R s D w: it holds the state s, in the blocks D -/
structure Chooses {S : Type} (B0 : Nat) (fid : FuncId) (caps : Array Value) (R : S → (Nat → Prop) → World → Prop) (f : S → Int → Except Int (S × Int)) : Prop where
  ask : ∀ s m D w, R s D w → 0 ≤ m → m ≤ 1000 → (∃ s' x, f s m = .ok (s', x)) → Calls Tryd.prog fid (#[.int .i64 m] ++ caps) w (AskPost R D (f s m) w)
  ans : ∀ s m s' x, f s m = .ok (s', x) → 0 ≤ m → 0 ≤ x ∧ x ≤ m
  keep : ∀ s D w w', R s D w → (∀ b, D b → w'.heap[b]? = w.heap[b]?) → (∀ b, b < B0 → w'.heap[b]? = w.heap[b]?) → w.heap.size ≤ w'.heap.size → R s D w'
  lo : ∀ s D w, R s D w → B0 ≤ w.heap.size ∧ ∀ b, D b → B0 ≤ b
  isIn : ∀ s D w, R s D w → ∀ b, D b → b < w.heap.size
def MadePost {S : Type} (R : S → (Nat → Prop) → World → Prop) (D : Nat → Prop) (s' : S) (w : World) (e : Ending) (w' : World) : Prop :=
  ∃ (l : Bool) (n : Int) (A : Option Addr) (len cp : Nat), e = .returned (.agg #[.bool l, .int .i64 n, .slice A len cp]) ∧ OutsD D w w' ∧ ∃ D', R s' D' w' ∧ ∀ b, D' b → D b ∨ w.heap.size ≤ b
def MadeOk (g : Ge) : Prop := ∀ (S : Type) (B0 : Nat) (fid : FuncId) (caps : Array Value) (R : S → (Nat → Prop) → World → Prop) (f : S → Int → Except Int (S × Int)) (s s' : S) (va : Va) (D F : Nat → Prop) (u v x c : Value) (w : World),
  (∀ (args : Array Value) (w : World), Sem.run Tryd.prog (callFunc fid args) w = .ok (.enter fid args) w) → Chooses B0 fid caps R f → (∀ b, F b → b < w.heap.size ∧ ¬ D b) → GeIn F w g u v x c → R s D w → g.err = 0 → g.wide → g.made.run f s = .ok (s', va) →
  Calls Tryd.prog 37 #[.func (Fn.func fid) #[] caps, .agg #[u, v, x, c]] w (MadePost R D s' w)
theorem made_results (tmps : Array Value) (g : Nat) (l : Bool) (n : Int) (A : Option Addr) (len cp : Nat) (w : World) (h4 : tmps.getD 4 undef = .pointer (some ⟨g, 0, none⟩)) (c0 : w.cell? ⟨g, 0, none⟩ = some (.bool l)) (c1 : w.cell? ⟨g, 1, none⟩ = some (.int .i64 n)) (c2 : w.cell? ⟨g, 2, none⟩ = some (.slice A len cp)) :
    (results Tryd.f37 tmps).run Tryd.prog w = .ok (.agg #[.bool l, .int .i64 n, .slice A len cp]) w := by
  simp only [Array.getD_eq_getD_getElem?] at h4
  simp [results, Tryd.results37, go_sem, h4, c0, c1, c2]
theorem below3 (w : World) (o0 o1 o2 : Obj) : Below w.heap.size w (((w.alloc o0).alloc o1).alloc o2) :=
  (((Below.refl _ _).alloc (Nat.le_refl _) _).alloc (by simp) _).alloc (by simp; omega) _
theorem boxes3 (w : World) (o0 o1 o2 : Obj) : (((w.alloc o0).alloc o1).alloc o2).heap[w.heap.size]? = some o0 ∧ (((w.alloc o0).alloc o1).alloc o2).heap[w.heap.size + 1]? = some o1 ∧ (((w.alloc o0).alloc o1).alloc o2).heap[w.heap.size + 1 + 1]? = some o2 :=
  ⟨Has.alloc (Has.alloc (Has.new _ _) _) _, Has.alloc (Has.newAt _ _ (by simp)) _, Has.newAt _ _ (by simp)⟩
set_option maxRecDepth 100000 in
set_option maxHeartbeats 1000000 in
theorem made_just (a b : Int) (s0 : List Ge) {S : Type} {B0 : Nat} (fid : FuncId) (caps : Array Value) (R : S → (Nat → Prop) → World → Prop) (f : S → Int → Except Int (S × Int)) (s s' : S) (va : Va) (D F : Nat → Prop) (u v x c : Value) (w : World)
    (hC : Chooses B0 fid caps R f) (hx : GeIn F w (.mk 1 a b s0) u v x c) (hR : R s D w) (hr : (Ge.mk 1 a b s0).made.run f s = .ok (s', va)) :
    Calls Tryd.prog 37 #[.func (Fn.func fid) #[] caps, .agg #[u, v, x, c]] w (MadePost R D s' w) := by
  have HC := hid hC
  have HR := hid hR
  have lo0 := (hC.lo _ _ _ hR).1
  obtain ⟨A, cp, rfl, rfl, rfl, rfl, _, _, _⟩ := hx.box
  obtain rfl : s = s' := by
    rw [Ge.made] at hr
    simp [madeM, Ch.run] at hr
    exact hr.1
  clear hC hR hr hx
  go_enter Tryd.func37, Tryd.ntmps37
  have KR := hid (HC.out.keep _ _ _ (((w.alloc (.cells #[.int .i64 1, .int .i64 a, .int .i64 b, .slice A s0.length cp] 24)).alloc (.cells #[.bool false, .int .i64 a, .slice none 0 0] 47)).alloc (.cells #[.bool true, .int .i64 0, .slice none 0 0] 47)) HR.out (fun b hb => (below3 w _ _ _).block b (HC.out.isIn _ _ _ HR.out b hb)) (fun b hb => (below3 w _ _ _).block b (by omega)) (below3 w _ _ _).size)
  have X1 := (boxes3 w (.cells #[.int .i64 1, .int .i64 a, .int .i64 b, .slice A s0.length cp] 24) (.cells #[.bool false, .int .i64 a, .slice none 0 0] 47) (.cells #[.bool true, .int .i64 0, .slice none 0 0] 47)).2.1
  go_wp2_with fail
  exact ⟨rfl, _, made_results _ _ _ _ _ _ _ _ rfl ((Has.cell X1 0).trans rfl) ((Has.cell X1 1).trans rfl) ((Has.cell X1 2).trans rfl), _, _, _, _, _, rfl, OutsD.below (below3 w _ _ _) (Nat.le_refl _), D, KR.out, fun b h => .inl h⟩
theorem set3 {w : World} {g : Nat} {c0 c1 c2 : Value} {t : TypeId} (X : w.heap[g]? = some (.cells #[c0, c1, c2] t (0, 0))) (u0 u1 u2 : Value) :
    (((w.setCell ⟨g, 0, none⟩ u0).setCell ⟨g, 1, none⟩ u1).setCell ⟨g, 2, none⟩ u2).heap[g]? = some (.cells #[u0, u1, u2] t (0, 0)) ∧ (∀ b, b ≠ g → (((w.setCell ⟨g, 0, none⟩ u0).setCell ⟨g, 1, none⟩ u1).setCell ⟨g, 2, none⟩ u2).heap[b]? = w.heap[b]?) ∧
    (((w.setCell ⟨g, 0, none⟩ u0).setCell ⟨g, 1, none⟩ u1).setCell ⟨g, 2, none⟩ u2).heap.size = w.heap.size ∧ Below g w (((w.setCell ⟨g, 0, none⟩ u0).setCell ⟨g, 1, none⟩ u1).setCell ⟨g, 2, none⟩ u2) := by
  refine ⟨?_, fun b hb => ?_, by simp, (((Below.refl g w).setCell (p := ⟨g, 0, none⟩) (Nat.le_refl g) u0).setCell (p := ⟨g, 1, none⟩) (Nat.le_refl g) u1).setCell (p := ⟨g, 2, none⟩) (Nat.le_refl g) u2⟩
  · have h := Has.set (Has.set (Has.set X 0 u0) 1 u1) 2 u2
    simpa using h
  · rw [Below.heap_setCell _ _ _ _ (by simpa using hb), Below.heap_setCell _ _ _ _ (by simpa using hb), Below.heap_setCell _ _ _ _ (by simpa using hb)]
set_option maxRecDepth 100000 in
set_option maxHeartbeats 1000000 in
theorem made_int (a b : Int) (s0 : List Ge) {S : Type} {B0 : Nat} (fid : FuncId) (caps : Array Value) (R : S → (Nat → Prop) → World → Prop) (f : S → Int → Except Int (S × Int)) (s s' : S) (va : Va) (D F : Nat → Prop) (u v x c : Value) (w : World)
    (hcf : ∀ (args : Array Value) (w : World), Sem.run Tryd.prog (callFunc fid args) w = .ok (.enter fid args) w) (hC : Chooses B0 fid caps R f) (hx : GeIn F w (.mk 2 a b s0) u v x c) (hR : R s D w) (he : (Ge.mk 2 a b s0).err = 0) (hr : (Ge.mk 2 a b s0).made.run f s = .ok (s', va)) :
    Calls Tryd.prog 37 #[.func (Fn.func fid) #[] caps, .agg #[u, v, x, c]] w (MadePost R D s' w) := by
  have HC := hid hC
  have HR := hid hR
  have lo0 := (hC.lo _ _ _ hR).1
  obtain ⟨A, cp, rfl, rfl, rfl, rfl, _, _, _⟩ := hx.box
  have h1 := (Ge.err_parts he).1
  unfold oneE at h1
  rw [if_pos (by omega)] at h1
  have h2 : ¬ (numB a = false ∨ (2 : Int) = 2 ∧ (numB b = false ∨ b < a ∨ 1000 < b - a)) := fun h => by rw [if_pos h] at h1; omega
  have na : numB a = true := by
    cases h : numB a with
    | true => rfl
    | false => exact absurd (.inl h) h2
  have nb : numB b = true := by
    cases h : numB b with
    | true => rfl
    | false => exact absurd (.inr ⟨rfl, .inl h⟩) h2
  obtain ⟨a1, a2⟩ := numB_iff.1 na
  obtain ⟨b1, b2⟩ := numB_iff.1 nb
  have ab : a ≤ b := by
    by_cases h : b < a
    · exact absurd (.inr ⟨rfl, .inr (.inl h)⟩) h2
    · omega
  have sp : b - a ≤ 1000 := by
    by_cases h : 1000 < b - a
    · exact absurd (.inr ⟨rfl, .inr (.inr h)⟩) h2
    · omega
  have RUN : Hid (∃ x, f s (b - a) = .ok (s', x)) := by
    show ∃ _, _
    rw [Ge.made] at hr
    simp only [madeM, show ¬ ((2 : Int) = 1) by decide, if_false, if_true] at hr
    obtain ⟨s1, x, h3, h4⟩ := ask_ok hr
    rw [Ch.run] at h4
    injection h4 with h4
    injection h4 with h4 _
    rw [show wrap64 (b - a) = b - a by unfold wrap64; omega] at h3
    exact ⟨x, by rw [h3, h4]⟩
  clear hC hR hr hx he h1 h2 na nb
  have W3 := hid (below3 w (.cells #[.int .i64 2, .int .i64 a, .int .i64 b, .slice A s0.length cp] 24) (.cells #[.bool false, .int .i64 0, .slice none 0 0] 47) (.cells #[.bool true, .int .i64 0, .slice none 0 0] 47))
  have X3 := hid (boxes3 w (.cells #[.int .i64 2, .int .i64 a, .int .i64 b, .slice A s0.length cp] 24) (.cells #[.bool false, .int .i64 0, .slice none 0 0] 47) (.cells #[.bool true, .int .i64 0, .slice none 0 0] 47))
  go_enter Tryd.func37, Tryd.ntmps37
  go_upto_region 6 with fail
  have sz3 : (((w.alloc (.cells #[.int .i64 2, .int .i64 a, .int .i64 b, .slice A s0.length cp] 24)).alloc (.cells #[.bool false, .int .i64 0, .slice none 0 0] 47)).alloc (.cells #[.bool true, .int .i64 0, .slice none 0 0] 47)).heap.size = w.heap.size + 3 := by simp
  have SZ := hid sz3
  clear sz3
  generalize (((w.alloc (.cells #[.int .i64 2, .int .i64 a, .int .i64 b, .slice A s0.length cp] 24)).alloc (.cells #[.bool false, .int .i64 0, .slice none 0 0] 47)).alloc (.cells #[.bool true, .int .i64 0, .slice none 0 0] 47)) = w3 at *
  have x0 := Has.cell X3.out.1 1
  have x1 := Has.cell X3.out.1 2
  simp at x0 x1
  have R3 := hid (HC.out.keep _ _ _ w3.drew HR.out (fun b hb => W3.out.block b (HC.out.isIn _ _ _ HR.out b hb)) (fun b hb => W3.out.block b (by omega)) (by show _ ≤ w3.heap.size; exact W3.out.size))
  have DL := hid (HC.out.isIn _ _ _ HR.out)
  have e1 : IntKind.i64.wrap (b - a) = b - a := IntWalk.i64_in _ (by omega)
  go_region_held3 (fun w' => w'.cell? ⟨w.heap.size, 1, none⟩ = some (.int .i64 a) ∧ w'.cell? ⟨w.heap.size, 2, none⟩ = some (.int .i64 b))
    (first | go_keep | exact ⟨t1, t2⟩)
    (first
      | (refine (HC.out.ask s (b - a) D w3.drew R3.out (by omega) sp ⟨_, RUN.out⟩).mono ?_; intro e w5 hp; obtain ⟨xa, hxa⟩ := RUN.out; obtain ⟨rfl, ho, D', hR', hD'⟩ := hp _ _ hxa; have HO := hid ho; have HR' := hid hR'; have HD' := hid hD'; have X5 := (ho.2 (w.heap.size + 1) (by have := SZ.out; show _ < w3.heap.size; omega) (fun hd => by have := DL.out _ hd; omega)).trans X3.out.2.1; have y0 := Has.cell X5 0; have y1 := Has.cell X5 1; have y2 := Has.cell X5 2; have f0 := Has.froz X5 0; have f1 := Has.froz X5 1; have f2 := Has.froz X5 2; have Y0 := (ho.2 w.heap.size (by have := SZ.out; show _ < w3.heap.size; omega) (fun hd => by have := DL.out _ hd; omega)).trans X3.out.1; have t1 := Has.cell Y0 1; have t2 := Has.cell Y0 2; simp at y0 y1 y2 t1 t2; have XX := hid X5; clear hp ho hR' hD' hxa Y0 X5))
  have X6 := hid (set3 XX.out (.bool false) (.int .i64 (IntKind.i64.wrap (a + xa))) (.slice none 0 0))
  go_wp2_with fail
  refine ⟨rfl, _, made_results _ _ _ _ _ _ _ _ rfl ((Has.cell X6.out.1 0).trans rfl) ((Has.cell X6.out.1 1).trans rfl) ((Has.cell X6.out.1 2).trans rfl), _, _, _, _, _, rfl, ?_, D', ?_, fun b h => ?_⟩
  · exact ((OutsD.below W3.out.drew (Nat.le_refl _)).trans HO.out fun b h => .inl h).then_ X6.out.2.2.2 (by omega)
  · refine HC.out.keep _ _ _ _ HR'.out (fun b hb => X6.out.2.1 b fun e => ?_) (fun b hb => X6.out.2.1 b (by omega)) (Nat.le_of_eq X6.out.2.2.1.symm)
    rcases HD'.out b hb with h | h
    · have := DL.out b h; omega
    · have h2 : w3.heap.size ≤ b := h
      have := SZ.out; omega
  · rcases HD'.out b h with h | h
    · exact .inl h
    · have h2 : w3.heap.size ≤ b := h
      have := SZ.out; exact .inr (by omega)
theorem mades_drop {s : List Ge} {i : Nat} (h : i < s.length) : Ges.mades (s.drop i) = s[i].made :: Ges.mades (s.drop (i + 1)) := by
  rw [gdrop_at h, Ges.mades]
theorem cells_three (w : World) (a b c : Value) (g : Nat) (F : Nat → Prop) (h0 : w.cell? ⟨g, 0, none⟩ = some a) (h1 : w.cell? ⟨g, 1, none⟩ = some b) (h2 : w.cell? ⟨g, 2, none⟩ = some c) (hF : F g) : CellsIn F w 3 (.slice (some ⟨g, 0, none⟩) 1 1) 1 [a, b, c] :=
  ⟨_, 1, rfl, rfl, fun _ => ⟨g, 0, rfl, hF, fun j u hj => by
    match j, hj with
    | 0, hj => simp at hj; subst hj; exact h0
    | 1, hj => simp at hj; subst hj; exact h1
    | 2, hj => simp at hj; subst hj; exact h2⟩⟩
theorem own_slice3 {w : World} {base : Nat} {e : TypeId} {size n : Nat} {v : Value} {xs : List Value} (h : w.ownsRow base e size v n xs) : ∃ A c, v = .slice A n c := by
  rcases h.2 with ⟨rfl, rfl⟩ | ⟨g, cap, cur, rfl, _⟩
  · exact ⟨none, 0, rfl⟩
  · exact ⟨_, cap, rfl⟩
/-- what a loop of made keeps: the boxes, the items so far, the chooser's state -/
structure MInv {S : Type} (R : S → (Nat → Prop) → World → Prop) (D : Nat → Prop) (w : World) (k a b : Int) (A : Option Addr) (n cp : Nat) (st : S) (i : Nat) (wr : World) : Prop where
  ex : ∃ (Di : Nat → Prop) (vi : Value) (cs : List Value), R st Di wr ∧ (∀ x, Di x → D x ∨ w.heap.size + 3 ≤ x) ∧ wr.ownsRow (w.heap.size + 3) 47 3 vi i cs ∧ (∀ x, vi.ownBlock = some x → ¬ Di x) ∧
    wr.heap[w.heap.size]? = some (.cells #[.int .i64 k, .int .i64 a, .int .i64 b, .slice A n cp] 24 (0, 0)) ∧ wr.heap[w.heap.size + 1]? = some (.cells #[.bool false, .int .i64 0, .slice none 0 0] 47 (0, 0)) ∧ wr.heap[w.heap.size + 1 + 1]? = some (.cells #[.bool true, .int .i64 0, vi] 47 (0, 0)) ∧
    OutsD D w wr ∧ w.heap.size + 3 ≤ wr.heap.size
theorem minv_step {S : Type} {B0 : Nat} {fid : FuncId} {caps : Array Value} {R : S → (Nat → Prop) → World → Prop} {f : S → Int → Except Int (S × Int)} {D Di D' : Nat → Prop} {w wo w5 w6 : World} {k a b : Int} {A Av : Option Addr} {n cp i cv : Nat} {st1 : S} {cs : List Value} {v6 : Value} {o : Obj} {c0 c1 c2 : Value}
    (HC : Chooses B0 fid caps R f) (LB : B0 ≤ w.heap.size) (DL : ∀ x, D x → x < w.heap.size) (M2 : ∀ x, Di x → D x ∨ w.heap.size + 3 ≤ x) (M3 : wo.ownsRow (w.heap.size + 3) 47 3 (.slice Av i cv) i cs) (M4 : ∀ x, (Value.slice Av i cv).ownBlock = some x → ¬ Di x)
    (M5 : wo.heap[w.heap.size]? = some (.cells #[.int .i64 k, .int .i64 a, .int .i64 b, .slice A n cp] 24 (0, 0))) (M6 : wo.heap[w.heap.size + 1]? = some (.cells #[.bool false, .int .i64 0, .slice none 0 0] 47 (0, 0))) (M7 : wo.heap[w.heap.size + 1 + 1]? = some (.cells #[.bool true, .int .i64 0, .slice Av i cv] 47 (0, 0)))
    (M8 : OutsD D w wo) (M9 : w.heap.size + 3 ≤ wo.heap.size) (ho : ∀ x, x < wo.heap.size → ¬ Di x → w5.heap[x]? = wo.heap[x]?) (hb0 : Below 0 wo w5) (hR : R st1 D' w5) (hD : ∀ x, D' x → Di x ∨ wo.heap.size ≤ x)
    (hown : w6.ownsRow (w.heap.size + 3) 47 3 v6 (i + 1) (cs ++ [c0, c1, c2])) (hgrow : (w5.alloc o).grownBy w6 (Value.slice Av i cv).ownBlock) (hat : v6.ownBlock = (Value.slice Av i cv).ownBlock ∨ v6.ownBlock = some (w5.alloc o).heap.size) :
    MInv R D w k a b A n cp st1 (i + 1) (w6.setCell ⟨w.heap.size + 1 + 1, 2, none⟩ v6) := by
  have s5 := hb0.size
  have IN := HC.isIn _ _ _ hR
  have vb : ∀ x, (Value.slice Av i cv).ownBlock = some x → w.heap.size + 3 ≤ x ∧ x < wo.heap.size := fun x hx => ⟨own_ge M3 x hx, own_lt M3 x hx⟩
  have nD : ∀ x, D' x → (Value.slice Av i cv).ownBlock ≠ some x := fun x hx e => by
    rcases hD x hx with h | h
    · exact M4 x e h
    · have := (vb x e).2; omega
  have lo : ∀ x, x < w.heap.size + 3 → w.heap.size ≤ x → ¬ Di x := fun x h1 h2 hd => by
    rcases M2 x hd with h | h
    · have := DL x h; omega
    · omega
  have box : ∀ x, w.heap.size ≤ x → x < w.heap.size + 3 → w6.heap[x]? = wo.heap[x]? := fun x h1 h2 => by
    have e1 := hgrow.block x (by simp; omega) (fun e => by have := (vb x e.symm).1; omega)
    exact e1.trans ((Below.heap_alloc _ _ _ (by omega)).trans (ho x (by omega) (lo x h2 h1)))
  refine ⟨⟨D', v6, cs ++ [c0, c1, c2], ?_, fun x hx => ?_, ?_, fun x hx hd => ?_, ?_, ?_, ?_, ?_, ?_⟩⟩
  · refine HC.keep _ _ _ _ hR (fun x hx => ?_) (fun x hx => (Below.heap_setCell _ _ _ _ (by simp; omega)).trans ((hgrow.block x (by simp; omega) fun e => by have := (vb x e.symm).1; omega).trans (Below.heap_alloc _ _ _ (by omega)))) (by have := hgrow.size; simp at this ⊢; omega)
    have lx := IN x hx
    have ne : x ≠ w.heap.size + 1 + 1 := fun e => by
      rcases hD x hx with h | h
      · exact lo x (by omega) (by omega) h
      · omega
    rw [Below.heap_setCell _ _ _ _ (by simpa using ne)]
    exact (hgrow.block x (by simp; omega) fun e => nD x hx e.symm).trans (Below.heap_alloc _ _ _ lx)
  · rcases hD x hx with h | h
    · exact M2 x h
    · exact .inr (by omega)
  · refine own_keep hown fun x hx => Below.heap_setCell _ _ _ _ ?_
    have := own_ge hown x hx
    simp; omega
  · rcases hat with e | e
    · rw [e] at hx; exact nD x hd hx
    · rw [e] at hx; injection hx with hx
      have := IN x hd
      simp at hx; omega
  · rw [Below.heap_setCell _ _ _ _ (by simp; omega)]; exact (box _ (Nat.le_refl _) (by omega)).trans M5
  · rw [Below.heap_setCell _ _ _ _ (by simp)]; exact (box _ (by omega) (by omega)).trans M6
  · have h := Has.set ((box (w.heap.size + 1 + 1) (by omega) (by omega)).trans M7) 2 v6
    simpa using h
  · have h1 : OutsD D w w5 := ⟨M8.1.trans hb0, fun x hx hd => (ho x (by omega) fun h => by
      rcases M2 x h with h | h
      · exact hd h
      · omega).trans (M8.2 x hx hd)⟩
    have h2 : Below (w.heap.size + 2) w5 w6 := (((Below.refl _ _).alloc (by omega) o).grown hgrow (by simp; omega) fun x hx => by have := (vb x hx).1; omega)
    exact h1.then_ (h2.setCell (p := ⟨w.heap.size + 1 + 1, 2, none⟩) (Nat.le_refl _) v6) (by omega)
  · have := hgrow.size; simp at this ⊢; omega
theorem minv_end {S : Type} {B0 : Nat} {fid : FuncId} {caps : Array Value} {R : S → (Nat → Prop) → World → Prop} {f : S → Int → Except Int (S × Int)} {D Di : Nat → Prop} {w wo wz : World} {st : S} {u0 u1 u2 : Value} {t : TypeId}
    (HC : Chooses B0 fid caps R f) (LB : B0 ≤ w.heap.size) (DL : ∀ x, D x → x < w.heap.size) (hR : R st Di wo) (M2 : ∀ x, Di x → D x ∨ w.heap.size + 3 ≤ x) (M8 : OutsD D w wo) (_M9 : w.heap.size + 3 ≤ wo.heap.size)
    (X : wz.heap[w.heap.size + 1]? = some (.cells #[u0, u1, u2] t (0, 0)) ∧ (∀ b, b ≠ w.heap.size + 1 → wz.heap[b]? = wo.heap[b]?) ∧ wz.heap.size = wo.heap.size ∧ Below (w.heap.size + 1) wo wz) :
    OutsD D w wz ∧ R st Di wz ∧ ∀ b, Di b → D b ∨ w.heap.size ≤ b := by
  refine ⟨M8.then_ X.2.2.2 (by omega), HC.keep _ _ _ _ hR (fun b hb => X.2.1 b fun e => ?_) (fun b hb => X.2.1 b (by omega)) (Nat.le_of_eq X.2.2.1.symm), fun b hb => ?_⟩
  · rcases M2 b hb with h | h
    · have := DL b h; omega
    · omega
  · rcases M2 b hb with h | h
    · exact .inl h
    · exact .inr (by omega)
set_option maxRecDepth 100000 in
set_option maxHeartbeats 4000000 in
theorem made_both (a b : Int) (s0 : List Ge) (ih : ∀ y ∈ s0, MadeOk y) {S : Type} {B0 : Nat} (fid : FuncId) (caps : Array Value) (R : S → (Nat → Prop) → World → Prop) (f : S → Int → Except Int (S × Int)) (s s' : S) (va : Va) (D F : Nat → Prop) (u v x c : Value) (w : World)
    (hcf : ∀ (args : Array Value) (w : World), Sem.run Tryd.prog (callFunc fid args) w = .ok (.enter fid args) w) (hC : Chooses B0 fid caps R f) (hF : ∀ b, F b → b < w.heap.size ∧ ¬ D b) (hx : GeIn F w (.mk 3 a b s0) u v x c) (hR : R s D w) (he : (Ge.mk 3 a b s0).err = 0) (hw : (Ge.mk 3 a b s0).wide) (hr : (Ge.mk 3 a b s0).made.run f s = .ok (s', va)) :
    Calls Tryd.prog 37 #[.func (Fn.func fid) #[] caps, .agg #[u, v, x, c]] w (MadePost R D s' w) := by
  have HC := hid hC
  have HR := hid hR
  have lo0 := (hC.lo _ _ _ hR).1
  have HF := hid hF
  have IH := hid ih
  have CF := hid hcf
  obtain ⟨A, cp, rfl, rfl, rfl, rfl, l1, l2, hs⟩ := hx.box
  have HS := hid hs
  have ER := hid (Ge.err_parts he).2
  rw [Ge.wide] at hw
  have WD := hid (Ges.wide_mem hw.2)
  have sl := hw.1
  obtain ⟨i0, hi0, hz0, hz1, hz2⟩ := info_parts infoVal
  have RUN : Hid (∃ l0, (Ch.all (Ges.mades s0)).run f s = .ok (s', l0)) := by
    rw [Ge.made] at hr
    simp only [madeM, show ¬ ((3 : Int) = 1) by decide, show ¬ ((3 : Int) = 2) by decide, if_false, if_true] at hr
    exact bind_done_ok hr
  have W3 := hid (below3 w (.cells #[.int .i64 3, .int .i64 a, .int .i64 b, .slice A s0.length cp] 24) (.cells #[.bool false, .int .i64 0, .slice none 0 0] 47) (.cells #[.bool true, .int .i64 0, .slice none 0 0] 47))
  have X3 := hid (boxes3 w (.cells #[.int .i64 3, .int .i64 a, .int .i64 b, .slice A s0.length cp] 24) (.cells #[.bool false, .int .i64 0, .slice none 0 0] 47) (.cells #[.bool true, .int .i64 0, .slice none 0 0] 47))
  have DL := hid (HC.out.isIn _ _ _ HR.out)
  have M0 : Hid (MInv R D w 3 a b A s0.length cp s 0 (((w.alloc (.cells #[.int .i64 3, .int .i64 a, .int .i64 b, .slice A s0.length cp] 24)).alloc (.cells #[.bool false, .int .i64 0, .slice none 0 0] 47)).alloc (.cells #[.bool true, .int .i64 0, .slice none 0 0] 47))) :=
    ⟨D, .slice none 0 0, [], HC.out.keep _ _ _ _ HR.out (fun b hb => W3.out.block b (DL.out b hb)) (fun b hb => W3.out.block b (by omega)) W3.out.size, fun x h => .inl h, World.ownsRow_nil _ _ _ _, (fun x h => by cases h), X3.out.1, X3.out.2.1, X3.out.2.2, OutsD.below W3.out (Nat.le_refl _), by simp⟩
  clear hC hR hF ih hs he hr hw hx hcf
  go_enter Tryd.func37, Tryd.ntmps37
  go_wp2_with fail
  go_loopw [34] (fun iv wr => ∃ (i : Nat) (st : S), i ≤ s0.length ∧ iv = .int .i64 i ∧ Hid (∃ l0, (Ch.all (Ges.mades (s0.drop i))).run f st = .ok (s', l0)) ∧ Hid (MInv R D w 3 a b A s0.length cp st i wr)) (fun iv _ => s0.length - (intOf iv).toNat)
  case atStart => exact ⟨0, s, Nat.zero_le _, rfl, RUN, M0⟩
  case round =>
    obtain ⟨i, st, hi, rfl, hRn, hM⟩ := hrel
    obtain ⟨wo, rfl⟩ : ∃ wo : World, wo = wr := ⟨_, rfl⟩
    obtain ⟨Di, vi, cs, m1, m2, m3, m4, m5, m6, m7, m8, m9⟩ := hM.out.ex
    obtain ⟨Av, cv, rfl⟩ := own_slice3 m3
    have M1 := hid m1
    have M2 := hid m2
    have M3 := hid m3
    have M4 := hid m4
    have M5 := hid m5
    have M6 := hid m6
    have M7 := hid m7
    have M8 := hid m8
    have IN1 := hid (HC.out.isIn _ _ _ m1)
    clear m1 m2 m3 m4 m5 m6 m7 m8 M0
    by_cases hlt : i < s0.length
    · obtain ⟨bl, off, rfl, hFb, hex⟩ := HS.out (by omega)
      have lb := HF.out bl hFb
      obtain ⟨a1, b1, c1, d1, q1, q2, q3, q4, hy⟩ := (GesIn.keep (M8.out.same HF.out) s0 hFb hex).at_ hlt
      have HY := hid hy
      have PI := hid (IH.out s0[i] (List.getElem_mem hlt))
      have EY := hid (ER.out s0[i] (List.getElem_mem hlt))
      have WY := hid (WD.out s0[i] (List.getElem_mem hlt))
      have i1 : (i : Int) < (s0.length : Int) := by omega
      have RR : Hid (∃ st1 x1 l1, s0[i].made.run f st = .ok (st1, x1) ∧ (Ch.all (Ges.mades (s0.drop (i + 1)))).run f st1 = .ok (s', l1)) := by
        obtain ⟨l0, h⟩ := hRn.out
        rw [mades_drop hlt] at h
        exact all_cons_ok h
      obtain ⟨⟨k1, n1, p1, s1⟩, hy0⟩ : ∃ y, y = s0[i] := ⟨_, rfl⟩
      rw [← hy0] at HY PI EY WY RR
      obtain ⟨A1, cp1, rfl, rfl, rfl, rfl, _, _, _⟩ := HY.out.box
      clear hex hy hy0
      go_upto_region 11 with fail
      have BX : Hid (Below wo.heap.size wo (wo.alloc (.cells #[.int .i64 k1, .int .i64 n1, .int .i64 p1, .slice A1 s1.length cp1] 24))) := (Below.refl _ _).alloc (Nat.le_refl _) _
      have XY := hid (Has.new wo (.cells #[.int .i64 k1, .int .i64 n1, .int .i64 p1, .slice A1 s1.length cp1] 24))
      have szq : (wo.alloc (.cells #[.int .i64 k1, .int .i64 n1, .int .i64 p1, .slice A1 s1.length cp1] 24)).heap.size = wo.heap.size + 1 := by simp
      have SZ := hid szq
      clear szq
      generalize wo.alloc (.cells #[.int .i64 k1, .int .i64 n1, .int .i64 p1, .slice A1 s1.length cp1] 24) = wq at *
      have lq : wo.heap.size < wq.heap.size := by have := SZ.out; omega
      have Z7 := hid ((BX.out.block _ (by omega : w.heap.size + 1 + 1 < wo.heap.size)).trans M7.out)
      have z0 := Has.cell Z7.out 2
      have zx0 := Has.cell XY.out 0
      have zx1 := Has.cell XY.out 1
      have zx2 := Has.cell XY.out 2
      have zx3 := Has.cell XY.out 3
      have fz := Has.froz Z7.out 2
      simp at z0 zx0 zx1 zx2 zx3
      have HYq := hid (GeIn.keep (w' := wq.drew) (fun b hb => BX.out.block b (by have := (HF.out b hb).1; omega)) _ HY.out)
      have FQ : Hid (∀ b, F b → b < wq.drew.heap.size ∧ ¬ Di b) := fun b hb => ⟨by show b < wq.heap.size; have := (HF.out b hb).1; omega, fun hd => by rcases M2.out b hd with h | h; exact (HF.out b hb).2 h; have := (HF.out b hb).1; omega⟩
      have RQ := hid (HC.out.keep _ _ _ wq.drew M1.out (fun b hb => BX.out.block b (IN1.out b hb)) (fun b hb => BX.out.block b (by omega)) (by show _ ≤ wq.heap.size; omega))
      clear q1 q2 q3 q4
      have WQ := hid (show ∀ x, x < wo.heap.size → wq.heap[x]? = wo.heap[x]? from fun x hx => BX.out.block x hx)
      have l9 := m9
      go_region_law (first
        | (refine step_app _ (by rfl) (.tmp 39) (.tmp 43) 45 (by rfl) (w.heap.size + 3) 47 i0 (.agg #[.bool false, .int .i64 0, .slice none 0 0]) 3 40 Tryd.underlying45 hi0 hz0 hz1 hz2 rfl (by decide) (.slice Av i cv) i cs (by rfl) OW5.out _ _ 1 [.bool lv, .int .i64 nv, .slice Av5 len5 cp5] (by rfl) (cells_three _ _ _ _ w5.heap.size (fun b => b = w5.heap.size) (by simp) (by simp) (by simp) rfl) (by intro u hu; simp at hu; rcases hu with rfl | rfl | rfl <;> rfl) (by unfold maxLen; omega) (by omega) (by simp; omega) ?_; intro v6 w6 hown6 hgrow6 hat6; obtain ⟨A6, c6, rfl⟩ := own_slice3 hown6; have MS := hid (minv_step HC.out lo0 DL.out M2.out M3.out M4.out M5.out M6.out M7.out M8.out l9 HO.out.1 HO.out.2.1 HO.out.2.2.1 HO.out.2.2.2 hown6 hgrow6 hat6); have Z9 := hid (Has.grown ZA.out hgrow6 (fun e => by have := own_ge M3.out _ e.symm; omega)); have z9 := Has.cell Z9.out 2; have f9 := Has.froz Z9.out 2; simp at z9; clear hown6 hgrow6 hat6)
        | (go_simp; go_at_call 37; obtain ⟨st1, x1, l1', hr1, hr2⟩ := RR.out; have RN := hid hr2; refine (PI.out S B0 fid caps R f st st1 x1 Di F _ _ _ _ wq.drew CF.out HC.out FQ.out HYq.out RQ.out EY.out WY.out hr1).mono ?_; rintro e w5 ⟨lv, nv, Av5, len5, cp5, rfl, ho, D', hR', hD'⟩; have lwq : wq.drew.heap.size = wo.heap.size + 1 := SZ.out; have s5 := ho.1.size; have HO : Hid ((∀ x, x < wo.heap.size → ¬ Di x → w5.heap[x]? = wo.heap[x]?) ∧ Below 0 wo w5 ∧ R st1 D' w5 ∧ ∀ x, D' x → Di x ∨ wo.heap.size ≤ x) := ⟨fun x hx hd => (ho.2 x (by omega) hd).trans (WQ.out x hx), (BX.out.mono (Nat.zero_le _)).drew.trans ho.1, hR', fun x hx => by rcases hD' x hx with h | h; exact .inl h; exact .inr (by omega)⟩; have Z8 := hid ((HO.out.1 (w.heap.size + 1 + 1) (by omega) (fun hd => by rcases M2.out _ hd with h | h; (have := DL.out _ h; omega); omega)).trans M7.out); have OW5 : Hid ((w5.alloc (.cells #[.bool lv, .int .i64 nv, .slice Av5 len5 cp5] 47)).ownsRow (w.heap.size + 3) 47 3 (.slice Av i cv) i cs) := own_keep M3.out fun x hx => (Below.heap_alloc _ _ _ (by have := own_lt M3.out x hx; omega)).trans (HO.out.1 x (own_lt M3.out x hx) (M4.out x hx)); have ZA := hid (Has.alloc Z8.out (.cells #[.bool lv, .int .i64 nv, .slice Av5 len5 cp5] 47)); have z8 := Has.cell Z8.out 2; have za := Has.cell ZA.out 2; simp at z8 za; have lw5 : wo.heap.size + 1 ≤ w5.heap.size := (by omega); clear ho hR' hD' hr1 hr2 lwq s5))
      all_goals
        go_wp2_with fail
        go_roundw
        case rel => exact ⟨i + 1, st1, by omega, by go_num, ⟨_, RN.out⟩, MS⟩
        case measure => simp [intOf]; omega
    · obtain rfl : i = s0.length := by omega
      have es : st = s' := by
        obtain ⟨l0, h⟩ := hRn.out
        rw [List.drop_length, Ges.mades] at h
        exact all_nil_ok h
      subst es
      have z0 := Has.cell M7.out 0
      have z1 := Has.cell M7.out 1
      have z2 := Has.cell M7.out 2
      have u0 := Has.cell M6.out 0
      have u1 := Has.cell M6.out 1
      have u2 := Has.cell M6.out 2
      have f0 := Has.froz M6.out 0
      have f1 := Has.froz M6.out 1
      have f2 := Has.froz M6.out 2
      simp at z0 z1 z2 u0 u1 u2
      have X6 := hid (set3 M6.out (.bool true) (.int .i64 0) (.slice Av s0.length cv))
      have FIN := hid (minv_end HC.out lo0 DL.out M1.out M2.out M8.out m9 X6.out)
      clear M5
      go_wp2_with fail
      exact ⟨rfl, _, made_results _ _ _ _ _ _ _ _ rfl ((Has.cell X6.out.1 0).trans rfl) ((Has.cell X6.out.1 1).trans rfl) ((Has.cell X6.out.1 2).trans rfl), _, _, _, _, _, rfl, FIN.out.1, Di, FIN.out.2.1, FIN.out.2.2⟩
end Go.Proofs.YtopehfmppfibhaaDoor
