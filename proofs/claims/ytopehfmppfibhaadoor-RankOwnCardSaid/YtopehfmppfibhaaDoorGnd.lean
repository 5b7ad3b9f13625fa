/- What gen's made does with a right generator: it makes the value, in memory of its own, or panics where the chooser does: what is needed for that; Just and Int. Conditions: the chooser's contract. -/
import Derived.Test.YtopehfmppfibhaaDoorGmd
import Derived.Test.YtopehfmppfibhaaDoorBas
import Derived.RegionDies
namespace Go.Proofs.YtopehfmppfibhaaDoor
open Go.RowKit Go.Deep
/-- the end of a call that panics with a number of the package's -/
def diesE (c : Int) : Ending := .panicked [{ v := .iface 60 (.int .i64 c), recovered := false }]
def AskP {S : Type} (R : S → (Nat → Prop) → World → Prop) (D : Nat → Prop) (r : Except Int (S × Int)) (w : World) (e : Ending) (w' : World) : Prop :=
  OutsD D w w' ∧ match r with
    | .ok (s', x) => e = .returned (.int .i64 x) ∧ ∃ D', R s' D' w' ∧ ∀ b, D' b → D b ∨ w.heap.size ≤ b
    | .error c => e = diesE c
/-- a function value that answers questions by a rule, or panics where the rule refuses -/
structure ChoosesP {S : Type} (B0 : Nat) (fid : FuncId) (caps : Array Value) (R : S → (Nat → Prop) → World → Prop) (f : S → Int → Except Int (S × Int)) : Prop where
  ask : ∀ s m D w, R s D w → 0 ≤ m → m ≤ 1000 → (∀ c, f s m = .error c → c ≠ 0) → Calls Tryd.prog fid (#[.int .i64 m] ++ caps) w (AskP R D (f s m) w)
  ans : ∀ s m s' x, f s m = .ok (s', x) → 0 ≤ m → 0 ≤ x ∧ x ≤ m
  keep : ∀ s D w w', R s D w → (∀ b, D b → w'.heap[b]? = w.heap[b]?) → (∀ b, b < B0 → w'.heap[b]? = w.heap[b]?) → w.heap.size ≤ w'.heap.size → R s D w'
  lo : ∀ s D w, R s D w → B0 ≤ w.heap.size ∧ ∀ b, D b → B0 ≤ b
  isIn : ∀ s D w, R s D w → ∀ b, D b → b < w.heap.size
/-- values in a row of the call's own, away from the blocks of D -/
structure VRow (B : Nat) (D : Nat → Prop) (l : List Va) (v : Value) (w : World) : Prop where
  row : ∃ cs, w.ownsRow B 47 3 v l.length cs ∧ VaCells (fun b => B ≤ b ∧ b < w.heap.size ∧ ¬ D b ∧ v.ownBlock ≠ some b) w cs l
  free : ∀ b, v.ownBlock = some b → ¬ D b
section
variable {B B' : Nat} {D D' : Nat → Prop} {l : List Va} {v : Value} {w w' : World}
theorem VRow.nil_ : VRow B D [] (.slice none 0 0) w := ⟨⟨[], World.ownsRow_nil _ _ _ _, VaCells.nil_⟩, fun b h => by cases h⟩
theorem VRow.keep (h : VRow B D l v w) (hs : ∀ b, B ≤ b → b < w.heap.size → ¬ D b → w'.heap[b]? = w.heap[b]?) (hz : w.heap.size ≤ w'.heap.size) (hD : ∀ b, D' b → D b ∨ w.heap.size ≤ b) : VRow B D' l v w' := by
  obtain ⟨⟨cs, h1, h2⟩, h3⟩ := h
  refine ⟨⟨cs, own_keep h1 fun k hk => hs k (own_ge h1 k hk) (own_lt h1 k hk) (h3 k hk), (h2.keep fun b hb => hs b hb.1 hb.2.1 hb.2.2.1).more fun b hb => ⟨hb.1, by have := hb.2.1; omega, fun hd => ?_, hb.2.2.2⟩⟩, fun b hb hd => ?_⟩
  · rcases hD b hd with h | h
    · exact hb.2.2.1 h
    · have := hb.2.1; omega
  · rcases hD b hd with h | h
    · exact h3 b hb h
    · have := own_lt h1 b hb; omega
theorem own_baseV {base base' : Nat} {e : TypeId} {size n : Nat} {xs : List Value} (h : w.ownsRow base e size v n xs) (hb : base' ≤ base) : w.ownsRow base' e size v n xs := by
  refine ⟨h.1, ?_⟩
  rcases h.2 with h | ⟨g, cap, cur, rfl, h1, h2⟩
  · exact .inl h
  · exact .inr ⟨g, cap, cur, rfl, by omega, h2⟩
theorem own_sliceV {base : Nat} {e : TypeId} {size n : Nat} {xs : List Value} (h : w.ownsRow base e size v n xs) : ∃ A c, v = .slice A n c ∧ n ≤ c ∧ c ≤ maxLen := by
  rcases h.2 with ⟨rfl, rfl⟩ | ⟨g, cap, cur, rfl, hb, hh, hc1, hc2, _⟩
  · exact ⟨none, 0, rfl, Nat.le_refl _, by unfold maxLen; omega⟩
  · exact ⟨_, cap, rfl, hc1, hc2⟩
theorem VRow.base (h : VRow B D l v w) (hb : B' ≤ B) : VRow B' D l v w := by
  obtain ⟨⟨cs, h1, h2⟩, h3⟩ := h
  exact ⟨⟨cs, own_baseV h1 hb, h2.more fun b k => ⟨by have := k.1; omega, k.2⟩⟩, h3⟩
theorem VRow.slice (h : VRow B D l v w) : ∃ A c, v = .slice A l.length c := by
  obtain ⟨⟨cs, h1, _⟩, _⟩ := h
  exact own_slice3 h1
/-- such a row is what lies behind a value -/
theorem VRow.va (h : VRow B D l v w) {k : Bool} {n : Int} (hn : (Lit.int .i64 n).wf = true) : VaIn (fun b => B ≤ b ∧ b < w.heap.size ∧ ¬ D b) w (.mk k n l) (.bool k) (.int .i64 n) v := by
  obtain ⟨⟨cs, h1, h2⟩, h3⟩ := h
  rw [VaIn]
  obtain ⟨A, c, rfl, l1, l2⟩ := own_sliceV h1
  refine ⟨rfl, rfl, hn, A, c, rfl, ⟨l1, l2⟩, fun hp => ?_⟩
  obtain ⟨g, cap, e, hg, hl, _, _, _⟩ := own_open h1 hp
  injection e with e1 _ e2
  subst e1 e2
  exact ⟨g, 0, rfl, ⟨hg, hl, h3 g rfl⟩, (h2.more fun b k => ⟨k.1, k.2.1, k.2.2.1⟩).vas h1⟩
end
def MadeP {S : Type} (R : S → (Nat → Prop) → World → Prop) (D : Nat → Prop) (r : Except Int (S × Va)) (w : World) (e : Ending) (w' : World) : Prop :=
  OutsD D w w' ∧ match r with
    | .ok (s', .mk l n s) => ∃ D' c, e = .returned (.agg #[.bool l, .int .i64 n, c]) ∧ R s' D' w' ∧ (∀ b, D' b → D b ∨ w.heap.size ≤ b) ∧ VRow w.heap.size D' s c w' ∧ (Lit.int .i64 n).wf = true
    | .error c => e = diesE c
def MadeOkP (g : Ge) : Prop := ∀ (S : Type) (B0 : Nat) (fid : FuncId) (caps : Array Value) (R : S → (Nat → Prop) → World → Prop) (f : S → Int → Except Int (S × Int)) (s : S) (D F : Nat → Prop) (u v x c : Value) (w : World),
  (∀ (args : Array Value) (w : World), Sem.run Tryd.prog (callFunc fid args) w = .ok (.enter fid args) w) → ChoosesP B0 fid caps R f → (∀ b, F b → b < w.heap.size ∧ ¬ D b) → GeIn F w g u v x c → R s D w → g.err = 0 → g.wide → (∀ c, g.made.run f s = .error c → c ≠ 0) →
  Calls Tryd.prog 37 #[.func (Fn.func fid) #[] caps, .agg #[u, v, x, c]] w (MadeP R D (g.made.run f s) w)
/-- the values so far ahead of the others -/
def glueR {S α : Type} (vs : List α) : Except Int (S × List α) → Except Int (S × List α)
  | .ok (s, l) => .ok (s, vs ++ l)
  | .error c => .error c
theorem glue_glue {S α : Type} (vs : List α) (x : α) (r : Except Int (S × List α)) : glueR vs (glueR [x] r) = glueR (vs ++ [x]) r := by
  cases r with
  | error c => rfl
  | ok p => obtain ⟨s, l⟩ := p; simp [glueR]
theorem all_cons_run {S α : Type} (f : S → Int → Except Int (S × Int)) (c : Ch α) (r : List (Ch α)) (s : S) : (Ch.all (c :: r)).run f s = thenR (c.run f s) fun s1 x => glueR [x] ((Ch.all r).run f s1) := by
  rw [Ch.all, run_bind']
  cases c.run f s with
  | error e => rfl
  | ok p =>
    obtain ⟨s1, x⟩ := p
    simp only [thenR]
    rw [run_bind']
    cases (Ch.all r).run f s1 with
    | error e => rfl
    | ok q => obtain ⟨s2, l⟩ := q; simp [thenR, glueR, Ch.run]
def listR {S : Type} : Except Int (S × List Va) → Except Int (S × Va)
  | .ok (s, l) => .ok (s, .mk true 0 l)
  | .error c => .error c
theorem bind_list_run {S : Type} (f : S → Int → Except Int (S × Int)) (c : Ch (List Va)) (s : S) : (c.bind fun l => Ch.done (Va.mk true 0 l)).run f s = listR (c.run f s) := by
  rw [run_bind']
  cases c.run f s with
  | error e => rfl
  | ok p => obtain ⟨s1, x⟩ := p; rfl
set_option maxRecDepth 100000 in
set_option maxHeartbeats 1000000 in
theorem madeP_just (a b : Int) (s0 : List Ge) {S : Type} {B0 : Nat} (fid : FuncId) (caps : Array Value) (R : S → (Nat → Prop) → World → Prop) (f : S → Int → Except Int (S × Int)) (s : S) (D F : Nat → Prop) (u v x c : Value) (w : World)
    (hC : ChoosesP B0 fid caps R f) (hx : GeIn F w (.mk 1 a b s0) u v x c) (hR : R s D w) :
    Calls Tryd.prog 37 #[.func (Fn.func fid) #[] caps, .agg #[u, v, x, c]] w (MadeP R D ((Ge.mk 1 a b s0).made.run f s) w) := by
  have HC := hid hC
  have HR := hid hR
  have lo0 := (hC.lo _ _ _ hR).1
  have WF := hid hx.wf
  obtain ⟨A, cp, rfl, rfl, rfl, rfl, _, _, _⟩ := hx.box
  have RUN : Hid ((Ge.mk 1 a b s0).made.run f s = .ok (s, .mk false a [])) := by show _ = _; rw [Ge.made]; simp [madeM, Ch.run]
  rw [RUN.out]
  clear hC hR hx RUN
  go_enter Tryd.func37, Tryd.ntmps37
  have KR := hid (HC.out.keep _ _ _ (((w.alloc (.cells #[.int .i64 1, .int .i64 a, .int .i64 b, .slice A s0.length cp] 24)).alloc (.cells #[.bool false, .int .i64 a, .slice none 0 0] 47)).alloc (.cells #[.bool true, .int .i64 0, .slice none 0 0] 47)) HR.out (fun b hb => (below3 w _ _ _).block b (HC.out.isIn _ _ _ HR.out b hb)) (fun b hb => (below3 w _ _ _).block b (by omega)) (below3 w _ _ _).size)
  have X1 := (boxes3 w (.cells #[.int .i64 1, .int .i64 a, .int .i64 b, .slice A s0.length cp] 24) (.cells #[.bool false, .int .i64 a, .slice none 0 0] 47) (.cells #[.bool true, .int .i64 0, .slice none 0 0] 47)).2.1
  go_wp2_with fail
  exact ⟨rfl, _, made_results _ _ _ _ _ _ _ _ rfl ((Has.cell X1 0).trans rfl) ((Has.cell X1 1).trans rfl) ((Has.cell X1 2).trans rfl), OutsD.below (below3 w _ _ _) (Nat.le_refl _), D, _, rfl, KR.out, fun b h => .inl h, VRow.nil_, WF.out.2.1⟩
theorem wf_wrap (a : Int) : (Lit.int .i64 (wrap64 a)).wf = true := by
  simp [Lit.wf, IntKind.min, IntKind.max, IntKind.bits, IntKind.signed, wrap64]; omega
set_option maxRecDepth 100000 in
set_option maxHeartbeats 1000000 in
theorem madeP_int (a b : Int) (s0 : List Ge) {S : Type} {B0 : Nat} (fid : FuncId) (caps : Array Value) (R : S → (Nat → Prop) → World → Prop) (f : S → Int → Except Int (S × Int)) (s : S) (D F : Nat → Prop) (u v x c : Value) (w : World)
    (hcf : ∀ (args : Array Value) (w : World), Sem.run Tryd.prog (callFunc fid args) w = .ok (.enter fid args) w) (hC : ChoosesP B0 fid caps R f) (hx : GeIn F w (.mk 2 a b s0) u v x c) (hR : R s D w) (he : (Ge.mk 2 a b s0).err = 0) (hN : ∀ c, (Ge.mk 2 a b s0).made.run f s = .error c → c ≠ 0) :
    Calls Tryd.prog 37 #[.func (Fn.func fid) #[] caps, .agg #[u, v, x, c]] w (MadeP R D ((Ge.mk 2 a b s0).made.run f s) w) := by
  have HC := hid hC
  have HR := hid hR
  have lo0 := (hC.lo _ _ _ hR).1
  obtain ⟨A, cp, rfl, rfl, rfl, rfl, _, _, _⟩ := hx.box
  have h1 := (Ge.err_parts he).1
  unfold oneE at h1
  rw [if_pos (by omega)] at h1
  have h2 : ¬ (numB a = false ∨ (2 : Int) = 2 ∧ (numB b = false ∨ b < a ∨ 1000 < b - a)) := fun h => by rw [if_pos h] at h1; omega
  have na : numB a = true := by
    cases h : numB a with
    | true => rfl
    | false => exact absurd (.inl h) h2
  have nb : numB b = true := by
    cases h : numB b with
    | true => rfl
    | false => exact absurd (.inr ⟨rfl, .inl h⟩) h2
  obtain ⟨a1, a2⟩ := numB_iff.1 na
  obtain ⟨b1, b2⟩ := numB_iff.1 nb
  have ab : a ≤ b := by
    by_cases h : b < a
    · exact absurd (.inr ⟨rfl, .inr (.inl h)⟩) h2
    · omega
  have sp : b - a ≤ 1000 := by
    by_cases h : 1000 < b - a
    · exact absurd (.inr ⟨rfl, .inr (.inr h)⟩) h2
    · omega
  have RUN : Hid ((Ge.mk 2 a b s0).made.run f s = thenR (f s (b - a)) fun s' x => .ok (s', .mk false (wrap64 (a + x)) [])) := by
    show _ = _
    rw [Ge.made]
    simp only [madeM, show ¬ ((2 : Int) = 1) by decide, if_false, if_true]
    rw [Ch.run, show wrap64 (b - a) = b - a by unfold wrap64; omega]
    cases f s (b - a) with
    | error c => rfl
    | ok p => obtain ⟨s', x⟩ := p; rfl
  rw [RUN.out] at hN ⊢
  have AN := hid (hC.ans s (b - a))
  have NZ : Hid (∀ c, f s (b - a) = .error c → c ≠ 0) := fun c h => hN c (by rw [h]; rfl)
  have ASK := hid (hC.ask s (b - a) D)
  generalize f s (b - a) = r at *
  clear hC hR hx he h1 h2 na nb hN RUN
  have W3 := hid (below3 w (.cells #[.int .i64 2, .int .i64 a, .int .i64 b, .slice A s0.length cp] 24) (.cells #[.bool false, .int .i64 0, .slice none 0 0] 47) (.cells #[.bool true, .int .i64 0, .slice none 0 0] 47))
  have X3 := hid (boxes3 w (.cells #[.int .i64 2, .int .i64 a, .int .i64 b, .slice A s0.length cp] 24) (.cells #[.bool false, .int .i64 0, .slice none 0 0] 47) (.cells #[.bool true, .int .i64 0, .slice none 0 0] 47))
  go_enter Tryd.func37, Tryd.ntmps37
  go_upto_region 6 with fail
  have sz3 : (((w.alloc (.cells #[.int .i64 2, .int .i64 a, .int .i64 b, .slice A s0.length cp] 24)).alloc (.cells #[.bool false, .int .i64 0, .slice none 0 0] 47)).alloc (.cells #[.bool true, .int .i64 0, .slice none 0 0] 47)).heap.size = w.heap.size + 3 := by simp
  have SZ := hid sz3
  clear sz3
  generalize (((w.alloc (.cells #[.int .i64 2, .int .i64 a, .int .i64 b, .slice A s0.length cp] 24)).alloc (.cells #[.bool false, .int .i64 0, .slice none 0 0] 47)).alloc (.cells #[.bool true, .int .i64 0, .slice none 0 0] 47)) = w3 at *
  have x0 := Has.cell X3.out.1 1
  have x1 := Has.cell X3.out.1 2
  simp at x0 x1
  have R3 := hid (HC.out.keep _ _ _ w3.drew HR.out (fun b hb => W3.out.block b (HC.out.isIn _ _ _ HR.out b hb)) (fun b hb => W3.out.block b (by omega)) (by show _ ≤ w3.heap.size; exact W3.out.size))
  have DL := hid (HC.out.isIn _ _ _ HR.out)
  have e1 : IntKind.i64.wrap (b - a) = b - a := IntWalk.i64_in _ (by omega)
  cases r with
  | error cc =>
    go_region_dies
    all_goals
      go_simp
      refine (ASK.out w3.drew R3.out (by omega) sp NZ.out).mono ?_
      rintro e w5 ⟨ho, he⟩
      simp only at he
      subst he
      exact ⟨rfl, (OutsD.below W3.out.drew (Nat.le_refl _)).trans ho fun b h => .inl h, rfl⟩
  | ok p =>
    obtain ⟨s', xa⟩ := p
    go_region_held3 (fun w' => w'.cell? ⟨w.heap.size, 1, none⟩ = some (.int .i64 a) ∧ w'.cell? ⟨w.heap.size, 2, none⟩ = some (.int .i64 b))
      (first | go_keep | exact ⟨t1, t2⟩)
      (first
        | (refine (ASK.out w3.drew R3.out (by omega) sp NZ.out).mono ?_; rintro e w5 ⟨ho, he⟩; simp only at he; obtain ⟨rfl, D', hR', hD'⟩ := he; have HO := hid ho; have HR' := hid hR'; have HD' := hid hD'; have X5 := (ho.2 (w.heap.size + 1) (by have := SZ.out; show _ < w3.heap.size; omega) (fun hd => by have := DL.out _ hd; omega)).trans X3.out.2.1; have y0 := Has.cell X5 0; have y1 := Has.cell X5 1; have y2 := Has.cell X5 2; have f0 := Has.froz X5 0; have f1 := Has.froz X5 1; have f2 := Has.froz X5 2; have Y0 := (ho.2 w.heap.size (by have := SZ.out; show _ < w3.heap.size; omega) (fun hd => by have := DL.out _ hd; omega)).trans X3.out.1; have t1 := Has.cell Y0 1; have t2 := Has.cell Y0 2; simp at y0 y1 y2 t1 t2; have XX := hid X5; clear ho hR' hD' Y0 X5))
    have X6 := hid (set3 XX.out (.bool false) (.int .i64 (IntKind.i64.wrap (a + xa))) (.slice none 0 0))
    go_wp2_with fail
    refine ⟨rfl, _, made_results _ _ _ _ _ _ _ _ rfl ((Has.cell X6.out.1 0).trans rfl) ((Has.cell X6.out.1 1).trans rfl) ((Has.cell X6.out.1 2).trans rfl), ?_, D', _, by rw [IntWalk.i64_left], ?_, fun b h => ?_, VRow.nil_, wf_wrap _⟩
    · exact ((OutsD.below W3.out.drew (Nat.le_refl _)).trans HO.out fun b h => .inl h).then_ X6.out.2.2.2 (by omega)
    · refine HC.out.keep _ _ _ _ HR'.out (fun b hb => X6.out.2.1 b fun e => ?_) (fun b hb => X6.out.2.1 b (by omega)) (Nat.le_of_eq X6.out.2.2.1.symm)
      rcases HD'.out b hb with h | h
      · have := DL.out b h; omega
      · have h2 : w3.heap.size ≤ b := h
        have := SZ.out; omega
    · rcases HD'.out b h with h | h
      · exact .inl h
      · have h2 : w3.heap.size ≤ b := h
        have := SZ.out; exact .inr (by omega)
end Go.Proofs.YtopehfmppfibhaaDoor
