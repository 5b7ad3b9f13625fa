/- Generators as plain trees: parts, what is wrong with one; the choices that one asks for, as a tree of questions; the tape that is mended. No program in sight. No conditions. -/
import Derived.Test.YtopehfmppfibhaaDoorVam
import Derived.Test.YtopehfmppfibhaaDoorMach
namespace Go.Proofs.YtopehfmppfibhaaDoor
open Go.RowKit
inductive Ge where
  | mk (k a b : Int) (s : List Ge)
instance : Inhabited Ge := ⟨.mk 0 0 0 []⟩
def Ge.k : Ge → Int | .mk k _ _ _ => k
def Ge.a : Ge → Int | .mk _ a _ _ => a
def Ge.b : Ge → Int | .mk _ _ b _ => b
def Ge.s : Ge → List Ge | .mk _ _ _ s => s
theorem Ge.ind {P : Ge → Prop} (h : ∀ k a b s, (∀ y ∈ s, P y) → P (.mk k a b s)) : ∀ x, P x := fun x =>
  Ge.rec (motive_1 := P) (motive_2 := fun l => ∀ y ∈ l, P y) (fun k a b s ih => h k a b s ih) (fun y hy => by cases hy) (fun a r ha hr y hy => by
    rcases List.mem_cons.1 hy with rfl | hy
    · exact ha
    · exact hr y hy) x
mutual
/-- how many parts, and are they few, and not too deep -/
def Ge.parts : Ge → Nat → Nat × Bool
  | .mk _ _ _ s, d => ((Ges.parts s (d + 1) (1, decide (d < 6))).1, (Ges.parts s (d + 1) (1, decide (d < 6))).2 && decide ((Ges.parts s (d + 1) (1, decide (d < 6))).1 ≤ 30))
def Ges.parts : List Ge → Nat → Nat × Bool → Nat × Bool
  | [], _, p => p
  | y :: r, d, p => if p.2 then Ges.parts r d (p.1 + (y.parts d).1, (y.parts d).2 && decide (p.1 + (y.parts d).1 ≤ 30)) else p
end
theorem Ges.parts_snoc : ∀ (l : List Ge) (y : Ge) (d : Nat) (p : Nat × Bool), Ges.parts (l ++ [y]) d p = if (Ges.parts l d p).2 then ((Ges.parts l d p).1 + (y.parts d).1, (y.parts d).2 && decide ((Ges.parts l d p).1 + (y.parts d).1 ≤ 30)) else Ges.parts l d p
  | [], y, d, p => by rw [List.nil_append, Ges.parts]; simp only [Ges.parts]
  | x :: r, y, d, p => by
    rw [List.cons_append, Ges.parts, Ges.parts]
    split
    · rw [Ges.parts_snoc r y d]
    · first | rfl | (rename_i h; rw [if_neg h])
theorem gtake_succ {s : List Ge} {i : Nat} (h : i < s.length) : s.take (i + 1) = s.take i ++ [s[i]] := by rw [List.take_succ_eq_append_getElem h]
theorem gparts_succ {s : List Ge} {i : Nat} (h : i < s.length) (d : Nat) (p : Nat × Bool) : Ges.parts (s.take (i + 1)) d p = if (Ges.parts (s.take i) d p).2 then ((Ges.parts (s.take i) d p).1 + (s[i].parts d).1, (s[i].parts d).2 && decide ((Ges.parts (s.take i) d p).1 + (s[i].parts d).1 ≤ 30)) else Ges.parts (s.take i) d p := by
  rw [gtake_succ h, Ges.parts_snoc]
/-- once there are too many nothing is added -/
theorem gparts_stop : ∀ (l : List Ge) (d : Nat) (p : Nat × Bool), p.2 = false → Ges.parts l d p = p
  | [], _, p, _ => by rw [Ges.parts]
  | x :: r, _, p, h => by rw [Ges.parts, if_neg (by simp [h])]
theorem gparts_full {s : List Ge} {i : Nat} {d : Nat} {p : Nat × Bool} (h : (Ges.parts (s.take i) d p).2 = false) : Ges.parts s d p = Ges.parts (s.take i) d p := by
  have e : ∀ (a b : List Ge) (p : Nat × Bool), (Ges.parts a d p).2 = false → Ges.parts (a ++ b) d p = Ges.parts a d p := by
    intro a
    induction a with
    | nil => intro b p h; rw [Ges.parts] at h; rw [List.nil_append, gparts_stop _ _ _ h, Ges.parts]
    | cons x r ih =>
      intro b p h
      rw [Ges.parts] at h ⊢
      rw [List.cons_append, Ges.parts]
      split
      · rename_i hp; rw [if_pos hp] at h; exact ih b _ h
      · rfl
  have := e (s.take i) (s.drop i) p h
  rwa [List.take_append_drop] at this
mutual
theorem Ge.parts_le : ∀ (g : Ge) (d : Nat), d ≤ 6 → (g.parts d).1 ≤ 1 + 30 * (6 - d)
  | .mk _ _ _ s, d, hd => by
    rw [Ge.parts]
    show (Ges.parts s (d + 1) (1, decide (d < 6))).1 ≤ _
    by_cases h6 : d < 6
    · have := Ges.parts_le s (d + 1) (1, decide (d < 6)) (by omega) (by show 1 ≤ 1 + 30 * (7 - (d + 1)); omega) (fun _ => by show 1 ≤ 30; omega)
      omega
    · rw [gparts_stop _ _ _ (by simp [h6])]; show 1 ≤ _; omega
theorem Ges.parts_le : ∀ (l : List Ge) (d : Nat) (p : Nat × Bool), d ≤ 6 → p.1 ≤ 1 + 30 * (7 - d) → (p.2 = true → p.1 ≤ 30) → (Ges.parts l d p).1 ≤ 1 + 30 * (7 - d)
  | [], _, p, _, h, _ => by rw [Ges.parts]; exact h
  | x :: r, d, p, hd, h, h2 => by
    rw [Ges.parts]
    split
    · rename_i hp
      have h3 := Ge.parts_le x d hd
      have h4 := h2 hp
      refine Ges.parts_le r d _ hd (by show p.1 + (x.parts d).1 ≤ _; omega) fun h5 => ?_
      simp only [Bool.and_eq_true, decide_eq_true_eq] at h5
      exact h5.2
    · exact h
end
theorem gparts_take_le (s : List Ge) (i d : Nat) (hd : d < 6) : (Ges.parts (s.take i) (d + 1) (1, decide (d < 6))).1 ≤ 200 ∧ ((Ges.parts (s.take i) (d + 1) (1, decide (d < 6))).2 = true → (Ges.parts (s.take i) (d + 1) (1, decide (d < 6))).1 ≤ 30) := by
  constructor
  · have := Ges.parts_le (s.take i) (d + 1) (1, decide (d < 6)) (by omega) (by show 1 ≤ 1 + 30 * (7 - (d + 1)); omega) (fun _ => by show 1 ≤ 30; omega)
    omega
  · have key : ∀ (l : List Ge) (p : Nat × Bool), (p.2 = true → p.1 ≤ 30) → (Ges.parts l (d + 1) p).2 = true → (Ges.parts l (d + 1) p).1 ≤ 30 := by
      intro l
      induction l with
      | nil => intro p h h2; rw [Ges.parts] at h2 ⊢; exact h h2
      | cons x r ih =>
        intro p h h2
        rw [Ges.parts] at h2 ⊢
        split
        · rename_i hp
          rw [if_pos hp] at h2
          refine ih _ (fun h3 => ?_) h2
          simp only [Bool.and_eq_true, decide_eq_true_eq] at h3
          exact h3.2
        · rename_i hp; rw [if_neg hp] at h2; exact absurd h2 hp
    exact key _ _ (fun _ => by show 1 ≤ 30; omega)
/-- a number that may stand in a generator -/
def numB (n : Int) : Bool := decide (-1073741824 ≤ n) && decide (n ≤ 1073741824)
def oneE (k a b : Int) (m : Nat) : Int :=
  if k = 1 ∨ k = 2 then (if numB a = false ∨ (k = 2 ∧ (numB b = false ∨ b < a ∨ 1000 < b - a)) then 1 else if 0 < m then 3 else 0)
  else if k = 4 then (if a < 0 ∨ 5 < a then 1 else if m ≠ 1 then 3 else 0)
  else if k = 3 then 0
  else if k = 5 then (if m = 0 then 3 else 0)
  else 3
mutual
def Ge.err : Ge → Int
  | .mk k a b s => if oneE k a b s.length ≠ 0 then oneE k a b s.length else Ges.err s
def Ges.err : List Ge → Int
  | [] => 0
  | y :: r => if y.err ≠ 0 then y.err else Ges.err r
end
def chkG (g : Ge) : Int := if (g.parts 0).2 then g.err else 4
theorem Ges.err_mem : ∀ {s : List Ge}, Ges.err s = 0 → ∀ y ∈ s, y.err = 0
  | [], _, _, h => by cases h
  | x :: r, hx, y, h => by
    rw [Ges.err] at hx
    split at hx
    · rename_i hy; exact absurd hx hy
    · rename_i hy
      rcases List.mem_cons.1 h with rfl | h
      · omega
      · exact Ges.err_mem hx y h
theorem Ge.err_parts {k a b : Int} {s : List Ge} (h : (Ge.mk k a b s).err = 0) : oneE k a b s.length = 0 ∧ ∀ y ∈ s, y.err = 0 := by
  rw [Ge.err] at h
  split at h
  · rename_i hy; exact absurd h hy
  · rename_i hy; exact ⟨by omega, Ges.err_mem h⟩
theorem chkG_good {g : Ge} (h : chkG g = 0) : (g.parts 0).2 = true ∧ g.err = 0 := by
  unfold chkG at h
  split at h
  · exact ⟨by assumption, h⟩
  · omega
/-- a tree of questions: how much the answer may be at most, and what follows -/
inductive Ch (α : Type) where
  | done (x : α)
  | ask (m : Int) (k : Int → Ch α)
def Ch.bind {α β : Type} : Ch α → (α → Ch β) → Ch β
  | .done x, f => f x
  | .ask m k, f => .ask m fun x => (k x).bind f
def Ch.all {α : Type} : List (Ch α) → Ch (List α)
  | [] => .done []
  | c :: r => c.bind fun x => (Ch.all r).bind fun l => .done (x :: l)
def madeM (k a b : Int) (l : List (Ch Va)) : Ch Va :=
  if k = 1 then .done (.mk false a [])
  else if k = 2 then .ask (wrap64 (b - a)) fun x => .done (.mk false (wrap64 (a + x)) [])
  else if k = 3 then (Ch.all l).bind fun s => .done (.mk true 0 s)
  else if k = 4 then .ask a fun x => (Ch.all (List.replicate x.toNat (l.getD 0 (.done default)))).bind fun s => .done (.mk true 0 s)
  else if k = 5 then .ask ((l.length : Int) - 1) fun x => l.getD x.toNat (.done default)
  else .done (.mk true 0 [])
mutual
def Ge.made : Ge → Ch Va
  | .mk k a b s => madeM k a b (Ges.mades s)
def Ges.mades : List Ge → List (Ch Va)
  | [] => []
  | y :: r => y.made :: Ges.mades r
end
theorem mades_len : ∀ s : List Ge, (Ges.mades s).length = s.length
  | [] => by simp [Ges.mades]
  | y :: r => by simp [Ges.mades, mades_len r]
theorem mades_getD : ∀ (s : List Ge) (i : Nat) (h : i < s.length) (z : Ch Va), (Ges.mades s).getD i z = s[i].made
  | [], _, h, _ => by simp at h
  | y :: r, 0, _, _ => by simp [Ges.mades]
  | y :: r, i + 1, h, z => by simpa [Ges.mades] using mades_getD r i (by simpa using h) z
/-- the questions answered by a rule with a state; a rule may refuse, with a number -/
def Ch.run {S α : Type} (f : S → Int → Except Int (S × Int)) : Ch α → S → Except Int (S × α)
  | .done x, s => .ok (s, x)
  | .ask m k, s => match f s m with
    | .ok (s', x) => (k x).run f s'
    | .error c => .error c
def thenR {S α β : Type} (r : Except Int (S × α)) (g : S → α → Except Int (S × β)) : Except Int (S × β) := match r with
  | .ok (s, x) => g s x
  | .error c => .error c
theorem run_bind' {S α β : Type} (f : S → Int → Except Int (S × Int)) : ∀ (c : Ch α) (g : α → Ch β) (s : S), (c.bind g).run f s = thenR (c.run f s) fun s' x => (g x).run f s'
  | .done x, g, s => rfl
  | .ask m k, g, s => by
    rw [Ch.bind, Ch.run, Ch.run]
    cases h : f s m with
    | ok p => obtain ⟨s', x⟩ := p; exact run_bind' f (k x) g s'
    | error c => rfl
/-- a path through the questions, from the first to the last -/
def Ch.path {α : Type} : Ch α → List Int → Prop
  | .done _, l => l = []
  | .ask _ _, [] => False
  | .ask _ k, x :: r => (k x).path r
/-- no path goes on behind another one's end -/
theorem path_free {α : Type} : ∀ (c : Ch α) (p q : List Int), c.path p → c.path q → (∀ i, i < p.length → i < q.length → at0 p i = at0 q i) → p = q
  | .done _, p, q, hp, hq, _ => by rw [Ch.path] at hp hq; rw [hp, hq]
  | .ask _ _, [], _, hp, _, _ => by rw [Ch.path] at hp; exact hp.elim
  | .ask _ _, _ :: _, [], _, hq, _ => by rw [Ch.path] at hq; exact hq.elim
  | .ask _ k, x :: p, y :: q, hp, hq, h => by
    have h0 : x = y := by have := h 0 (by simp) (by simp); simpa [at0] using this
    subst h0
    rw [Ch.path] at hp hq
    rw [path_free (k x) p q hp hq fun i h1 h2 => by have := h (i + 1) (by simpa using h1) (by simpa using h2); simpa [at0] using this]
/-- what mending takes of a list of numbers, at a place, for a question -/
def clampT (t : List Int) (n : Nat) (m : Int) : Int := if n < t.length then max 0 (min (at0 t n) m) else 0
def mendF (t : List Int) (out : List Int) (m : Int) : Except Int (List Int × Int) := .ok (out ++ [clampT t out.length m], clampT t out.length m)
theorem mend_run {α : Type} (t : List Int) : ∀ (c : Ch α) (out : List Int), ∃ p x, c.run (mendF t) out = .ok (out ++ p, x) ∧ c.path p ∧ (∀ z ∈ p, 0 ≤ z) ∧ (t = [] → ∀ z ∈ p, z = 0)
  | .done x, out => ⟨[], x, by simp [Ch.run], by simp [Ch.path], by simp, by simp⟩
  | .ask m k, out => by
    obtain ⟨p, x, h1, h2, h3, h4⟩ := mend_run t (k (clampT t out.length m)) (out ++ [clampT t out.length m])
    refine ⟨clampT t out.length m :: p, x, ?_, by rw [Ch.path]; exact h2, ?_, ?_⟩
    · rw [Ch.run]; simp only [mendF]; rw [h1]; simp
    · intro z hz
      rcases List.mem_cons.1 hz with rfl | hz
      · unfold clampT; split <;> omega
      · exact h3 z hz
    · intro ht z hz
      rcases List.mem_cons.1 hz with rfl | hz
      · subst ht; simp [clampT]
      · exact h4 ht z hz
/-- the tape that is mended of numbers -/
def mendL (g : Ge) (t : List Int) : List Int := match g.made.run (mendF t) [] with
  | .ok (l, _) => l
  | .error _ => []
theorem mendL_spec (g : Ge) (t : List Int) : (∃ x, g.made.run (mendF t) [] = .ok (mendL g t, x)) ∧ g.made.path (mendL g t) ∧ (∀ z ∈ mendL g t, 0 ≤ z) ∧ (t = [] → ∀ z ∈ mendL g t, z = 0) := by
  obtain ⟨p, x, h1, h2, h3, h4⟩ := mend_run t g.made []
  rw [List.nil_append] at h1
  have e : mendL g t = p := by unfold mendL; rw [h1]
  rw [e]
  exact ⟨⟨x, h1⟩, h2, h3, h4⟩
end Go.Proofs.YtopehfmppfibhaaDoor
