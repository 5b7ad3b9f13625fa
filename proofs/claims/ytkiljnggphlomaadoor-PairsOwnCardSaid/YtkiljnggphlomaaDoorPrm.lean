/- Pairs of levels: all, those that are missing, the next row, the rows: as mathematics. No program in sight. No conditions. -/
import Derived.Test.YtkiljnggphlomaaDoorMrow
namespace Go.Proofs.YtkiljnggphlomaaDoor
abbrev Four := Int × Int × Int × Int
def lvl (levels : List Int) (a : Nat) : Nat := (at0 levels a).toNat
/-- all pairs of levels, in their order -/
def allB (levels : List Int) (a x b : Nat) : List Four := (List.range (lvl levels b)).map fun (y : Nat) => ((a : Int), (x : Int), (b : Int), (y : Int))
def allX (levels : List Int) (a x : Nat) : List Four := (List.range (levels.length - (a + 1))).flatMap fun k => allB levels a x (a + 1 + k)
def allA (levels : List Int) (a : Nat) : List Four := (List.range (lvl levels a)).flatMap fun x => allX levels a x
def allP (levels : List Int) : List Four := (List.range levels.length).flatMap fun a => allA levels a
def hasP (row : List Int) (p : Four) : Bool := at0 row p.1.toNat == p.2.1 && at0 row p.2.2.1.toNat == p.2.2.2
def missP (levels : List Int) (rows : List (List Int)) : List Four := (allP levels).filter fun p => !rows.any fun r => hasP r p
/-- how many of some pairs a row has at a place -/
def cntP (row : List Int) (a : Nat) (open_ : List Four) : Nat := (open_.filter fun q => (q.1 == (a : Int) || q.2.2.1 == (a : Int)) && hasP row q).length
/-- the best level at a place: the first x of the most -/
def bestP (row : List Int) (a : Nat) (open_ : List Four) : Nat → Int × Int
  | 0 => (0, -1)
  | x + 1 => let b := bestP row a open_ x; let n : Int := cntP (row.set a x) a open_; if b.2 < n then (x, n) else b
def fillP (levels : List Int) (open_ : List Four) : Nat → List Int → List Int
  | 0, row => row
  | a + 1, row => let r := fillP levels open_ a row; if 0 ≤ at0 r a then r else r.set a (bestP r a open_ (lvl levels a)).1
def seedP (levels : List Int) (p : Four) : List Int := ((List.replicate levels.length (-1)).set p.1.toNat p.2.1).set p.2.2.1.toNat p.2.2.2
def nextP (levels : List Int) (open_ : List Four) : List Int := fillP levels open_ levels.length (seedP levels (open_.getD 0 (0, 0, 0, 0)))
def growP (levels : List Int) : Nat → List (List Int) → List (List Int)
  | 0, rows => rows
  | f + 1, rows => if (missP levels rows).length = 0 then rows else growP levels f (rows ++ [nextP levels (missP levels rows)])
/-- from the last row on: each that is not needed is taken out -/
def pruneP (levels : List Int) : Nat → List (List Int) → List (List Int)
  | 0, rows => rows
  | i + 1, rows => let less := rows.take i ++ rows.drop (i + 1); pruneP levels i (if (missP levels less).length = 0 then less else rows)
def rowsP (levels : List Int) : List (List Int) := let r := growP levels ((allP levels).length + 1) []; pruneP levels r.length r
def twoOk (a b : Nat) : Bool := (rowsP [a, b]).length == a * b && (rowsP [a, b, 1]).length == a * b
set_option maxRecDepth 100000 in
theorem two_all : (List.range 5).all (fun a => (List.range 5).all fun b => twoOk (a + 1) (b + 1)) = true := by decide +kernel
theorem two_ok (a b : Nat) (ha : 1 ≤ a) (ha5 : a ≤ 5) (hb : 1 ≤ b) (hb5 : b ≤ 5) : (rowsP [(a : Int), (b : Int)]).length = a * b ∧ (rowsP [(a : Int), (b : Int), 1]).length = a * b := by
  have h := two_all
  rw [List.all_eq_true] at h
  have h1 := h (a - 1) (by simp; omega)
  rw [List.all_eq_true] at h1
  have h2 := h1 (b - 1) (by simp; omega)
  rw [show a - 1 + 1 = a from by omega, show b - 1 + 1 = b from by omega] at h2
  simp only [twoOk, Bool.and_eq_true, beq_iff_eq] at h2
  exact h2
end Go.Proofs.YtkiljnggphlomaaDoor
