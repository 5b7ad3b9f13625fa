/- What table.state of package learn returns: which head has a word's row. Condition: the contract of the function value that is asked. -/
import Derived.Test.YtkcggmhllijgcaaLqs
namespace Go.Proofs.Ytkcggmhllijgcaa
open Go.RowKit Go.Deep
theorem enter_st1 : ∀ (args : Array Value) (w : World), Sem.run Try.prog (callFunc 43 args) w = .ok (.enter 43 args) w := fun _ _ => by kernel_rfl
/-- what state's closure finds -/
structure StIn (fid : FuncId) (caps : Array Value) (r : Option Nat) (n bt : Nat) (hv tv : Value) (heads tails : List (List Int)) (B0 b2 b5 : Nat) (rv : Value) (rl : List (List Int)) (w : World) : Prop where
  x2 : w.heap[b2]? = some (.cells #[.pointer (some ⟨bt, 0, none⟩)] 51 (0, 0))
  x5 : w.heap[b5]? = some (.cells #[rv] 22 (0, 0))
  tin : TIn fid caps r n bt hv tv heads tails w
  rw : RowsIn (Fx r w) w rv rl
  n2 : some b2 ≠ r
  n5 : some b5 ≠ r
  lo : B0 ≤ w.heap.size
theorem StIn.gr {fid : FuncId} {caps : Array Value} {r : Option Nat} {n bt : Nat} {hv tv : Value} {heads tails : List (List Int)} {B0 b2 b5 : Nat} {rv : Value} {rl : List (List Int)} {w w' : World} (h : StIn fid caps r n bt hv tv heads tails B0 b2 b5 rv rl w) (hg : w.grownBy w' r) : StIn fid caps r n bt hv tv heads tails B0 b2 b5 rv rl w' :=
  ⟨(gr_block hg (Has.lt h.x2) h.n2).trans h.x2, (gr_block hg (Has.lt h.x5) h.n5).trans h.x5, h.tin.gr hg, rows_gr h.rw hg, h.n2, h.n5, Nat.le_trans h.lo hg.size⟩
set_option maxRecDepth 100000 in
set_option maxHeartbeats 2000000 in
theorem st1_ask {fid : FuncId} {caps : Array Value} {T : List Int → List Int} {n : Nat} {r : Option Nat} {R : Nat → World → Prop} {B0 : Nat} (HT : TellsOk fid caps T n r R B0) (bt b2 b5 : Nat) (hv tv rv : Value) (heads tails rl : List (List Int)) :
    AskW 43 #[.pointer (some ⟨b2, 0, none⟩), .pointer (some ⟨b5, 0, none⟩)] (fun g => decide (rowL T tails g = rl)) (AskOk n tails) r R tails.length (StIn fid caps r n bt hv tv heads tails B0 b2 b5 rv rl) := by
  refine ⟨fun s w v h hA hI hR hh => ?_, fun w w' hI hg => hI.gr hg, enter_st1⟩
  have HTT := hid HT
  have HA := hid hA
  have HI := hid hI
  have HR := hid hR
  have HH := hid hh
  have c2 := (Has.cell hI.x2 0).trans rfl
  have c5 := (Has.cell hI.x5 0).trans rfl
  have l2 := Has.lt hI.x2
  have l5 := Has.lt hI.x5
  have N2 := hid hI.n2
  have N5 := hid hI.n5
  obtain ⟨A, c, rfl, _, _, _⟩ := hh
  obtain ⟨Ar, cr, rfl, _, _⟩ := hI.rw
  clear HT hA hI hR
  show Calls Try.prog 43 #[.slice A h.length c, .pointer (some ⟨b2, 0, none⟩), .pointer (some ⟨b5, 0, none⟩)] w _
  go_enter Try.func43, Try.ntmps43
  go_upto_region 1 with fail
  go_region_held3 (fun w' => w'.cell? ⟨b2, 0, none⟩ = some (.pointer (some ⟨bt, 0, none⟩)) ∧ w'.cell? ⟨b5, 0, none⟩ = some (.slice Ar rl.length cr)) (first | exact ⟨c2, c5⟩ | exact S5.out | exact S6.out | go_keep) (first
    | (go_simp; go_at_call 42; refine (row_any HTT.out h bt hv tv heads tails _ s _ (HI.out.tin.gr (gr_drew w r)) (HTT.out.keep _ _ _ HR.out fun _ _ => rfl) HI.out.lo (ints_gr HH.out (gr_drew w r)) HA.out).mono ?_; rintro e w5 ⟨u5, rfl, hr5, hg5, hR5⟩; have G5 : Hid (w.grownBy w5 r) := (gr_drew w r).trans hg5; have S5 : Hid (w5.cell? ⟨b2, 0, none⟩ = some (.pointer (some ⟨bt, 0, none⟩)) ∧ w5.cell? ⟨b5, 0, none⟩ = some (.slice Ar rl.length cr)) := ⟨(World.cell?_of_block (a := ⟨b2, 0, none⟩) (gr_block G5.out l2 N2.out)).trans c2, (World.cell?_of_block (a := ⟨b5, 0, none⟩) (gr_block G5.out l5 N5.out)).trans c5⟩; have I5 : Hid (RowsIn (fun _ => True) w5 u5 (rowL T tails h)) := hr5.more fun _ _ => trivial; have R5 := hid hR5; obtain ⟨A5, c5', rfl, _, _⟩ := hr5; clear hg5 hR5)
    | (go_simp; go_at_call 44; refine (lsame_any (rowL T tails h) rl (fun _ => True) _ _ w5 (I5.out) (((HI.out.gr G5.out).rw).more fun _ _ => trivial)).mono ?_; rintro e w6 ⟨rfl, q, rfl⟩; have G6 : Hid (w.grownBy (w5.drewN q) r) := G5.out.trans (gr_below (below_drewN (Below.refl _ _) q) r); have S6 : Hid ((w5.drewN q).cell? ⟨b2, 0, none⟩ = some (.pointer (some ⟨bt, 0, none⟩)) ∧ (w5.drewN q).cell? ⟨b5, 0, none⟩ = some (.slice Ar rl.length cr)) := S5.out; have R6 : Hid (R (s + tails.length) (w5.drewN q)) := HTT.out.keep _ _ _ R5.out fun _ _ => rfl))
  go_wp2_with fail
  go_ret
  exact ⟨rfl, G6.out, R6.out⟩
def StatePost (T : List Int → List Int) (r : Option Nat) (R : Nat → World → Prop) (heads tails : List (List Int)) (hd : List Int) (s : Nat) (w : World) (e : Ending) (w' : World) : Prop :=
  e = .returned (.int .i64 (stateL T tails heads hd)) ∧ w.grownBy w' r ∧ ∃ s', s ≤ s' ∧ s' ≤ s + tails.length * (heads.length + 1) ∧ R s' w'
set_option maxRecDepth 100000 in
set_option maxHeartbeats 2000000 in
theorem state_any {fid : FuncId} {caps : Array Value} {T : List Int → List Int} {n : Nat} {r : Option Nat} {R : Nat → World → Prop} {B0 : Nat} (HT : TellsOk fid caps T n r R B0) (hd : List Int) (bt : Nat) (hv tv : Value) (heads tails : List (List Int)) (hvv : Value) (s : Nat) (w : World)
    (hM : TIn fid caps r n bt hv tv heads tails w) (hR : R s w) (hB : B0 ≤ w.heap.size) (hh : IntsIn .i64 (Fx r w) w hvv hd) (ha : AskOk n tails hd) (hA : ∀ i, i < heads.length → AskOk n tails (rowAt heads i)) :
    Calls Try.prog 36 #[.pointer (some ⟨bt, 0, none⟩), hvv] w (StatePost T r R heads tails hd s w) := by
  have HTT := hid HT
  have HA := hid ha
  have HAA := hid hA
  have LOW : Hid (∀ b, r = some b → b < w.heap.size) := fun b hb => by have := HT.low b hb; omega
  have B1 : Hid (Below w.heap.size w (w.alloc (.cells #[.pointer (some ⟨bt, 0, none⟩)] 51))) := (Below.refl _ _).alloc (Nat.le_refl _) _
  have G1 := hid (gr_below B1.out r)
  have X2 := hid (Has.new w (.cells #[.pointer (some ⟨bt, 0, none⟩)] 51))
  have T1 := hid (hM.gr G1.out)
  have R1 := hid (HT.below hR hB B1.out)
  have H1 := hid (ints_gr hh G1.out)
  obtain ⟨A, c, rfl, _, _, _⟩ := hh
  obtain ⟨Ah, ch, rfl, _, _⟩ := hM.hs
  obtain ⟨w1, hw1⟩ : ∃ w1, w1 = w.alloc (.cells #[.pointer (some ⟨bt, 0, none⟩)] 51) := ⟨_, rfl⟩
  have s1 : w1.heap.size = w.heap.size + 1 := by rw [hw1]; simp
  obtain ⟨b2, hb2⟩ : ∃ b2, b2 = w.heap.size := ⟨_, rfl⟩
  have N2 : Hid (some b2 ≠ r) := fun e => by have := LOW.out b2 e.symm; omega
  rw [← hw1] at B1 G1 X2 T1 R1 H1
  rw [← hb2] at X2
  have c2 := (Has.cell X2.out 0).trans rfl
  clear HT hM hR ha hA
  go_enter Try.func36, Try.ntmps36
  go_upto_region 1 with fail
  rw [← hw1, ← hb2]
  clear hw1
  have HB2 := hid hb2
  clear hb2
  go_wp2_with fail
  refine (row_any HTT.out hd bt (.slice Ah heads.length ch) tv heads tails _ s w1 T1.out R1.out (by have := B1.out.size; omega) H1.out HA.out).mono ?_
  rintro e w3 ⟨u3, rfl, hr3, hg3, hR3⟩
  have G3 := hid (G1.out.trans hg3)
  have s3 := hg3.size
  have LO1 : Hid (∀ b, r = some b → b < w1.heap.size) := fun b hb => by have := LOW.out b hb; omega
  have I3 : Hid (RowsIn (Fx r w3) w3 u3 (rowL T tails hd)) := hr3.more fun b hb => ⟨hb.2, fun e => by have := LO1.out b e.symm; have := hb.1; omega⟩
  have T3 := hid (T1.out.gr hg3)
  have X3 : Hid (w3.heap[b2]? = some (.cells #[.pointer (some ⟨bt, 0, none⟩)] 51 (0, 0))) := (gr_block hg3 (by have := HB2.out; omega) N2.out).trans X2.out
  have R3 := hid hR3
  obtain ⟨A3, c3, rfl, _, _⟩ := hr3
  obtain ⟨L3, hL3⟩ : ∃ L, L = (rowL T tails hd).length := ⟨_, rfl⟩
  rw [← hL3] at I3 ⊢
  have B4 : Hid (Below w3.heap.size w3 (w3.alloc (.cells #[.slice A3 L3 c3] 22))) := (Below.refl _ _).alloc (Nat.le_refl _) _
  have G4 := hid (gr_below B4.out r)
  have X5 := hid (Has.new w3 (.cells #[.slice A3 L3 c3] 22))
  have T4 := hid (T3.out.gr G4.out)
  have R4 := hid (HTT.out.below R3.out (by omega) B4.out)
  have I4 := hid (rows_gr I3.out G4.out)
  have X24 := hid (Has.alloc X3.out (.cells #[.slice A3 L3 c3] 22))
  obtain ⟨w4, hw4⟩ : ∃ w4, w4 = w3.alloc (.cells #[.slice A3 L3 c3] 22) := ⟨_, rfl⟩
  obtain ⟨b5, hb5⟩ : ∃ b5, b5 = w3.heap.size := ⟨_, rfl⟩
  have N5 : Hid (some b5 ≠ r) := fun e => by have := LO1.out b5 e.symm; omega
  have s4 : w4.heap.size = w3.heap.size + 1 := by rw [hw4]; simp
  rw [← hw4] at G4 X5 T4 R4 I4 X24
  rw [← hb5] at X5
  have c24 := (Has.cell X24.out 0).trans rfl
  have c54 := (Has.cell X5.out 0).trans rfl
  have ct := (Has.cell T4.out.box 2).trans rfl
  have ST : Hid (StIn fid caps r n bt (.slice Ah heads.length ch) tv heads tails B0 b2 b5 (.slice A3 L3 c3) (rowL T tails hd) w4) := ⟨X24.out, X5.out, T4.out, I4.out, N2.out, N5.out, by omega⟩
  have G34 := hid (G3.out.trans G4.out)
  clear hg3 hR3 c2 hL3
  go_upto_region 2 with fail
  rw [← hw4, ← hb5]
  clear hw4 hb5
  go_wp2_with fail
  refine (ixw_any (st1_ask HTT.out bt b2 b5 (.slice Ah heads.length ch) tv (.slice A3 L3 c3) heads tails (rowL T tails hd)) heads (.slice Ah heads.length ch) (s + tails.length) w4 T4.out.hs HAA.out ST.out R4.out).mono ?_
  rintro e w6 ⟨rfl, hg6, s', h1, h2, h3⟩
  have P : Hid (StatePost T r R heads tails hd s w (.returned (.int .i64 (stateL T tails heads hd))) w6) := ⟨rfl, G34.out.trans hg6, s', by omega, by rw [Nat.mul_add, Nat.mul_one]; omega, h3⟩
  have ES : Hid (rIx (fun g => decide (rowL T tails g = rowL T tails hd)) heads = stateL T tails heads hd) := rfl
  rw [ES.out]
  clear hg6 h1 h2 h3 c24 c54 ct
  go_wp2_with fail
  go_ret
  exact P.out
end Go.Proofs.Ytkcggmhllijgcaa
