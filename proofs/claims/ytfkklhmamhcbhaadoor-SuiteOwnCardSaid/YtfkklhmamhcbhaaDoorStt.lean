/- suite.Least: the fewest tests, by their numbers; or what is wrong with the tests. Condition: the search's table is laid. -/
import Derived.Test.YtfkklhmamhcbhaaDoorStk
import Derived.Laws.EntriesVeiled
namespace Go.Proofs.YtfkklhmamhcbhaaDoor
open Go.RowKit Go.Deep
def leastR (n : Int) (l : List Nat) : List Nat := if stC n l = 0 then (leastT l).getD [] else []
def Inv1 (w : World) (v : Value) (l : List Nat) (w' : World) : Prop := w'.ownsRow w.heap.size 3 1 v l.length (intsV l) ∧ Below w.heap.size w w'
set_option maxRecDepth 100000 in
set_option maxHeartbeats 2000000 in
theorem sleast_any (n : Int) (l : List Nat) (F : Nat → Prop) (v : Value) (w : World) (hF : ∀ b, F b → b < w.heap.size) (hT : Tz w) (hv : IntsIn .u32 F w v (ofN l)) :
    Calls Tryd.prog 5 #[.int .i64 n, v] w fun e w' => ∃ r, e = .returned (.tuple #[r, errV (stC n l)]) ∧ Inv1 w r (leastR n l) w' := by
  have HF := hid hF
  have HT := hid hT
  have H := hid hv
  have NW := hid (nwf hv)
  have tzl : 2 < w.heap.size := cell_lt (p := ⟨2, 0, none⟩) (hT 0 (by decide))
  obtain ⟨A, c, rfl, ⟨h1, h2⟩, _, _⟩ := hv
  rw [ofN_len] at h1 H ⊢
  unfold maxLen at h2
  clear hF hT
  obtain ⟨w1, hw1⟩ : ∃ z, z = w.alloc (.cells #[.slice A l.length c] 22) := ⟨_, rfl⟩
  have B1 : Hid (Below w.heap.size w w1) := by show Below _ _ _; rw [hw1]; exact (Below.refl _ _).alloc (Nat.le_refl _) _
  have S1 : Hid (w1.heap.size = w.heap.size + 1) := by show _ = _; rw [hw1]; simp
  have X1 : Hid (w1.heap[w.heap.size]? = some (.cells #[.slice A l.length c] 22 (0, 0))) := by show _ = _; rw [hw1]; exact Has.new _ _
  have V1 : Hid (IntsIn .u32 F w1 (.slice A l.length c) (ofN l)) := H.out.keep (Same.of_below B1.out HF.out)
  have c1 := (Has.cell X1.out 0).trans rfl
  by_cases hg : stC n l = 0
  · have HG := hid hg
    obtain ⟨n0, n32, l12, lsm⟩ := stC_good hg
    have LSM := hid (fun s hs => Nat.lt_of_lt_of_le (lsm s hs) (pow_mono (show n.toNat ≤ 32 by omega)) : ∀ s ∈ l, s < 4294967296)
    have p12 := pow_le12 l12
    have p1 : 1 ≤ 2 ^ l.length := Nat.one_le_two_pow
    have eP : ((2 ^ l.length - 1 : Nat) : Int) = (2 : Int) ^ l.length - 1 := by rw [Int.natCast_sub p1]; push_cast; rfl
    have R : leastR n l = (leastT l).getD [] := if_pos hg
    rw [R]
    clear R hg lsm
    have T1 : Hid (Tz w1) := HT.out.below B1.out tzl
    go_enter Tryd.func5, Tryd.ntmps5
    go_wp2_with fail
    rw [← hw1]
    clear hw1
    refine (scheck_any n l F _ w1 V1.out).mono ?_
    rintro e w2 ⟨rfl, rfl⟩
    rw [HG.out, errV_0]
    have QC : ∀ q, Calls Tryd.prog 14 #[.slice A l.length c, .int .u64 ((2 : Int) ^ l.length - 1)] (w2.drewN q) fun e w' => e = .returned (.int .u32 (unionN l : Nat)) ∧ w' = w2.drewN q := fun q => by
      rw [← eP]
      exact passed_any l F _ (w2.drewN q) (T1.out.keep rfl) (V1.out.keep fun _ _ => rfl) l12
    have HQC := hid QC
    clear QC
    go_upto_region 4 with fail
    go_quiet (first | (go_at_call 14; exact (HQC.out _).mono (fun e w' h => ⟨h.1, _, h.2⟩)))
    obtain ⟨w3, hw3⟩ : ∃ z, z = w2.drewN nq := ⟨_, rfl⟩
    have E3 : Hid (∀ k : Nat, w3.heap[k]? = w2.heap[k]?) := by show ∀ k : Nat, _; intro k; rw [hw3]; rfl
    have S3 : Hid (w3.heap.size = w.heap.size + 1) := by show _ = _; rw [hw3]; exact S1.out
    have B3 : Hid (Below w.heap.size w w3) := by show Below _ _ _; rw [hw3]; exact below_drewN B1.out nq
    rw [← hw3]
    clear hw3 c1
    go_wp2_with fail
    obtain ⟨w5, hw5⟩ : ∃ z, z = ((w3.alloc (Obj.cells #[Value.slice none 0 0] 23)).alloc (Obj.cells #[Value.func (Fn.func 15) #[] #[.pointer (some ⟨w3.heap.size, 0, none⟩), .pointer (some ⟨w.heap.size, 0, none⟩), .pointer (some ⟨w3.heap.size + 1, 0, none⟩)]] 40)) := ⟨_, rfl⟩
    have B5 : Hid (Below w.heap.size w w5) := by show Below _ _ _; rw [hw5]; exact (B3.out.alloc B3.out.size _).alloc (by have := B3.out.size; simp; omega) _
    have B35 : Hid (Below w3.heap.size w3 w5) := by show Below _ _ _; rw [hw5]; exact ((Below.refl _ _).alloc (Nat.le_refl _) _).alloc (by simp) _
    have S5 : Hid (w5.heap.size = w.heap.size + 3) := by show _ = _; rw [hw5]; simp; have := S3.out; omega
    have Xb : Hid (w5.heap[w3.heap.size]? = some (.cells #[.slice none 0 0] 23 (0, 0))) := by show _ = _; rw [hw5]; exact Has.alloc (Has.new _ _) _
    have Xl := hid (Has.newAt (g := w3.heap.size + 1) (w3.alloc (Obj.cells #[Value.slice none 0 0] 23)) (Obj.cells #[Value.func (Fn.func 15) #[] #[.pointer (some ⟨w3.heap.size, 0, none⟩), .pointer (some ⟨w.heap.size, 0, none⟩), .pointer (some ⟨w3.heap.size + 1, 0, none⟩)]] 40) (by simp))
    rw [← hw5] at Xl
    have Xt : Hid (w5.heap[w.heap.size]? = some (.cells #[.slice A l.length c] 22 (0, 0))) := by
      show _ = _
      rw [← X1.out, ← E3.out]
      exact B35.out.block _ (by have := S3.out; omega)
    have M5 : Hid (LMem l (.slice A l.length c) w3.heap.size w.heap.size (w3.heap.size + 1) w5.heap.size (fun _ => False) w5 none) :=
      ⟨⟨_, Xb.out, rfl⟩, Xt.out, Xl.out, ((H.out.keep (Same.of_below B5.out HF.out)).more fun k hk => by have := HF.out k hk; have := S5.out; have := S3.out; omega)⟩
    rw [← hw5]
    clear hw5
    refine (look_any l (.slice A l.length c) w3.heap.size w.heap.size (w3.heap.size + 1) w5.heap.size (by have := S5.out; have := S3.out; constructor <;> omega) l12 LSM.out l.length 0 (unionN l) [] none (fun _ => False) (.slice none 0 0) w5 rfl (unionN_lt LSM.out) (Nat.le_refl _) (fun k h => by simp [Value.ownBlock] at h) (fun k h => h.elim) (Nat.le_refl _) M5.out (World.ownsRow_nil _ _ _ _)).mono ?_
    rintro e w6 ⟨rfl, hm, hf, _⟩
    obtain ⟨r, hr, _, _⟩ := leastT_ok LSM.out
    have HR : lookF l l.length 0 (unionN l) [] none = some r := hr
    rw [HR] at hm
    have GE : Hid ((leastT l).getD [] = r) := by show _ = _; rw [hr]; rfl
    obtain ⟨bv, x6, g, cg, rfl, _, ho⟩ := hm.best
    have c6 := (Has.cell x6 0).trans rfl
    have OW : Hid (w6.ownsRow w5.heap.size 3 1 (.slice (some ⟨g, 0, none⟩) r.length cg) r.length (intsV r)) := ho
    have B6 : Hid (Below w.heap.size w w6) := B5.out.trans ⟨hf.os, hf.tape, hf.output, hf.size, fun k hk => hf.block k (by have := S5.out; omega) (by have := S3.out; omega) (by simp [Value.ownBlock])⟩
    clear hm hf ho x6 HR hr
    go_wp2_with fail
    go_ret2
    exact ⟨_, by rw [HG.out]; rfl, by rw [GE.out]; exact own_lo OW.out (by have := S5.out; omega), B6.out⟩
  · have E : errV (stC n l) = .iface 43 (.int .i64 (stC n l)) := errV_no hg
    have R : leastR n l = [] := if_neg hg
    rw [R, E]
    have HE := hid E
    clear R E hg
    go_enter Tryd.func5, Tryd.ntmps5
    go_wp2_with fail
    rw [← hw1]
    clear hw1
    refine (scheck_any n l F _ w1 V1.out).mono ?_
    rintro e w2 ⟨rfl, rfl⟩
    rw [HE.out]
    go_wp2_with fail
    go_ret2
    exact ⟨_, rfl, World.ownsRow_nil _ _ _ _, B1.out⟩
end Go.Proofs.YtfkklhmamhcbhaaDoor
