/- Two machines that are learnt: they are one machine just if nothing tells them apart. No conditions. -/
import Derived.Test.YtkcggmhllijgcaaDoorLqx
namespace Go.Proofs.YtkcggmhllijgcaaDoor
/-- what is learnt of a machine: the least one of a machine that tells the same -/
def Lrnt (m l : MachD) : Prop := ∃ M c, Good M ∧ ins M = ins m ∧ XEqv M 0 m 0 ∧ ClassOf M c ∧ LeastD M c l
theorem lrnt_of {m : MachD} (gm : Good m) {heads tails r : List (List Int)} {c : List Int} {l : MachD} (ht : TSz (ins m) tails) (hC : ClosedL (TM m) tails (ins m) (heads ++ r))
    (hco : ClassOf (machL (TM m) tails (heads ++ r) (ins m)) c) (hld : LeastD (machL (TM m) tails (heads ++ r) (ins m)) c l) (hW : WM m l = none) : Lrnt m l := by
  have g6 := TM_max gm ht hC.1
  have gd := machL_good (T := TM m) (tails := tails) (n := ins m) hC.1.one g6 gm.ins1 gm.ins3
  have lp := least_props gd hco hld
  have il : ins l = ins m := lp.2.1.trans (machL_ins hC.1.one)
  have hx := WM_none gm lp.1 il.symm hW
  refine ⟨_, c, gd, machL_ins hC.1.one, fun w hw => ?_, hco, hld⟩
  have hw' : word m w := fun x hx => by
    have := hw x hx
    unfold letter at *
    rw [machL_ins hC.1.one] at this
    exact this
  rw [lp.2.2.1 w hw, hx w hw']
theorem word_ins {a b : MachD} (h : ins a = ins b) {w : List Int} (hw : word a w) : word b w := fun x hx => by
  have := hw x hx
  unfold letter at *
  rw [← h]; exact this
/-- what is learnt of two machines, and whether the two are told apart -/
theorem same_lrnt {a b : MachD} (ga : Good a) (gb : Good b) (hi : ins a = ins b) {l k : MachD} (h1 : Lrnt a l) (h2 : Lrnt b k) : decide (l.out = k.out ∧ l.next = k.next) = decide (apC a b = 2) := by
  obtain ⟨M, c, gM, iM, eM, hc, hl⟩ := h1
  obtain ⟨N, d, gN, iN, eN, hd, hk⟩ := h2
  have iMN : ins M = ins N := iM.trans (hi.trans iN.symm)
  have pa := least_props gM hc hl
  have pb := least_props gN hd hk
  by_cases hx : XEqv a 0 b 0
  · have hMN : XEqv M 0 N 0 := fun w hw => by
      rw [eM w hw, hx w (word_ins iM hw), eN w (word_ins iMN hw)]
    have e := least_one iMN gM gN hc hd hMN hl hk
    have h2 : apC a b = 2 := by rw [(apC_good ga gb hi).1]; exact (apart_no hx).2
    subst e
    simp [h2]
  · have hn : apC a b ≠ 2 := by
      obtain ⟨f, hf⟩ := first_ex hx
      rw [(apC_good ga gb hi).1, (apart_yes hf).2]
      decide
    have he : ¬ (l.out = k.out ∧ l.next = k.next) := fun ⟨h1, h2⟩ => hx fun w hw => by
      have e : l = k := by cases l; cases k; simp_all
      have hM := word_ins iM.symm hw
      have hN := word_ins iMN hM
      rw [← eM w hM, ← eN w hN, pa.2.2.1 w hM, pb.2.2.1 w hN, e]
    simp [hn, he]
end Go.Proofs.YtkcggmhllijgcaaDoor
