/- What told$1, the closure that asks of one part, returns: what told returns of that part. Condition: told's contract of that part. -/
import Derived.Test.YtopehfmppfibhaaDoorEvt
import Derived.Deep.RegionLaw
import Derived.RegionDies
namespace Go.Proofs.YtopehfmppfibhaaDoor
open Go.RowKit
set_option maxRecDepth 100000 in
set_option maxHeartbeats 1000000 in
theorem sub_any (k n : Int) (s : List Ex) (i : Nat) (hi : i < s.length) (ok : ToldOk s[i]) (he : s[i].err = 0) (v : Va) (F : Nat → Prop) (bl off cp gx gv : Nat) (a' b' c' : Value) (w : World) (hF : ∀ g, F g → g < w.heap.size) (_hb : F bl) (hx : ExsIn F w s bl off) (_hl : s.length ≤ cp) (_hl2 : cp ≤ 9223372036854775807) (hv : VaIn F w v a' b' c')
    (hgx : w.heap[gx]? = some (.cells #[.int .i64 k, .int .i64 n, .slice (some ⟨bl, off, none⟩) s.length cp] 53)) (hgv : w.heap[gv]? = some (.cells #[a', b', c'] 47)) :
    Calls Tryd.prog 64 #[.int .i64 i, .pointer (some ⟨gx, 0, none⟩), .pointer (some ⟨gv, 0, none⟩)] w (ToldPost (s[i].ev v) w) := by
  have HF := hid hF
  have HV := hid hv
  have OK := hid ok
  have HE := hid he
  obtain ⟨a1, b1, c1, q1, q2, q3, hy⟩ := hx.at_ hi
  have HY := hid hy
  have i1 : (i : Int) < (s.length : Int) := by omega
  obtain ⟨⟨k1, n1, s1⟩, hy0⟩ : ∃ y, y = s[i] := ⟨_, rfl⟩
  rw [← hy0] at HY OK HE ⊢
  obtain ⟨A1, cp1, rfl, rfl, rfl, _, _, _⟩ := HY.out.box
  obtain ⟨k', n', s'⟩ := v
  obtain ⟨A', cp', rfl, rfl, rfl, _, _, _⟩ := HV.out.box
  have x2 : w.cell? ⟨gx, 2, none⟩ = some (.slice (some ⟨bl, off, none⟩) s.length cp) := (Has.cell hgx 2).trans rfl
  have z0 : w.cell? ⟨gv, 0, none⟩ = some (.bool k') := (Has.cell hgv 0).trans rfl
  have z1 : w.cell? ⟨gv, 1, none⟩ = some (.int .i64 n') := (Has.cell hgv 1).trans rfl
  have z2 : w.cell? ⟨gv, 2, none⟩ = some (.slice A' s'.length cp') := (Has.cell hgv 2).trans rfl
  clear hF hv ok he hx hy hy0 hgx hgv _hb
  have P := hid (OK.out (.mk k' n' s') F _ _ _ _ _ _ w.drew HE.out (fun g hg => by have := HF.out g hg; simpa using this) (ExIn.keep (w := w) (w' := w.drew) (fun _ _ => rfl) _ HY.out) (VaIn.keep (w := w) (w' := w.drew) (fun _ _ => rfl) _ HV.out))
  generalize (Ex.mk k1 n1 s1).ev (.mk k' n' s') = r at *
  clear OK HE HY HV HF
  cases r with
  | some m =>
    go_enter Tryd.func64, Tryd.ntmps64
    go_upto_region 1 with fail
    go_cut [4] (fun mv wx => mv = .int .i64 m ∧ Hid (Below w.heap.size w wx))
    case first =>
      go_region_law (go_simp; go_at_call 48; refine P.out.mono ?_; rintro e w2 ⟨hb2, he2⟩; simp only at he2; subst he2; have B2 : Hid (Below w.heap.size w w2) := (Below.refl _ w).drew.trans hb2)
      all_goals
        go_wp2_with fail
        go_meet
        exact ⟨rfl, B2⟩
    case rest =>
    obtain ⟨rfl, B2⟩ := hcut
    go_wp2_with fail
    go_ret
    exact ⟨B2.out, rfl⟩
  | none =>
    go_enter Tryd.func64, Tryd.ntmps64
    go_upto_region 1 with fail
    go_region_dies
    all_goals
      go_at_call 48
      refine P.out.mono ?_
      rintro e w2 ⟨hb2, he2⟩
      simp only at he2
      subst he2
      have B2 : Hid (Below w.heap.size w w2) := (Below.refl _ w).drew.trans hb2
      exact ⟨rfl, B2.out, rfl⟩
end Go.Proofs.YtopehfmppfibhaaDoor
