/- What pairs.missing returns: the pairs that no row has, in a row of its own. Conditions: levels that Check lets pass; each row has a level of each. -/
import Derived.Test.YtkiljnggphlomaaDoorQdl
namespace Go.Proofs.YtkiljnggphlomaaDoor
open Go.RowKit Go.Deep
theorem allP_ok {l : List Int} : ∀ e ∈ allP l, QOk l.length e := fun e h => by
  obtain ⟨a, x, b, y, rfl, h1, h2, _, _⟩ := mem_allP.1 h
  exact ⟨a, x, b, y, rfl, by omega, h2⟩
theorem AskQ.later {fid : FuncId} {caps : Array Value} {P : Four → Bool} {S : Four → Prop} {B0 : Nat} {w0 w1 : World} (h : AskQ fid caps P S B0 w0) (hb : Below B0 w0 w1) : AskQ fid caps P S B0 w1 := fun w p hS hw => h w p hS (hb.trans hw)
set_option maxRecDepth 100000 in
set_option maxHeartbeats 1000000 in
theorem miss_any (l : List Int) (rows : List (List Int)) (F : Nat → Prop) (v u : Value) (w : World) (hF : ∀ b, F b → b < w.heap.size) (hv : IntsIn .i64 F w v l) (hu : RowsIn F w u rows) (hok : LevOk l) (hn : ∀ k, k < rows.length → (rowAt rows k).length = l.length) :
    Calls Tryd.prog 46 #[v, u] w fun e w' => ∃ r, e = .returned r ∧ w'.ownsRow w.heap.size 118 4 r (missP l rows).length (qcells (missP l rows)) ∧ Below w.heap.size w w' := by
  have HF := hid hF
  have HV := hid hv
  have HU := hid hu
  have HN := hid hn
  have OK := hid hok
  obtain ⟨A, c, rfl, _, _⟩ := hv
  obtain ⟨A2, c2, rfl, _, _⟩ := hu
  have BX : Hid (Below w.heap.size w (w.alloc (.cells #[.slice A2 rows.length c2] 37))) := (Below.refl _ _).alloc (Nat.le_refl _) _
  have X := Has.new w (.cells #[.slice A2 rows.length c2] 37)
  have X0 := hid ((Has.cell X 0).trans rfl)
  have LF : Hid (∀ b, F b → b < w.heap.size + 1) := fun b h => by have := HF.out b h; omega
  clear hF hn hok X
  go_enter Tryd.func46, Tryd.ntmps46
  go_wp2_with fail
  refine (all_any l F _ _ (fun b h => by have := LF.out b h; simpa using this) (HV.out.keep (Same.of_below BX.out HF.out)) OK.out).mono ?_
  rintro e w2 ⟨r, rfl, hO, hb⟩
  have QA := hid ((miss1_ask rows l.length w.heap.size F _ _ (by simp) X0.out (fun b h => by have := LF.out b h; simpa using this) (HU.out.keep (Same.of_below BX.out HF.out)) HN.out).later hb)
  have B2 := hid (BX.out.trans (hb.mono (by simp)))
  have s2 := hb.size
  simp only [World.size_alloc] at s2
  have O2 := hid hO
  obtain ⟨A3, c3, rfl, _, _⟩ := own_sl hO
  clear hO hb
  go_wp2_with fail
  refine (qdel_any (fun p => rows.any fun r => hasP r p) (QOk l.length) 74 #[.pointer (some ⟨w.heap.size, 0, none⟩)] (allP l) _ _ w2 O2.out allP_ok (by have := allP_le OK.out; omega) (by simpa using s2) (Nat.le_refl _) QA.out enter_miss1).mono ?_
  rintro e w3 ⟨r, rfl, hO, hg, _⟩
  have O3 := hid (own_lo hO (base' := w.heap.size) (by simp))
  have B3 := hid (B2.out.grown hg (by omega) (fun k hk => by have := own_ge O2.out k hk; simp at this; omega))
  clear hO hg
  go_wp2_with fail
  go_ret
  exact ⟨_, rfl, O3.out, B3.out⟩
end Go.Proofs.YtkiljnggphlomaaDoor
