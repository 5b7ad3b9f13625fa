/- (*val.reader).value: the list's case, and all of it. Conditions: as for the number's case. -/
import Derived.Test.YtpljcpeofnobbaaDoorVpw
namespace Go.Proofs.YtpljcpeofnobbaaDoor
open Go.RowKit Go.Deep
structure VInv (w : World) (rb : Nat) (d : Int) (t : List UInt8) (acc : List Va) (vi : Value) (wr : World) : Prop where
  bp : wr.heap[w.heap.size]? = some (.cells #[.pointer (some ⟨rb, 0, none⟩)] 35 (0, 0))
  bv : wr.heap[w.heap.size + 1]? = some (.cells #[.bool true, .int .i64 0, vi] 24 (0, 0))
  rd : wr.heap[rb]? = some (rdObj t (d + 1))
  row : VRow (w.heap.size + 2) (fun _ => False) acc vi wr
  gr : w.grownBy wr (some rb)
section
variable {w wr w2 w5 w6 : World} {rb : Nat} {d : Int} {t t' : List UInt8} {acc : List Va} {vi : Value}
theorem VInv.size (h : VInv w rb d t acc vi wr) : w.heap.size + 2 ≤ wr.heap.size := by have := Has.lt h.bv; omega
theorem VInv.rdSet (h : VInv w rb d t acc vi wr) (hl : rb < w.heap.size) (t' : List UInt8) : VInv w rb d t' acc vi (wr.setCell ⟨rb, 0, none⟩ (.string (strB t'))) := by
  have far : ∀ b, b ≠ rb → (wr.setCell ⟨rb, 0, none⟩ (.string (strB t'))).heap[b]? = wr.heap[b]? := fun b hb => Below.heap_setCell _ _ _ _ (by simpa using hb)
  refine ⟨(far _ (by omega)).trans h.bp, (far _ (by omega)).trans h.bv, ?_, h.row.keep (fun b h1 _ _ => far b (by omega)) (by simp) (fun b hb => hb.elim), ⟨h.gr.os, h.gr.tape, h.gr.output, by have := h.gr.size; simpa using this, fun b hb hne => (far b fun e => hne (by rw [e])).trans (h.gr.block b hb hne)⟩⟩
  have := Has.set h.rd 0 (.string (strB t'))
  simpa [rdObj] using this
theorem VInv.drew (h : VInv w rb d t acc vi wr) : VInv w rb d t acc vi wr.drew :=
  ⟨h.bp, h.bv, h.rd, h.row.keep (fun _ _ _ _ => rfl) (Nat.le_refl _) (fun _b hb => hb.elim), ⟨h.gr.os, h.gr.tape, h.gr.output, h.gr.size, h.gr.block⟩⟩
theorem VInv.alloc (h : VInv w rb d t acc vi wr) (o : Obj) : VInv w rb d t acc vi (wr.alloc o) := by
  have sz := h.size
  have far : ∀ b, b < wr.heap.size → (wr.alloc o).heap[b]? = wr.heap[b]? := fun b hb => Below.heap_alloc _ _ _ hb
  exact ⟨(far _ (by omega)).trans h.bp, (far _ (by omega)).trans h.bv, (far _ (Has.lt h.rd)).trans h.rd, h.row.keep (fun b _ h2 _ => far b h2) (by simp) (fun b hb => hb.elim), ⟨h.gr.os, h.gr.tape, h.gr.output, by have := h.gr.size; simp; omega, fun b hb hne => (far b (by omega)).trans (h.gr.block b hb hne)⟩⟩
theorem VInv.call (h : VInv w rb d t acc vi wr) (hl : rb < w.heap.size) (hg : wr.grownBy w2 (some rb)) (hr : w2.heap[rb]? = some (rdObj t' (d + 1))) : VInv w rb d t' acc vi w2 := by
  have far : ∀ b, b < wr.heap.size → b ≠ rb → w2.heap[b]? = wr.heap[b]? := fun b h1 hb => hg.block b h1 (fun e => hb (by injection e))
  have sz := h.size
  exact ⟨(far _ (by omega) (by omega)).trans h.bp, (far _ (by omega) (by omega)).trans h.bv, hr, h.row.keep (fun b h1 h2 _ => far b h2 (by omega)) hg.size (fun b hb => hb.elim), ⟨hg.os.trans h.gr.os, hg.tape.trans h.gr.tape, hg.output.trans h.gr.output, Nat.le_trans h.gr.size hg.size, fun b hb hne => (hg.block b (by omega) hne).trans (h.gr.block b hb hne)⟩⟩
theorem VInv.app (h : VInv w rb d t acc vi wr) (hl : rb < w.heap.size) {B : Nat} {l : Bool} {n : Int} {xs : List Va} {c v6 : Value} {cs : List Value} {o1 o2 : Obj} (hB : w.heap.size + 2 ≤ B) (_hBs : B ≤ wr.heap.size) (hx : VRow B (fun _ => False) xs c wr) (hvi : ∀ b, vi.ownBlock = some b → b < B) (hn : (Lit.int .i64 n).wf = true)
    (hcs : VaCells (fun b => w.heap.size + 2 ≤ b ∧ b < wr.heap.size ∧ ¬ False ∧ vi.ownBlock ≠ some b) wr cs acc)
    (hown : w6.ownsRow (w.heap.size + 2) 24 3 v6 (acc.length + 1) (cs ++ [.bool l, .int .i64 n, c])) (hgrow : ((wr.alloc o1).alloc o2).grownBy w6 vi.ownBlock) (hat : v6.ownBlock = vi.ownBlock ∨ v6.ownBlock = some ((wr.alloc o1).alloc o2).heap.size) :
    VInv w rb d t (acc ++ [.mk l n xs]) v6 (w6.setCell ⟨w.heap.size + 1, 2, none⟩ v6) := by
  obtain ⟨⟨cs0, hr1, _⟩, _⟩ := h.row
  have vb := own_ge hr1
  have sz := h.size
  have sg := hgrow.size
  simp only [World.size_alloc] at sg
  have far6 : ∀ b, b < wr.heap.size → vi.ownBlock ≠ some b → w6.heap[b]? = wr.heap[b]? := fun b h1 h2 => (hgrow.block b (by simp; omega) fun e => h2 e.symm).trans ((Below.heap_alloc _ _ _ (by simp; omega)).trans (Below.heap_alloc _ _ _ h1))
  have lo : ∀ b, b < w.heap.size + 2 → vi.ownBlock ≠ some b := fun b hb e => by have := vb b e; omega
  have far : ∀ b, b < wr.heap.size → vi.ownBlock ≠ some b → b ≠ w.heap.size + 1 → (w6.setCell ⟨w.heap.size + 1, 2, none⟩ v6).heap[b]? = wr.heap[b]? := fun b h1 h2 h3 => (Below.heap_setCell _ _ _ _ (by simpa using h3)).trans (far6 b h1 h2)
  refine ⟨(far _ (by omega) (lo _ (by omega)) (by omega)).trans h.bp, ?_, (far _ (by omega) (lo _ (by omega)) (by omega)).trans h.rd, ⟨⟨cs ++ [.bool l, .int .i64 n, c], ?_, ?_⟩, fun b _ hb => hb⟩, ?_⟩
  · have h2 : w6.heap[w.heap.size + 1]? = _ := (far6 _ (by omega) (lo _ (by omega))).trans h.bv
    have := Has.set h2 2 v6
    simpa using this
  · rw [List.length_append]
    refine own_keep hown fun k hk => Below.heap_setCell _ _ _ _ ?_
    have := own_ge hown k hk
    simp; omega
  · have n6 : ∀ x, x < wr.heap.size → vi.ownBlock ≠ some x → v6.ownBlock ≠ some x := fun x hx hne e => by
      rcases hat with h | h
      · rw [h] at e; exact hne e
      · rw [h] at e; injection e with e; simp at e; omega
    have hva := hx.va (k := l) hn
    refine VaCells.snoc ((hcs.keep fun x hx => far x hx.2.1 hx.2.2.2 fun e => ?_).more fun x hx => ⟨hx.1, by simp; omega, fun hd => hd, n6 x hx.2.1 hx.2.2.2⟩) (VaIn.more (fun x hx => ⟨by have := hx.1; omega, by have := hx.2.1; simp; omega, fun hd => hd, n6 x hx.2.1 fun e => by have := hvi x e; have := hx.1; omega⟩) _ (VaIn.keep (fun x hx => far x hx.2.1 (fun e => by have := hvi x e; have := hx.1; omega) (by have := hx.1; omega)) _ hva))
    have := hx.1; omega
  · have b0 : ∀ b, b < w.heap.size → some b ≠ some rb → (w6.setCell ⟨w.heap.size + 1, 2, none⟩ v6).heap[b]? = w.heap[b]? := fun b hb hne => (far b (by omega) (lo _ (by omega)) (by omega)).trans (h.gr.block b hb hne)
    exact ⟨hgrow.os.trans h.gr.os, hgrow.tape.trans h.gr.tape, hgrow.output.trans h.gr.output, by have := h.gr.size; simp; omega, b0⟩
theorem VInv.same3 (h : VInv w rb d t acc vi wr) (hl : rb < w.heap.size) : VInv w rb d t acc vi (((wr.setCell ⟨w.heap.size + 1, 0, none⟩ (.bool true)).setCell ⟨w.heap.size + 1, 1, none⟩ (.int .i64 0)).setCell ⟨w.heap.size + 1, 2, none⟩ vi) := by
  have S := vset3 h.bv (.bool true) (.int .i64 0) vi
  exact ⟨(S.2.1 _ (by omega)).trans h.bp, S.1, (S.2.1 _ (by omega)).trans h.rd, h.row.keep (fun b h1 _ _ => S.2.1 b (by omega)) (by simp) (fun b hb => hb.elim), ⟨h.gr.os, h.gr.tape, h.gr.output, by have := h.gr.size; simpa using this, fun b hb hne => (S.2.1 b (by omega)).trans (h.gr.block b hb hne)⟩⟩
theorem VInv.fin (h : VInv w rb d t acc vi wr) (hl : rb < w.heap.size) : (wr.setCell ⟨rb, 1, none⟩ (.int .i64 d)).heap[w.heap.size + 1]? = some (.cells #[.bool true, .int .i64 0, vi] 24 (0, 0)) ∧ (wr.setCell ⟨rb, 1, none⟩ (.int .i64 d)).heap[rb]? = some (rdObj t d) ∧ w.grownBy (wr.setCell ⟨rb, 1, none⟩ (.int .i64 d)) (some rb) ∧ VRow w.heap.size (fun _ => False) acc vi (wr.setCell ⟨rb, 1, none⟩ (.int .i64 d)) := by
  have far : ∀ b, b ≠ rb → (wr.setCell ⟨rb, 1, none⟩ (.int .i64 d)).heap[b]? = wr.heap[b]? := fun b h1 => Below.heap_setCell _ _ _ _ (by simpa using h1)
  refine ⟨(far _ (by omega)).trans h.bv, ?_, ⟨h.gr.os, h.gr.tape, h.gr.output, by have := h.gr.size; simpa using this, fun b hb hne => (far b (fun e => hne (by rw [e]))).trans (h.gr.block b hb hne)⟩, (h.row.keep (fun b h1 _ _ => far b (by omega)) (by simp) (fun b hb => hb.elim)).base (by omega)⟩
  have := Has.set h.rd 1 (.int .i64 d)
  simpa [rdObj] using this
end
theorem VInv.box6 {w wr w6 : World} {rb : Nat} {d : Int} {t : List UInt8} {acc : List Va} {vi : Value} {o1 o2 : Obj} (h : VInv w rb d t acc vi wr) (hgrow : ((wr.alloc o1).alloc o2).grownBy w6 vi.ownBlock) : w6.heap[w.heap.size + 1]? = some (.cells #[.bool true, .int .i64 0, vi] 24 (0, 0)) := by
  obtain ⟨⟨cs0, hr1, _⟩, _⟩ := h.row
  have sz := h.size
  exact (hgrow.block _ (by simp; omega) fun e => by have := own_ge hr1 _ e.symm; omega).trans ((Below.heap_alloc _ _ _ (by simp; omega)).trans ((Below.heap_alloc _ _ _ (by omega)).trans h.bv))
/-- how long the rest is, through the memory -/
def strLen : Value → Nat
  | .string b => b.size
  | _ => 0
def restAt (rb : Nat) (w : World) : Nat := match w.heap[rb]? with
  | some (.cells cs _ _) => strLen (cs.getD 0 undef)
  | _ => 0
theorem restAt_eq {w : World} {rb : Nat} {t : List UInt8} {d : Int} (h : w.heap[rb]? = some (rdObj t d)) : restAt rb w = t.length := by
  unfold restAt
  rw [h]
  rfl
set_option maxRecDepth 100000 in
set_option maxHeartbeats 4000000 in
theorem dec_any (bp rb : Nat) (t : List UInt8) (d : Int) (w : World) (hp : w.heap[bp]? = some (.cells #[.pointer (some ⟨rb, 0, none⟩)] 35 (0, 0))) (hr : w.heap[rb]? = some (rdObj t (d + 1))) (hd : 0 ≤ d ∧ d ≤ 7) :
    CallsD Tryd.prog 20 #[.pointer (some ⟨bp, 0, none⟩)] .returning w fun e u' w' => u' = .returning ∧ (e = .returned (.tuple #[]) ∧ w' = w.setCell ⟨rb, 1, none⟩ (.int .i64 d)) := by
  have p0 := Has.cell hp 0
  have r1 := Has.cell hr 1
  have f1 := Has.froz hr 1
  simp at p0 r1
  have e1 : wrap64 (d + 1 - 1) = d := by unfold wrap64; omega
  refine callsD_of_wp Tryd.func20 rfl ?_
  go_wp2_with fail
  go_end0
  exact ⟨rfl, rfl⟩
theorem VInv.leave {w wa : World} {rb : Nat} {d : Int} {t : List UInt8} {acc : List Va} {Av : Option Addr} {m cv : Nat} (h : VInv w rb d t acc (.slice Av m cv) wa) (hl : rb < w.heap.size) (hd : 0 ≤ d ∧ d ≤ 7) (tmps : Array Value) (k : Bool) (fin : Option (Va × List UInt8)) (h2 : tmps.getD 2 undef = .pointer (some ⟨w.heap.size + 1, 0, none⟩)) (h3 : tmps.getD 3 undef = .bool k)
    (hf : fin = if k then some (.mk true 0 acc, t) else none) :
    bodyPostD Tryd.prog Tryd.f11 (ValPost rb d fin w) Exit.ret { tmps := tmps, defers := [{ target := Target.fn (Fn.func 20) #[.pointer (some ⟨w.heap.size, 0, none⟩)], args := #[] }] } wa := by
  have F := h.fin hl
  refine leaves_cons (f := 20) (args := #[.pointer (some ⟨w.heap.size, 0, none⟩)]) (by simp) (by simp [go_sem]) ?_
  refine (dec_any w.heap.size rb t d _ h.bp h.rd hd).mono ?_
  rintro e u' w4 ⟨rfl, rfl, rfl⟩
  refine ⟨_, value_results _ _ _ _ _ _ _ h2 h3 ((Has.cell F.1 0).trans rfl) ((Has.cell F.1 1).trans rfl) ((Has.cell F.1 2).trans rfl) ⟨_, rfl⟩ ⟨_, rfl⟩ ⟨_, _, _, rfl⟩, ?_⟩
  subst hf
  refine ⟨F.2.2.1, ?_⟩
  cases k with
  | true => exact ⟨F.2.1, _, rfl, F.2.2.2, by decide⟩
  | false => exact ⟨⟨_, F.2.1⟩, _, _, _, _, _, rfl⟩
set_option maxRecDepth 100000 in
set_option maxHeartbeats 8000000 in
theorem value_list (n : Nat) (ih : ValOk n) (A : List UInt8 → Prop) (s : List UInt8) (rb : Nat) (d : Int) (w : World) (hA : IxOk A) (hs : A s) (hd : (n : Int) + 1 + d = 7) (hd0 : 0 ≤ d) (hl : s.length ≤ 1000000000) (hr : w.heap[rb]? = some (rdObj s d)) (hg1 : 3 < rb) (hg2 : 2 < rb) (hE : ErrsL w) (hp : Lib.hasPrefix s [40] = true) :
    Calls Tryd.prog 11 #[.pointer (some ⟨rb, 0, none⟩)] w (ValPost rb d (itemsG (valF n) s.length s.tail []) w) := by
  have lr := Has.lt hr
  have r0 := Has.cell hr 0
  have r1 := Has.cell hr 1
  have fr0 := Has.froz hr 0
  have fr1 := Has.froz hr 1
  simp at r0 r1
  have HR := hid hr
  have d6 : ¬ 6 < d := by omega
  have HB := hid (boxes2 w (.cells #[.pointer (some ⟨rb, 0, none⟩)] 35) (.cells #[.bool false, .int .i64 0, .slice none 0 0] 24))
  have HA := hid hA
  have HS := hid hs
  have CT := hid cut_any
  have HE := hid hE
  have HP := hid hp
  have IH := hid ih
  obtain ⟨i0, hi0, hz0, hz1, hz2⟩ := info_parts infoVal3
  have D7 : Hid (0 ≤ d ∧ d ≤ 7) := ⟨hd0, by omega⟩
  have ne1 : rb ≠ w.heap.size + 1 := by omega
  have ne2 : rb ≠ w.heap.size := by omega
  obtain ⟨fin, hfin⟩ : ∃ fin, fin = itemsG (valF n) s.length s.tail [] := ⟨_, rfl⟩
  have HFIN := hid hfin
  rw [← hfin]
  clear hA hE hr hs hp ih hfin
  go_enter_defers Tryd.func11, Tryd.ntmps11
  go_wp2_with fail
  refine (CT.out s 40 _).mono ?_
  rintro e w0 ⟨rfl, e0⟩
  rw [e0, HP.out, if_pos rfl]
  clear e0 w0
  go_wp2_with fail
  have V0 : Hid (VInv w rb d s.tail [] (.slice none 0 0) ((((w.setCell ⟨rb, 0, none⟩ (.string (strB s.tail))).setCell ⟨rb, 1, none⟩ (.int .i64 (d + 1))).alloc (.cells #[.pointer (some ⟨rb, 0, none⟩)] 35)).alloc (.cells #[.bool true, .int .i64 0, .slice none 0 0] 24))) := by
    have h1 := Has.set HR.out 0 (.string (strB s.tail))
    have h2 := Has.set h1 1 (.int .i64 (d + 1))
    refine ⟨Has.alloc (Has.newAt _ _ (by simp)) _, Has.newAt _ _ (by simp), ?_, VRow.nil_, ⟨rfl, rfl, rfl, by simp; omega, fun b hb hne => ?_⟩⟩
    · have h3 := Has.alloc (Has.alloc h2 (.cells #[.pointer (some ⟨rb, 0, none⟩)] 35)) (.cells #[.bool true, .int .i64 0, .slice none 0 0] 24)
      simpa [rdObj] using h3
    · have hq : b ≠ rb := fun e => hne (by rw [e])
      rw [Below.heap_alloc _ _ _ (by simp; omega), Below.heap_alloc _ _ _ (by simpa using hb), Below.heap_setCell _ _ _ _ (by simpa using hq), Below.heap_setCell _ _ _ _ (by simpa using hq)]
  have pl := pref_len HP.out
  have tl : s.tail.length < s.length := by rw [List.length_tail]; omega
  have A0 : Hid (A s.tail) := by have := HA.out.drop s 1 HS.out; rwa [List.drop_one] at this
  have F0 : Hid (∃ f, s.tail.length < f ∧ fin = itemsG (valF n) f s.tail []) := ⟨_, tl, HFIN.out⟩
  clear r0 r1 fr0 fr1
  go_loopw [79] (fun _ wr => ∃ (t : List UInt8) (acc : List Va) (vi : Value), acc.length + t.length < s.length ∧ Hid (A t) ∧ Hid (VInv w rb d t acc vi wr) ∧ Hid (∃ f, t.length < f ∧ fin = itemsG (valF n) f t acc)) (fun _ wr => restAt rb wr)
  case atStart => exact ⟨_, [], _, by simpa using tl, A0, V0, F0⟩
  case round =>
    clear V0 F0 A0 tl
    obtain ⟨t, acc, vi, tl, hAt, hV, hF⟩ := hrel
    have p0 := Has.cell hV.out.bp 0
    have q0 := Has.cell hV.out.rd 0
    have fq0 := Has.froz hV.out.rd 0
    have v0 := Has.cell hV.out.bv 0
    have v1 := Has.cell hV.out.bv 1
    have v2 := Has.cell hV.out.bv 2
    have fv0 := Has.froz hV.out.bv 0
    have fv1 := Has.froz hV.out.bv 1
    have fv2 := Has.froz hV.out.bv 2
    simp at p0 q0 v0 v1 v2
    have M0 : Hid (restAt rb wr = t.length) := restAt_eq hV.out.rd
    obtain ⟨Av, cv, eV⟩ := hV.out.row.slice
    obtain ⟨m, hm⟩ : ∃ m, m = acc.length := ⟨_, rfl⟩
    rw [← hm] at eV
    subst eV
    have HM := hid hm
    have ml : m ≤ 1000000000 := by omega
    clear hm
    go_wp2_with fail
    refine (CT.out t 41 _).mono ?_
    rintro e w0 ⟨rfl, e0⟩
    rw [e0]
    clear e0 w0
    cases h41 : Lib.hasPrefix t [41] with
    | true =>
      have EF : Hid (fin = some (.mk true 0 acc, t.tail)) := by
        obtain ⟨f, h1, h2⟩ := hF.out
        match f, h1, h2 with
        | f + 1, _, h2 => show _ = _; rw [h2, itemsG, if_pos h41]
      rw [if_pos rfl]
      clear h41
      go_wp2_with fail
      exact ((hV.out.rdSet lr t.tail).same3 lr).leave lr D7.out _ true _ rfl rfl EF.out
    | false =>
      by_cases hacc : m = 0
      · have hacc : acc.length = 0 := by rw [← HM.out]; exact hacc
        have F2 : Hid (∃ f, t.length < f + 1 ∧ fin = match valF n t with | none => none | some (x, r) => itemsG (valF n) f r (acc ++ [x])) := by
          obtain ⟨f, h1, h2⟩ := hF.out
          match f, h1, h2 with
          | f + 1, h1, h2 => exact ⟨f, h1, by rw [h2, itemsG, if_neg (by rw [h41]; decide), if_neg (by simp [hacc]), if_pos hacc]; cases valF n t <;> rfl⟩
        have h0 : ¬ (0 : Int) < (m : Int) := by have := HM.out; omega
        have h0d : decide ((0 : Int) < (m : Int)) = false := by simpa using h0
        rw [if_neg (by decide)]
        have HACC := hid hacc
        clear h41 hacc
        clear ‹m = 0›
        go_wp2_with fail
        have VT := hid hV.out
        have AT : Hid (A t) := hAt.out
        have TL : Hid (t.length ≤ t.length) := Nat.le_refl _
        have sz := VT.out.size
        have EL : Hid (ErrsL wr) := by
          obtain ⟨⟨ev, e1, e2⟩, ⟨ev', e3, e4⟩⟩ := HE.out
          have gb := VT.out.gr.block
          exact ⟨⟨ev, (World.cell?_of_block (w := w) (gb _ (by simp; omega) (by simp; omega))).trans e1, e2⟩, ⟨ev', (World.cell?_of_block (w := w) (gb _ (by simp; omega) (by simp; omega))).trans e3, e4⟩⟩
        refine (IH.out A t rb (d + 1) wr HA.out AT.out (by omega) (by omega) (by have := TL.out; omega) VT.out.rd hg1 hg2 EL.out).mono ?_
        rintro e w2 ⟨hg, hpost⟩
        have VD := hid (valF_drop n t)
        have VP := hid (fun x r h => eats_pos (valF_eats n) (s := t) (r := r) (x := x) h)
        obtain ⟨res, hres⟩ : ∃ res, res = valF n t := ⟨_, rfl⟩
        rw [← hres] at hpost F2
        have HRES := hid hres
        clear hres
        rcases res with _ | ⟨⟨lx, nx, xs⟩, r⟩
        · obtain ⟨⟨s', hr2⟩, lx, nx, Ax, mx, cx, rfl⟩ := hpost
          have V2 := hid (VT.out.call lr hg hr2)
          have EF : Hid (fin = none) := by obtain ⟨f, _, h2⟩ := F2.out; exact h2
          have p0 := Has.cell V2.out.bp 0
          have v0 := Has.cell V2.out.bv 0
          have v1 := Has.cell V2.out.bv 1
          have v2 := Has.cell V2.out.bv 2
          have fv0 := Has.froz V2.out.bv 0
          have fv1 := Has.froz V2.out.bv 1
          have fv2 := Has.froz V2.out.bv 2
          simp at p0 v0 v1 v2
          have sv := V2.out.size
          have lb1 : w.heap.size + 1 < w2.heap.size := by omega
          have lb0 : w.heap.size < w2.heap.size := by omega
          clear hg hr2
          go_wp2_with fail
          exact ((V2.out.same3 lr).alloc _).leave lr D7.out _ false _ rfl rfl EF.out
        · obtain ⟨hr2, c, rfl, hrow, hwf⟩ := hpost
          obtain ⟨Ac, cc, rfl⟩ := hrow.slice
          have V2 := hid (VT.out.call lr hg hr2)
          have HW := hid hrow
          have HWF := hid hwf
          have RD := VD.out _ _ HRES.out.symm
          have RP := VP.out _ _ HRES.out.symm
          have AR : Hid (A r) := by obtain ⟨k, hk⟩ := RD; rw [hk]; exact HA.out.drop _ _ AT.out
          have p0 := Has.cell V2.out.bp 0
          have v0 := Has.cell V2.out.bv 0
          have v1 := Has.cell V2.out.bv 1
          have v2 := Has.cell V2.out.bv 2
          have fv0 := Has.froz V2.out.bv 0
          have fv1 := Has.froz V2.out.bv 1
          have fv2 := Has.froz V2.out.bv 2
          simp at p0 v0 v1 v2
          have sv := V2.out.size
          have lb1 : w.heap.size + 1 < w2.heap.size := by omega
          have lb0 : w.heap.size < w2.heap.size := by omega
          have sg := hg.size
          clear hg hr2 hrow hwf RD
          obtain ⟨⟨cs, hrow1, hcs⟩, _⟩ := V2.out.row
          have HCS := hid hcs
          rw [← HM.out] at hrow1
          have OW := hid ((own_keep (w' := (w2.alloc (.cells #[.bool lx, .int .i64 nx, .slice Ac xs.length cc] 24)).alloc (.cells #[.bool lx, .int .i64 nx, .slice Ac xs.length cc] 24)) hrow1 fun k hk => (Below.heap_alloc _ _ _ (by have := own_lt hrow1 k hk; simp; omega)).trans (Below.heap_alloc _ _ _ (own_lt hrow1 k hk))))
          have VB : Hid (∀ b, (Value.slice Av m cv).ownBlock = some b → b < wr.heap.size) := by obtain ⟨⟨cs0, h0, _⟩, _⟩ := VT.out.row; exact own_lt h0
          have HX := hid (Has.newAt (w2.alloc (.cells #[.bool lx, .int .i64 nx, .slice Ac xs.length cc] 24)) (.cells #[.bool lx, .int .i64 nx, .slice Ac xs.length cc] 24) (g := w2.heap.size + 1) (by simp))
          have v2a := Has.cell (V2.out.alloc (.cells #[.bool lx, .int .i64 nx, .slice Ac xs.length cc] 24)).bv 2
          simp only [List.getElem?_toArray, List.getElem?_cons_succ, List.getElem?_cons_zero] at v2a
          clear hrow1 hcs
          go_wp2_with (at_builtin; refine wpList_app _ rfl (.tmp 121) (.tmp 123) 22 rfl (w.heap.size + 2) 24 i0 (.agg #[.bool false, .int .i64 0, .slice none 0 0]) 3 40 Tryd.underlying22 hi0 hz0 hz1 hz2 rfl (by decide) (.slice Av m cv) m cs rfl OW.out (fun b => b = w2.heap.size + 1) _ 1 [.bool lx, .int .i64 nx, .slice Ac xs.length cc] rfl (cells_three _ _ _ _ (w2.heap.size + 1) (fun b => b = w2.heap.size + 1) ((Has.cell HX.out 0).trans rfl) ((Has.cell HX.out 1).trans rfl) ((Has.cell HX.out 2).trans rfl) rfl) (by intro u hu; simp at hu; rcases hu with rfl | rfl | rfl <;> rfl) (by unfold maxLen; omega) (by omega) (by simp; omega) ?_; intro v6 w6 hown hgrow hat; obtain ⟨A6, c6, rfl⟩ := own_slice3 hown; have V6 := hid (V2.out.app lr sz sg HW.out VB.out HWF.out HCS.out (by rw [← HM.out]; exact hown) hgrow hat); have K6 := V2.out.box6 hgrow; have k6 := Has.cell K6 2; have f6 := Has.froz K6 2; simp at k6; clear hown hgrow hat K6)
          have FN : Hid (∃ f, r.length < f ∧ fin = itemsG (valF n) f r (acc ++ [.mk lx nx xs])) := by obtain ⟨f, h1, h2⟩ := F2.out; exact ⟨f, by omega, h2⟩
          go_roundw
          case rel => exact ⟨r, _, _, by have := TL.out; simp; omega, AR, V6, FN⟩
          case measure => rw [restAt_eq V6.out.rd, M0.out]; have := TL.out; omega
      · have h0 : (0 : Int) < (m : Int) := by omega
        have h0n : 0 < m := by omega
        have hacc : acc.length ≠ 0 := by rw [← HM.out]; exact hacc
        rw [if_neg (by decide)]
        go_wp2_with fail
        refine (CT.out t 32 _).mono ?_
        rintro e w0 ⟨rfl, e0⟩
        rw [e0]
        clear e0 w0
        cases h32 : Lib.hasPrefix t [32] with
        | false =>
          have EF : Hid (fin = none) := by
            obtain ⟨f, h1, h2⟩ := hF.out
            match f, h1, h2 with
            | f + 1, _, h2 => show _ = _; rw [h2, itemsG, if_neg (by rw [h41]; decide), if_pos ⟨hacc, h32⟩]
          rw [if_neg (by decide)]
          clear h41 h32
          go_wp2_with fail
          exact (hV.out.same3 lr).leave lr D7.out _ false _ rfl rfl EF.out
        | true =>
          have F2 : Hid (∃ f, t.tail.length < f + 1 ∧ fin = match valF n t.tail with | none => none | some (x, r) => itemsG (valF n) f r (acc ++ [x])) := by
            obtain ⟨f, h1, h2⟩ := hF.out
            match f, h1, h2 with
            | f + 1, h1, h2 => exact ⟨f, by rw [List.length_tail]; omega, by rw [h2, itemsG, if_neg (by rw [h41]; decide), if_neg (by simp [h32]), if_neg hacc]; cases valF n t.tail <;> rfl⟩
          rw [if_pos rfl]
          clear h41 h32
          go_wp2_with fail
          obtain ⟨wa, hwa⟩ : ∃ wa, wa = wr.setCell ⟨rb, 0, none⟩ (.string (strB t.tail)) := ⟨_, rfl⟩
          have VW : Hid (VInv w rb d t.tail acc (.slice Av m cv) wa) := by show VInv _ _ _ _ _ _ _; rw [hwa]; exact hV.out.rdSet lr t.tail
          rw [← hwa]
          clear hwa
          have VT := hid VW.out
          have AT : Hid (A t.tail) := by have := HA.out.drop t 1 hAt.out; rwa [List.drop_one] at this
          have TL : Hid (t.tail.length ≤ t.length) := by show _ ≤ _; rw [List.length_tail]; omega
          have sz := VT.out.size
          have EL : Hid (ErrsL wa) := by
            obtain ⟨⟨ev, e1, e2⟩, ⟨ev', e3, e4⟩⟩ := HE.out
            have gb := VT.out.gr.block
            exact ⟨⟨ev, (World.cell?_of_block (w := w) (gb _ (by simp; omega) (by simp; omega))).trans e1, e2⟩, ⟨ev', (World.cell?_of_block (w := w) (gb _ (by simp; omega) (by simp; omega))).trans e3, e4⟩⟩
          refine (IH.out A t.tail rb (d + 1) wa HA.out AT.out (by omega) (by omega) (by have := TL.out; omega) VT.out.rd hg1 hg2 EL.out).mono ?_
          rintro e w2 ⟨hg, hpost⟩
          have VD := hid (valF_drop n t.tail)
          have VP := hid (fun x r h => eats_pos (valF_eats n) (s := t.tail) (r := r) (x := x) h)
          obtain ⟨res, hres⟩ : ∃ res, res = valF n t.tail := ⟨_, rfl⟩
          rw [← hres] at hpost F2
          have HRES := hid hres
          clear hres
          rcases res with _ | ⟨⟨lx, nx, xs⟩, r⟩
          · obtain ⟨⟨s', hr2⟩, lx, nx, Ax, mx, cx, rfl⟩ := hpost
            have V2 := hid (VT.out.call lr hg hr2)
            have EF : Hid (fin = none) := by obtain ⟨f, _, h2⟩ := F2.out; exact h2
            have p0 := Has.cell V2.out.bp 0
            have v0 := Has.cell V2.out.bv 0
            have v1 := Has.cell V2.out.bv 1
            have v2 := Has.cell V2.out.bv 2
            have fv0 := Has.froz V2.out.bv 0
            have fv1 := Has.froz V2.out.bv 1
            have fv2 := Has.froz V2.out.bv 2
            simp at p0 v0 v1 v2
            have sv := V2.out.size
            have lb1 : w.heap.size + 1 < w2.heap.size := by omega
            have lb0 : w.heap.size < w2.heap.size := by omega
            clear hg hr2
            go_wp2_with fail
            exact ((V2.out.same3 lr).alloc _).leave lr D7.out _ false _ rfl rfl EF.out
          · obtain ⟨hr2, c, rfl, hrow, hwf⟩ := hpost
            obtain ⟨Ac, cc, rfl⟩ := hrow.slice
            have V2 := hid (VT.out.call lr hg hr2)
            have HW := hid hrow
            have HWF := hid hwf
            have RD := VD.out _ _ HRES.out.symm
            have RP := VP.out _ _ HRES.out.symm
            have AR : Hid (A r) := by obtain ⟨k, hk⟩ := RD; rw [hk]; exact HA.out.drop _ _ AT.out
            have p0 := Has.cell V2.out.bp 0
            have v0 := Has.cell V2.out.bv 0
            have v1 := Has.cell V2.out.bv 1
            have v2 := Has.cell V2.out.bv 2
            have fv0 := Has.froz V2.out.bv 0
            have fv1 := Has.froz V2.out.bv 1
            have fv2 := Has.froz V2.out.bv 2
            simp at p0 v0 v1 v2
            have sv := V2.out.size
            have lb1 : w.heap.size + 1 < w2.heap.size := by omega
            have lb0 : w.heap.size < w2.heap.size := by omega
            have sg := hg.size
            clear hg hr2 hrow hwf RD
            obtain ⟨⟨cs, hrow1, hcs⟩, _⟩ := V2.out.row
            have HCS := hid hcs
            rw [← HM.out] at hrow1
            have OW := hid ((own_keep (w' := (w2.alloc (.cells #[.bool lx, .int .i64 nx, .slice Ac xs.length cc] 24)).alloc (.cells #[.bool lx, .int .i64 nx, .slice Ac xs.length cc] 24)) hrow1 fun k hk => (Below.heap_alloc _ _ _ (by have := own_lt hrow1 k hk; simp; omega)).trans (Below.heap_alloc _ _ _ (own_lt hrow1 k hk))))
            have VB : Hid (∀ b, (Value.slice Av m cv).ownBlock = some b → b < wa.heap.size) := by obtain ⟨⟨cs0, h0, _⟩, _⟩ := VT.out.row; exact own_lt h0
            have HX := hid (Has.newAt (w2.alloc (.cells #[.bool lx, .int .i64 nx, .slice Ac xs.length cc] 24)) (.cells #[.bool lx, .int .i64 nx, .slice Ac xs.length cc] 24) (g := w2.heap.size + 1) (by simp))
            have v2a := Has.cell (V2.out.alloc (.cells #[.bool lx, .int .i64 nx, .slice Ac xs.length cc] 24)).bv 2
            simp only [List.getElem?_toArray, List.getElem?_cons_succ, List.getElem?_cons_zero] at v2a
            clear hrow1 hcs
            go_wp2_with (at_builtin; refine wpList_app _ rfl (.tmp 121) (.tmp 123) 22 rfl (w.heap.size + 2) 24 i0 (.agg #[.bool false, .int .i64 0, .slice none 0 0]) 3 40 Tryd.underlying22 hi0 hz0 hz1 hz2 rfl (by decide) (.slice Av m cv) m cs rfl OW.out (fun b => b = w2.heap.size + 1) _ 1 [.bool lx, .int .i64 nx, .slice Ac xs.length cc] rfl (cells_three _ _ _ _ (w2.heap.size + 1) (fun b => b = w2.heap.size + 1) ((Has.cell HX.out 0).trans rfl) ((Has.cell HX.out 1).trans rfl) ((Has.cell HX.out 2).trans rfl) rfl) (by intro u hu; simp at hu; rcases hu with rfl | rfl | rfl <;> rfl) (by unfold maxLen; omega) (by omega) (by simp; omega) ?_; intro v6 w6 hown hgrow hat; obtain ⟨A6, c6, rfl⟩ := own_slice3 hown; have V6 := hid (V2.out.app lr sz sg HW.out VB.out HWF.out HCS.out (by rw [← HM.out]; exact hown) hgrow hat); have K6 := V2.out.box6 hgrow; have k6 := Has.cell K6 2; have f6 := Has.froz K6 2; simp at k6; clear hown hgrow hat K6)
            have FN : Hid (∃ f, r.length < f ∧ fin = itemsG (valF n) f r (acc ++ [.mk lx nx xs])) := by obtain ⟨f, h1, h2⟩ := F2.out; exact ⟨f, by omega, h2⟩
            go_roundw
            case rel => exact ⟨r, _, _, by have := TL.out; simp; omega, AR, V6, FN⟩
            case measure => rw [restAt_eq V6.out.rd, M0.out]; have := TL.out; omega
theorem value_any : ∀ n, ValOk n
  | 0 => value_deep
  | n + 1 => by
    intro A s rb d w hA hs hd hd0 hl hr hg1 hg2 hE
    rw [valF]
    cases hp : Lib.hasPrefix s [40] with
    | true =>
      rw [if_pos rfl]
      exact value_list n (value_any n) A s rb d w hA hs (by omega) hd0 hl hr hg1 hg2 hE hp
    | false =>
      rw [if_neg (by decide)]
      exact value_num n A s rb d w hA hs (by omega) hl hr hg1 hg2 hE hp
end Go.Proofs.YtpljcpeofnobbaaDoor
