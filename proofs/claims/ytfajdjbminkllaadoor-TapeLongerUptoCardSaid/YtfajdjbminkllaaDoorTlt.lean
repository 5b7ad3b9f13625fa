/- What tape.Text returns: the numerals, a dot between each two. Conditions: at most 2^22 numbers; the library's table of powers holds what it is laid with. -/
import Derived.Test.YtfajdjbminkllaaDoorTlp
import Derived.Test.YtfajdjbminkllaaDoorShl
import Derived.Test.YtfajdjbminkllaaDoorGen
import Derived.Test.YtfajdjbminkllaaDoorApp
namespace Go.Proofs.YtfajdjbminkllaaDoor
open Go.RowKit
theorem infoStr : (Tryd.prog.info? 9).map (fun i => (i.zero, i.size, i.bytes)) = some (some (.string ⟨#[]⟩), 1, 16) := by kernel_rfl
theorem grow_below (w : World) (k : Nat) (os : Array Obj) : Below w.heap.size w (Go.Sort.grow (w.drewN k) os) := by
  have h := below_drewN (Below.refl w.heap.size w) k
  refine ⟨h.os, h.tape, h.output, ?_, fun b hb => ?_⟩
  · have := h.size
    simp only [Go.Sort.grow, Array.size_append]; omega
  · have h1 := h.block b hb
    have h2 := h.size
    show ((w.drewN k).heap ++ os)[b]? = _
    rw [Array.getElem?_append_left (by omega)]
    exact h1
def Tab (w : World) : Prop := Lib.TabIs Tryd.prog w "internal/strconv.uint64pow10" .u64 Lib.pow10Tab
theorem cells_oneT (w : World) (x : Value) (t : TypeId) {g : Nat} (hg : g = w.heap.size) : CellsIn (fun b => b = g) (w.alloc (.cells #[x] t)) 1 (.slice (some ⟨g, 0, none⟩) 1 1) 1 [x] := by
  subst hg
  exact ⟨_, 1, rfl, rfl, fun _ => ⟨w.heap.size, 0, rfl, rfl, fun j u hj => by
    match j, hj with
    | 0, hj => simp at hj; subst hj; simp⟩⟩
theorem wf_bounds {x : Int} (h : (Lit.int .i64 x).wf = true) : -9223372036854775808 ≤ x ∧ x ≤ 9223372036854775807 := by
  simp [Lit.wf, IntKind.min, IntKind.max, IntKind.signed, IntKind.bits] at h; omega
def itoaS (x : Int) : ByteArray := ⟨(Lib.itoa x).toArray⟩
theorem own_sl2 {w : World} {base : Nat} {e : TypeId} {size n : Nat} {v : Value} {xs : List Value} (h : w.ownsRow base e size v n xs) : ∃ A c, v = .slice A n c ∧ n ≤ c ∧ c ≤ maxLen := by
  rcases h.2 with ⟨rfl, rfl⟩ | ⟨g, cap, cur, rfl, hb, hh, hc1, hc2, _⟩
  · exact ⟨none, 0, rfl, Nat.le_refl _, by unfold maxLen; omega⟩
  · exact ⟨_, cap, rfl, hc1, hc2⟩
set_option maxRecDepth 100000 in
set_option maxHeartbeats 1000000 in
theorem text_any (l : List Int) (F : Nat → Prop) (v : Value) (w : World) (hF : ∀ b, F b → b < w.heap.size) (hv : IntsIn .i64 F w v l) (hz : l.length ≤ 4194304) (ht : ∀ w', Below w.heap.size w w' → Tab w') :
    Calls Tryd.prog 5 #[v] w fun e w' => e = .returned (.string ⟨(textL l).toArray⟩) ∧ Below w.heap.size w w' := by
  have HF := hid hF
  have HT := hid ht
  obtain ⟨A, c, rfl, h1, hwf, h3⟩ := hv
  have H3 := hid h3
  have WF := hid hwf
  have HZ := hid hz
  unfold maxLen at h1
  obtain ⟨iS, hiS, hzS0, hzS1, hzS2⟩ := info_parts infoStr
  clear h3 hF ht hwf
  go_enter Tryd.func5, Tryd.ntmps5
  go_wp2_with fail
  go_loopw [3, 8] (fun ov ii wr => ∃ i : Nat, i ≤ l.length ∧ ii = .int .i64 i ∧ Hid (wr.ownsRow w.heap.size 9 1 ov i ((l.take i).map fun x => Value.string (itoaS x))) ∧ Hid (Below w.heap.size w wr)) (fun _ ii _ => l.length - (intOf ii).toNat)
  case atStart => exact ⟨0, Nat.zero_le _, rfl, World.ownsRow_nil _ _ _ _, Below.refl _ _⟩
  case round =>
    obtain ⟨i, hi, rfl, hO, hB⟩ := hrel
    have sB := hB.out.size
    by_cases hlt : i < l.length
    · obtain ⟨b, o, rfl, hFb, hc⟩ := H3.out (by omega)
      have c1 := (hB.out.cell (p := ⟨b, o + i, none⟩) (HF.out b hFb)).trans (hc i hlt)
      obtain ⟨x, hx⟩ : ∃ x, x = l.getD i 0 := ⟨_, rfl⟩
      have XW : Hid ((Lit.int .i64 x).wf = true) := WF.out x (by rw [hx, List.getD_eq_getElem?_getD, List.getElem?_eq_getElem hlt]; exact List.getElem_mem _)
      have XB := hid (wf_bounds XW.out)
      have TK : Hid ((l.take (i + 1)).map (fun x => Value.string (itoaS x)) = (l.take i).map (fun x => Value.string (itoaS x)) ++ [.string (itoaS x)]) := by
        show _ = _
        rw [List.take_succ_eq_append_getElem hlt, List.map_append, hx, List.getD_eq_getElem?_getD, List.getElem?_eq_getElem hlt]; rfl
      rw [← hx] at c1
      have ii : (i : Int) < (l.length : Int) := by omega
      clear hx hc hFb
      go_wp2_with (go_at_call 7; refine (Tryd.strconv_Itoa x XB.out.1 XB.out.2 wr (HT.out wr hB.out)).mono ?_)
      rintro e w1 ⟨rfl, k, os, rfl⟩
      have P1 := hid (grow_below wr k os)
      generalize Go.Sort.grow (wr.drewN k) os = w1 at *
      have s1 := P1.out.size
      have B1 := hid (hB.out.trans (P1.out.mono sB))
      have O1 := hid ((own_below hO.out P1.out).alloc (.cells #[.string (itoaS x)] 9))
      have OGE := hid (own_ge hO.out)
      go_wp2_with (at_builtin; go_loud (refine wpList_app _ rfl _ _ 26 rfl w.heap.size 9 iS (.string ⟨#[]⟩) 1 16 Tryd.underlying26 hiS hzS0 hzS1 hzS2 rfl (by decide) _ _ _ rfl O1.out _ _ 1 [.string (itoaS x)] rfl (cells_oneT _ _ _ (by simp)) (by intro u hu; simp at hu; subst hu; rfl) (by unfold maxLen; omega) (by omega) (by simp; omega) ?_; intro v2 w2 hown hgrow _; have O3 : Hid (w2.ownsRow w.heap.size 9 1 v2 (i + 1) ((l.take (i + 1)).map fun x => Value.string (itoaS x))) := (by show World.ownsRow _ _ _ _ _ _ _; rw [TK.out]; exact hown); have B3 : Hid (Below w.heap.size w w2) := (B1.out.alloc (by omega) _).grown hgrow (by simp; omega) OGE.out; clear hown hgrow))
      go_roundw
      case rel => exact ⟨i + 1, by omega, by go_num, O3, B3⟩
      case measure => simp [intOf]; omega
    · obtain rfl : i = l.length := by omega
      rw [List.take_length] at hO
      have JN : Hid (Calls Tryd.prog 8 #[u3, .string ⟨#[46]⟩] wr fun e w' => e = .returned (.string ⟨(textL l).toArray⟩) ∧ Below w.heap.size w w') := by
        show Calls _ _ _ _ _
        by_cases h0 : 0 < l.length
        · obtain ⟨g, cap, rfl, hb, hlt2, hc1, hc2, hcell⟩ := own_open hO.out h0
          have el : ((l.map itoaS).map (·.data.toList)) = l.map Lib.itoa := by rw [List.map_map]; apply List.map_congr_left; intro x _; simp [itoaS]
          have hs := numL_le l (fun x hx => wf_bounds (WF.out x hx))
          have ht := text_len l
          have hlen : (Lib.join ((l.map itoaS).map (·.data.toList)) (⟨#[46]⟩ : ByteArray).data.toList).length ≤ 140737488355328 := by
            rw [el]; show (textL l).length ≤ _; omega
          have := Tryd.strings_Join g 0 cap (l.map itoaS) ⟨#[46]⟩ wr (fun j y hj => by
            have hjl : j < l.length := by
              rcases Nat.lt_or_ge j l.length with h | h
              · exact h
              · rw [List.getElem?_eq_none (by simpa using h)] at hj; cases hj
            rw [Nat.zero_add, hcell j (by omega)]
            rw [List.getElem?_map, List.getElem?_eq_getElem hjl] at hj ⊢
            injection hj with hj
            rw [← hj]; rfl) hlt2 (by simp; omega) (by simpa using hc1) hlen
          rw [List.length_map] at this
          refine this.mono ?_
          rintro e w' ⟨h1, h2⟩
          rw [el] at h1
          exact ⟨h1, hB.out.trans (h2.mono sB)⟩
        · have e : l = [] := List.eq_nil_of_length_eq_zero (by omega)
          subst e
          obtain ⟨A9, c9, rfl, _, _⟩ := own_sl2 hO.out
          refine (Tryd.strings_Join_none A9 c9 ⟨#[46]⟩ wr).mono ?_
          rintro e w' ⟨h1, rfl⟩
          exact ⟨h1, hB.out⟩
      go_wp2_with (go_at_call 8; refine JN.out.mono ?_)
      rintro e w1 ⟨rfl, hb⟩
      have B2 := hid hb
      clear hb
      go_wp2_with fail
      go_ret
      exact ⟨rfl, B2.out⟩
end Go.Proofs.YtfajdjbminkllaaDoor
