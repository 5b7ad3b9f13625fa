/- The name of a word, as wset.name returns it: its letters as bytes. Condition: the letters are bytes, and at most 1000. -/
import Derived.Test.YtkcggmhllijgcaaDoorWth
import Derived.Test.YtkcggmhllijgcaaDoorSlc
import Derived.Laws.BytesArg
import Derived.StringKeys
import Derived.Maps.OwnSet
namespace Go.Proofs.YtkcggmhllijgcaaDoor
open Go.RowKit Go.Maps Go.WideMaps
theorem infoByte : (Tryd.prog.info? 5).map (fun i => (i.zero, i.size, i.bytes)) = some (some (.int .u8 0), 1, 1) := by kernel_rfl
/-- the letters are bytes -/
def Bytes (ws : List Int) : Prop := ∀ x ∈ ws, 0 ≤ x ∧ x < 256
theorem conv_byte (x : Int) (h : 0 ≤ x ∧ x < 256) (w : World) : (convert 3 5 (.int .i64 x)).run Tryd.prog w = .ok (.int .u8 x) w := by
  have e : IntKind.u8.wrap x = x := by
    simp [IntKind.wrap, IntKind.bits, IntKind.signed]; omega
  simp [go_sem, Tryd.underlying3, Tryd.underlying5, e]
set_option maxRecDepth 100000 in
set_option maxHeartbeats 1000000 in
theorem name_any (ws : List Int) (F : Nat → Prop) (v : Value) (w : World) (hF : ∀ b, F b → b < w.heap.size) (hv : IntsIn .i64 F w v ws) (hb : Bytes ws) (hz : ws.length ≤ 1000) :
    Calls Tryd.prog 50 #[v] w fun e w' => e = .returned (.string (strOfNums ws)) ∧ Below w.heap.size w w' := by
  have HB := hid hb
  have HF := hid hF
  obtain ⟨A, c, rfl, h1, _, h3⟩ := hv
  have H3 := hid h3
  unfold maxLen at h1
  obtain ⟨i0, hi0, hz0, hz1, hz2⟩ := info_parts infoByte
  clear h3 hF hb
  go_enter Tryd.func50, Tryd.ntmps50
  go_wp2_with fail
  go_loopw [3, 8] (fun bv ji wr => ∃ j : Nat, j ≤ ws.length ∧ ji = .int .i64 j ∧ Hid (wr.ownsRow w.heap.size 5 1 bv j ((ws.take j).map (Value.int .u8))) ∧ Hid (Below w.heap.size w wr)) (fun _ ji _ => ws.length - (intOf ji).toNat)
  case atStart => exact ⟨0, Nat.zero_le _, rfl, World.ownsRow_nil _ _ _ _, Below.refl _ _⟩
  case round =>
    obtain ⟨j, hj, rfl, hO, hB⟩ := hrel
    have sB := hB.out.size
    by_cases hlt : j < ws.length
    · obtain ⟨b, o, rfl, hFb, hc⟩ := H3.out (by omega)
      have c1 := (hB.out.cell (p := ⟨b, o + j, none⟩) (HF.out b hFb)).trans (hc j hlt)
      obtain ⟨x, hx⟩ : ∃ x, x = ws.getD j 0 := ⟨_, rfl⟩
      have XB : Hid (0 ≤ x ∧ x < 256) := HB.out x (by rw [hx, List.getD_eq_getElem?_getD, List.getElem?_eq_getElem hlt]; exact List.getElem_mem _)
      have TK : Hid ((ws.take (j + 1)).map (Value.int .u8) = (ws.take j).map (Value.int .u8) ++ [.int .u8 x]) := by
        show _ = _
        rw [List.take_succ_eq_append_getElem hlt, List.map_append, hx, List.getD_eq_getElem?_getD, List.getElem?_eq_getElem hlt]; rfl
      rw [← hx] at c1
      have hcv := conv_byte x XB.out
      have ji : (j : Int) < (ws.length : Int) := by omega
      clear hx hc hFb
      have O2 := hid (hO.out.alloc (.cells #[.int .u8 x] 5))
      go_wp2_with (at_builtin; refine wpList_append_own _ rfl _ _ 101 rfl w.heap.size 5 i0 (.int .u8 0) 1 1 Tryd.underlying101 hi0 hz0 hz1 hz2 rfl (by decide) _ _ _ rfl O2.out ⟨wr.heap.size, 0, none⟩ 1 1 [.int .u8 x] rfl rfl (one_at _ _ _) (one_int _ _) (by unfold maxLen; omega) (by omega) (by simp; omega) ?_; intro v2 w2 hown hgrow _; have O3 : Hid (w2.ownsRow w.heap.size 5 1 v2 (j + 1) ((ws.take (j + 1)).map (Value.int .u8))) := (by show World.ownsRow _ _ _ _ _ _ _; rw [TK.out]; exact hown); have B3 : Hid (Below w.heap.size w w2) := (hB.out.alloc sB _).grown hgrow (by simp; omega) (own_ge O2.out); clear hown hgrow)
      go_roundw
      case rel => exact ⟨j + 1, by omega, by go_num, O3, B3⟩
      case measure => simp [intOf]; omega
    · obtain rfl : j = ws.length := by omega
      rw [List.take_length] at hO
      have hcv : ∀ w', w' = wr → (convert 101 9 u3).run Tryd.prog w' = .ok (.string (strOfNums ws)) w' := by
        rintro w' rfl
        by_cases h0 : 0 < ws.length
        · obtain ⟨g, cap, rfl, hb, hlt2, hc1, hc2, hcell⟩ := own_open hO.out h0
          refine run_convert_bytes_arg _ 101 5 Tryd.underlying101 Tryd.underlying5 g 0 _ cap ws rfl (fun i hi => ?_) 9 Tryd.underlying9
          rw [Nat.zero_add, hcell i (by omega)]
          simp [List.getD_eq_getElem?_getD, List.getElem?_eq_getElem hi]
        · have e : ws = [] := List.eq_nil_of_length_eq_zero (by omega)
          subst e
          rcases hO.out.2 with ⟨rfl, _⟩ | ⟨g, cap, cur, rfl, _⟩
          · exact run_convert_bytes_nil _ 101 5 Tryd.underlying101 Tryd.underlying5 0 0 9 Tryd.underlying9
          · exact run_convert_bytes_arg _ 101 5 Tryd.underlying101 Tryd.underlying5 g 0 0 cap [] rfl (fun i hi => by omega) 9 Tryd.underlying9
      have hcv2 := hcv wr rfl
      clear hcv
      go_wp2_with fail
      go_ret
      exact ⟨rfl, hB.out⟩
end Go.Proofs.YtkcggmhllijgcaaDoor
