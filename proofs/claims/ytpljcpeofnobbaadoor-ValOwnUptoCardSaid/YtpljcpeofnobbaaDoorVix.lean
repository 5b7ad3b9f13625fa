/- What ValOwn wants of strings: their bulk, and the zero value of an ASCII set. No conditions. -/
import Derived.Test.YtpljcpeofnobbaaDoorUpto
import Derived.Test.YtpljcpeofnobbaaDoorVpp
namespace Go.Proofs.YtpljcpeofnobbaaDoor
open Go.RowKit Go.Deep
theorem bulk_str {H : Type} (s : ByteArray) : s.size + 1 = Rows.uptoBulk (DataW.lit (H := H) (.string s.data.toList)) := by
  rw [Rows.uptoBulk]; rfl
theorem zeroSet (w : World) : (zeroValue 62).run Tryd.prog w = .ok (.agg (Array.replicate 256 (.bool false))) w := by kernel_rfl
/-- what is asked of the short texts that hold bytes beyond ASCII -/
def IxShort : Prop := ∀ (t : List UInt8) (w : World), t.length ≤ 8 → (¬ ∀ b ∈ t, b.toNat < 128) → Calls Tryd.prog 18 #[.string (strB t), .string ⟨#[32, 41]⟩] w fun e w' => e = .returned (.int .i64 (Lib.indexAny t [32, 41])) ∧ Below w.heap.size w w'
def SmallS (t : List UInt8) : Prop := t.length ≤ 1048576
theorem ix_small (hS : IxShort) : IxOk SmallS where
  drop t k h := by unfold SmallS at *; rw [List.length_drop]; omega
  ix t w h := by
    have two : ∀ (j : Nat) (b : UInt8), (⟨#[32, 41]⟩ : ByteArray).data.toList[j]? = some b → b.toNat < 128 := fun j b hb => by
      match j, hb with
      | 0, hb => simp at hb; subst hb; decide
      | 1, hb => simp at hb; subst hb; decide
    unfold SmallS at h
    by_cases h8 : t.length ≤ 8
    · by_cases ha : ∀ b ∈ t, b.toNat < 128
      · refine (Tryd.strings_IndexAny_laid (strB t) ⟨#[32, 41]⟩ w (by rw [strB_size]; omega) (by decide) (fun j b hb => ha b (List.mem_of_getElem? (by rw [strB_data] at hb; exact hb))) two).mono ?_
        rintro e w' ⟨rfl, hb⟩
        exact ⟨by rw [strB_data], hb⟩
      · exact hS t w h8 ha
    · refine (Tryd.strings_IndexAny_long zeroSet (strB t) ⟨#[32, 41]⟩ w (by decide) (by rw [strB_size]; omega) (by rw [strB_size]; omega) (by decide) two).mono ?_
      rintro e w' ⟨rfl, rfl⟩
      exact ⟨by rw [strB_data], ((Below.refl w.heap.size w).alloc (by omega) _).alloc (by simp) _⟩
end Go.Proofs.YtpljcpeofnobbaaDoor
