/- What flow.Left returns. Condition: as many edges as a right graph has, or a way of at most 2^40 nodes. -/
import Derived.Test.YtkiljnggphlomaaDoorEmp
import Derived.Test.YtkiljnggphlomaaDoorEdl
import Derived.Test.YtkiljnggphlomaaDoorEct
import Derived.Deep.RegionHeld3
import Derived.IntWalk
namespace Go.Proofs.YtkiljnggphlomaaDoor
open Go.RowKit Go.Maps Go.WideMaps Go.Deep
theorem enter_left : ∀ (args : Array Value) (w : World), Sem.run Tryd.prog (callFunc 41 args) w = .ok (.enter 41 args) w := fun _ _ => by kernel_rfl
def gone (way : List Int) (k : Nat) : EdgeL := (List.range (k - 1)).map fun j => (at0 way j, at0 way (j + 1))
theorem gone_one (way : List Int) : gone way 1 = [] := rfl
theorem gone_succ (way : List Int) (k : Nat) (h : 1 ≤ k) : gone way (k + 1) = gone way k ++ [(at0 way (k - 1), at0 way k)] := by
  unfold gone
  obtain ⟨m, rfl⟩ : ∃ m, k = m + 1 := ⟨k - 1, by omega⟩
  rw [show m + 1 + 1 - 1 = (m + 1 - 1) + 1 by omega, List.range_succ, List.map_append]; rfl
theorem gone_len (way : List Int) (k : Nat) : (gone way k).length = k - 1 := by simp [gone]
theorem gone_wf {way : List Int} (hw : ∀ z ∈ way, (Lit.int .i64 z).wf = true) {k : Nat} (hk : k ≤ way.length) : ∀ p ∈ gone way k, wf64 p.1 ∧ wf64 p.2 := by
  intro p hp
  simp only [gone, List.mem_map, List.mem_range] at hp
  obtain ⟨j, hj, rfl⟩ := hp
  exact ⟨hw _ (mem_at (by omega)), hw _ (mem_at (by omega))⟩
theorem gone_mono {way : List Int} {k m : Nat} (h : k ≤ m) {p : Int × Int} (hp : p ∈ gone way k) : p ∈ gone way m := by
  simp only [gone, List.mem_map, List.mem_range] at hp ⊢
  obtain ⟨j, hj, rfl⟩ := hp
  exact ⟨j, by omega, rfl⟩
def leftC (n : Int) (l : EdgeL) (way : List Int) : Int :=
  if flowC n l ≠ 0 then flowC n l else if way.length = 0 ∨ at0 way 0 ≠ 0 then 3 else if (gone way way.length).all (fun e => decide (e ∈ l)) = true then 0 else 3
def leftG (n : Int) (l : EdgeL) (way : List Int) : EdgeL := if leftC n l way = 0 then keepE (fun e => decide (e ∈ gone way way.length)) l else []
theorem leftC_hit {n : Int} {l : EdgeL} {way : List Int} (h0 : flowC n l = 0) (h1 : way.length ≠ 0) (h2 : at0 way 0 = 0) {p : Int × Int} (hp : p ∈ gone way way.length) (hn : p ∉ l) : leftC n l way = 3 := by
  unfold leftC
  rw [if_neg (by rw [h0]; simp), if_neg (by simp [h1, h2]), if_neg]
  intro h
  rw [List.all_eq_true] at h
  have := h p hp
  simp at this; exact hn this
theorem leftC_none {n : Int} {l : EdgeL} {way : List Int} (h0 : flowC n l = 0) (h1 : way.length ≠ 0) (h2 : at0 way 0 = 0) (h : ∀ p ∈ gone way way.length, p ∈ l) : leftC n l way = 0 := by
  unfold leftC
  rw [if_neg (by rw [h0]; simp), if_neg (by simp [h1, h2]), if_pos]
  rw [List.all_eq_true]
  intro p hp; simpa using h p hp
set_option maxHeartbeats 400000 in
theorem gone_asks (g mb : Nat) (w0 : World) (ps : EdgeL) (hps : ∀ p ∈ ps, wf64 p.1 ∧ wf64 p.2) (hg : w0.cell? ⟨g, 0, none⟩ = some (.map (some mb))) (hm : SetE w0 mb ps) (B0 : Nat) (h1 : g < B0) (h2 : mb < B0) :
    AskE 41 #[.pointer (some ⟨g, 0, none⟩)] (fun e => decide (e ∈ ps)) B0 w0 := by
  intro w a b hab hb
  show Calls Tryd.prog 41 #[.agg #[.int .i64 a, .int .i64 b], .pointer (some ⟨g, 0, none⟩)] w _
  have c0 : w.cell? ⟨g, 0, none⟩ = some (.map (some mb)) := (hb.cell (p := ⟨g, 0, none⟩) h1).trans hg
  obtain ⟨nm, _, hmap⟩ := hm.below hb h2
  have hk := keyOf_edge (a, b) hab
  have HS := hid (hasE hps (q := (a, b)) hab)
  have lgw : g < w.heap.size := cell_lt c0
  clear hg hb hm
  go_enter Tryd.func41, Tryd.ntmps41
  go_wp2_with (at_lookup; refine wpList_lookup_own_unit (H := Unit) _ rfl _ _ 76 rfl 32 78 lawE Tryd.underlying76 (zeroU _) mb nm _ rfl (hmap.alloc _) _ (keyE (a, b)) rfl hk ?_; rw [HS.out])
  go_ret
  exact ⟨rfl, ((Below.refl _ _).alloc (Nat.le_refl _) _).alloc (by simp) _⟩
end Go.Proofs.YtkiljnggphlomaaDoor
