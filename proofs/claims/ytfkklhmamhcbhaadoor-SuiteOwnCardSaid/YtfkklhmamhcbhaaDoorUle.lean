/- hit.least: a list of sets in order, each once, without those within which another one lies. Condition: at most a million sets. -/
import Derived.Test.YtfkklhmamhcbhaaDoorUdl
namespace Go.Proofs.YtfkklhmamhcbhaaDoor
open Go.RowKit Go.Deep Go.Lib
/-- t lies within s, and is another one -/
def ulessP (s t : Int) : Bool := (!(t == s)) && (bits .and .u32 t s == t)
def uoverP (all : List Int) (s : Int) : Bool := all.any (ulessP s)
def leastL (zs : List Int) : List Int := keepU (uoverP (compact (srt zs))) (compact (srt zs))
set_option maxRecDepth 100000 in
set_option maxHeartbeats 400000 in
theorem ask_in (s : Int) (bs : Nat) (row : Option Nat) (w0 : World) (hb : bs < w0.heap.size) (hr : some bs ≠ row) (hc : w0.cell? ⟨bs, 0, none⟩ = some (.int .u32 s)) : AskU 27 #[.pointer (some ⟨bs, 0, none⟩)] (ulessP s) row w0 := by
  intro w t _ hB
  have c0 := (World.cell?_of_block (a := ⟨bs, 0, none⟩) (w := w0) (w' := w) (hB.block bs hb hr)).trans hc
  clear hc hB hb hr
  by_cases e : t = s
  · subst e
    have g1 : (t == t) = true := by simp
    have R : Hid (ulessP t t = false) := by show _ = _; unfold ulessP; simp
    go_enter Tryd.func27, Tryd.ntmps27
    go_wp2_with fail
    go_ret
    exact ⟨by rw [R.out]; rfl, Below.refl _ _⟩
  · have g1 : (t == s) = false := by simpa using e
    go_enter Tryd.func27, Tryd.ntmps27
    go_wp2_with fail
    go_ret
    exact ⟨rfl, Below.refl _ _⟩
set_option maxRecDepth 100000 in
set_option maxHeartbeats 400000 in
theorem ask_out (all : List Int) (v : Value) (ba : Nat) (row : Option Nat) (w0 : World) (hb : ba < w0.heap.size) (hr : some ba ≠ row) (hc : w0.cell? ⟨ba, 0, none⟩ = some v) (hv : IntsIn .u32 (fun b => b < w0.heap.size ∧ some b ≠ row) w0 v all) : AskU 25 #[.pointer (some ⟨ba, 0, none⟩)] (uoverP all) row w0 := by
  intro w s _ hB
  have c0 := (World.cell?_of_block (a := ⟨ba, 0, none⟩) (w := w0) (w' := w) (hB.block ba hb hr)).trans hc
  have V1 := hid (hv.keep (w' := w) (fun b h => hB.block b h.1 h.2))
  have sB := hB.size
  have hbw : ba < w.heap.size := by omega
  obtain ⟨A, c, rfl, _⟩ := hv
  have hne : ba ≠ w.heap.size := by omega
  have SB := hid sB
  clear hc hB hb hr sB
  go_enter Tryd.func25, Tryd.ntmps25
  go_wp2_with fail
  have V2 := hid (V1.out.keep (w' := w.alloc (Obj.cells #[.int .u32 s] 30)) (fun b hb => Below.heap_alloc _ _ _ (by have := SB.out; have := hb.1; omega)))
  refine (ucontains_any (ulessP s) 27 _ all _ _ _ (fun b h => (by simp; have := SB.out; have := h.1; omega)) V2.out (ask_in s w.heap.size none _ (by simp) (by simp) (by simp)) (by intro args w; rfl)).mono ?_
  rintro e w2 ⟨rfl, hb2⟩
  have B2 := hid (box_below hb2).1
  clear hb2
  have E : Hid (uoverP all s = all.any (ulessP s)) := rfl
  generalize all.any (ulessP s) = q at E
  go_wp2_with fail
  go_ret
  exact ⟨by rw [E.out]; rfl, B2.out⟩
theorem keepU_len (P : Int → Bool) (l : List Int) : (keepU P l).length ≤ l.length := by unfold keepU; exact List.length_filter_le _ _
theorem leastL_len (zs : List Int) : (leastL zs).length ≤ zs.length := by
  unfold leastL
  have h1 := keepU_len (uoverP (compact (srt zs))) (compact (srt zs))
  have h2 := compact_len (srt zs)
  rw [srt_len] at h2
  omega
theorem compact_mem (zs : List Int) (x : Int) : x ∈ compact zs → x ∈ zs := by
  unfold compact compactUpTo
  intro h
  simp only [List.mem_map, List.mem_filter, List.mem_range] at h
  obtain ⟨i, ⟨hi, _⟩, rfl⟩ := h
  rw [getElem!_pos zs.toArray i (by simpa using hi)]
  simp
theorem leastL_sub {zs : List Int} {x : Int} (h : x ∈ leastL zs) : x ∈ zs := by
  unfold leastL keepU at h
  exact srt_mem.1 (compact_mem _ _ (List.mem_filter.1 h).1)
set_option maxRecDepth 100000 in
set_option maxHeartbeats 1000000 in
theorem least_any (zs : List Int) (F : Nat → Prop) (v : Value) (w : World) (hF : ∀ b, F b → b < w.heap.size) (hv : IntsIn .u32 F w v zs) (hz : zs.length ≤ 1000000) :
    Calls Tryd.prog 17 #[v] w fun e w' => ∃ r, e = .returned r ∧ w'.ownsRow w.heap.size 30 1 r (leastL zs).length ((leastL zs).map (Value.int .u32)) ∧ Below w.heap.size w w' := by
  have HF := hid hF
  have H := hid hv
  have HZ := hid hz
  obtain ⟨A0, c0, rfl, _, hwf, _⟩ := hv
  have WF := hid hwf
  clear hF hz hwf
  go_enter Tryd.func17, Tryd.ntmps17
  go_wp2_with fail
  refine (uclone_any zs F _ w HF.out H.out (by have := HZ.out; omega)).mono ?_
  rintro e w1 ⟨r1, rfl, hown, _, hb1⟩
  have O1 := hid hown
  have B1 := hid hb1
  obtain ⟨A1, c1, rfl, _, _⟩ := own_sl hown
  clear hown hb1
  go_wp2_with fail
  refine (usort_any zs zs.length w.heap.size _ w1 rfl O1.out HZ.out).mono ?_
  rintro e w2 ⟨rfl, hown, hg⟩
  have O2 := hid hown
  have B2 := hid (B1.out.grown hg B1.out.size (own_ge O1.out))
  clear hown hg
  go_wp2_with fail
  refine (ucomp_any (srt zs) zs.length w.heap.size _ w2 (srt_len zs) O2.out HZ.out).mono ?_
  rintro e w3 ⟨r3, rfl, hown, hg, _⟩
  have B3 := hid (B2.out.grown hg B2.out.size (own_ge O2.out))
  have CL : Hid ((compact (srt zs)).length ≤ 1000000) := by show _ ≤ _; have := compact_len (srt zs); rw [srt_len] at this; have := HZ.out; omega
  have W3 : Hid (∀ z ∈ compact (srt zs), (Lit.int .u32 z).wf = true) := fun z hz => WF.out z (srt_mem.1 (compact_mem _ _ hz))
  have EL : Hid (leastL zs = keepU (uoverP (compact (srt zs))) (compact (srt zs))) := rfl
  clear hg
  generalize compact (srt zs) = cs at hown CL W3 EL
  have O3 := hid hown
  have I3 := hid (ints_of_own hown W3.out)
  obtain ⟨A3, c3, rfl, _, _⟩ := own_sl hown
  clear hown
  go_wp2_with fail
  refine (uclone_any cs _ _ w3 (fun b h => h.2) I3.out (by have := CL.out; omega)).mono ?_
  rintro e w4 ⟨r4, rfl, hown, _, hb4⟩
  have O4 := hid hown
  have I4 := hid (ints_of_own hown W3.out)
  have s4 := hb4.size
  have B4 := hid hb4
  obtain ⟨A4, c4, rfl, _, _⟩ := own_sl hown
  clear hown hb4
  go_wp2_with fail
  have X5 : (w4.alloc (Obj.cells #[.slice A4 cs.length c4] 22)).cell? ⟨w4.heap.size, 0, none⟩ = some (.slice A4 cs.length c4) := by simp
  have O3' := hid ((own_below O3.out B4.out).alloc (Obj.cells #[.slice A4 cs.length c4] 22))
  have RB : Hid (∀ k, Value.ownBlock (.slice A3 cs.length c3) = some k → k < w3.heap.size) := own_lt O3.out
  refine (udel_any (uoverP cs) 25 _ cs w.heap.size _ (w4.alloc (Obj.cells #[.slice A4 cs.length c4] 22)) O3'.out W3.out (by have := CL.out; omega) (ask_out cs _ w4.heap.size _ _ (by simp) (fun h => by have := RB.out _ h.symm; omega) X5 ((I4.out.keep (fun b hb => Below.heap_alloc _ _ _ hb.2)).more fun b hb => ⟨by simp; have := hb.2; omega, fun h => by have := RB.out _ h.symm; have := hb.1; omega⟩)) (by intro args w; rfl)).mono ?_
  rintro e w5 ⟨r5, rfl, hown, hg, _⟩
  have O5 := hid hown
  have B5 := hid (((B3.out.trans (B4.out.mono B3.out.size)).alloc (Nat.le_trans B3.out.size s4) _).grown hg (by simp; have := B3.out.size; omega) (own_ge O3'.out))
  clear hown hg
  go_wp2_with fail
  go_ret
  exact ⟨_, rfl, by rw [EL.out]; exact O5.out, B5.out⟩
end Go.Proofs.YtfkklhmamhcbhaaDoor
