/- The program's Copy, and the methods at nil, walked. -/
import Derived.Test.YthnmkcofbjgpaaaShelf
import Derived.Test.YthnmkcofbjgpaaaShelfM
import Derived.Test.YthnmkcofbjgpaaaWe
import Derived.Test.YthnmkcofbjgpaaaWi
import Derived.Test.YthnmkcofbjgpaaaMp
import Derived.Deep.RegionHeld3
namespace Go.Proofs.Ythnmkcofbjgpaaa
open Go.RowKit Go.Maps

set_option maxHeartbeats 400000 in
theorem nil_cum (w : World) : Calls Try.prog 14 #[.pointer none] w fun e w' => e = .returned (.int .u32 0) ∧ w = w' := by
  go_enter Try.func14, Try.ntmps14
  go_wp2
  go_ret
  exact ⟨rfl, rfl⟩
set_option maxHeartbeats 400000 in
theorem nil_add (t : Int) (w : World) : Calls Try.prog 8 #[.pointer none, .int .u32 t] w fun e w' => e = .returned (.int .u8 2) ∧ w = w' := by
  go_enter Try.func8, Try.ntmps8
  go_wp2
  go_ret
  exact ⟨rfl, rfl⟩
set_option maxHeartbeats 400000 in
theorem nil_has (t : Int) (w : World) : Calls Try.prog 19 #[.pointer none, .int .u32 t] w fun e w' => e = .returned (.bool false) ∧ w = w' := by
  go_enter Try.func19, Try.ntmps19
  go_wp2
  go_ret
  exact ⟨rfl, rfl⟩
set_option maxHeartbeats 400000 in
theorem nil_next (t : Int) (w : World) : Calls Try.prog 21 #[.pointer none, .int .u32 t] w fun e w' => e = .returned (.bool false) ∧ w = w' := by
  go_enter Try.func21, Try.ntmps21
  go_wp2
  go_ret
  exact ⟨rfl, rfl⟩
set_option maxHeartbeats 400000 in
theorem nil_len (w : World) : Calls Try.prog 18 #[.pointer none] w fun e w' => e = .returned (.int .i64 0) ∧ w = w' := by
  go_enter Try.func18, Try.ntmps18
  go_wp2
  go_ret
  exact ⟨rfl, rfl⟩
set_option maxHeartbeats 400000 in
theorem nil_gaps (w : World) : Calls Try.prog 16 #[.pointer none] w fun e w' => e = .returned (.slice none 0 0) ∧ w = w' := by
  go_enter Try.func16, Try.ntmps16
  go_wp2
  go_ret
  exact ⟨rfl, rfl⟩
set_option maxHeartbeats 400000 in
theorem nil_dups (w : World) : Calls Try.prog 11 #[.pointer none] w fun e w' => e = .returned (.slice none 0 0) ∧ w = w' := by
  go_enter Try.func11, Try.ntmps11
  go_wp2
  go_ret
  exact ⟨rfl, rfl⟩
set_option maxHeartbeats 400000 in
theorem nil_copy (w : World) : Calls Try.prog 13 #[.pointer none] w fun e w' => e = .returned (.pointer none) ∧ w = w' := by
  go_enter Try.func13, Try.ntmps13
  go_wp2
  go_ret
  exact ⟨rfl, rfl⟩

theorem size22 (W : World) : (Go.sizeOf 22).run Try.prog W = .ok 1 W := by kernel_rfl

/-- slices.Clone of a row that is owned, nil or not. -/
theorem clone_row (v : Value) (l : List Nat) (base : Nat) (w : World) (h : w.ownsRow base 22 1 v l.length (u32s l)) (hl : l.length ≤ 1000) :
    Calls Try.prog 25 #[v] w fun e w' => ∃ a c, e = .returned (.slice a l.length c) ∧ w'.ownsRow w.heap.size 22 1 (.slice a l.length c) l.length (u32s l) ∧ Below w.heap.size w w' := by
  obtain ⟨i0, hi, hz0, hz1, hz2⟩ := info_parts info22
  rcases row_cells h with ⟨rfl, hn⟩ | ⟨b, cap, rfl, hb, hc, hf⟩
  · have hl0 : l = [] := List.eq_nil_of_length_eq_zero hn
    subst hl0
    refine (Try.slices_Clone_nil 0 0 w).mono fun e w' ⟨he, hw⟩ => ?_
    subst hw
    exact ⟨none, 0, he, World.ownsRow_nil _ _ _ _, Below.refl _ _⟩
  · refine (Try.slices_Clone i0 (.int .u32 0) 1 4 hi hz0 hz1 hz2 rfl (by decide) size22 b 0 l.length cap (u32s l) w (by simp [u32s]) (by unfold maxLen; omega) (by omega) (fun j u hu => by rw [Nat.zero_add]; exact hc j u hu) ?_).mono fun e w' ⟨v', he, ho, _, hbe⟩ => ?_
    · intro u hu
      obtain ⟨y, _, rfl⟩ := List.mem_map.1 hu
      simp [Value.oneCell']
    · obtain ⟨a, c, rfl⟩ := row_shape ho
      exact ⟨a, c, he, ho, hbe⟩

theorem close_copy {w wm ws : World} {s : GS} {D : DataW Unit} {a5 : Option Addr} {c5 : Nat} (hwf : WF s) (hk : Keys D s.cum s.ways) (hbe1 : Below w.heap.size w wm) (hbe2 : Below w.heap.size w ws) (hm2 : ws.ownsMap Try.prog 22 unitElem w.heap.size s.ways.length D)
    (hrow : ws.ownsRow wm.heap.size 22 1 (.slice a5 s.dups.length c5) s.dups.length (u32s s.dups)) :
    ∃ g' bm' v', Ending.returned (Value.pointer (some ⟨ws.heap.size, 0, none⟩)) = .returned (.pointer (some ⟨g', 0, none⟩)) ∧
      IsSet (ws.alloc (.cells #[.int .u32 (s.cum : Nat), .map (some w.heap.size), .slice a5 s.dups.length c5] 54)) g' bm' v' s ∧ (∀ k, feet g' bm' v' k → w.heap.size ≤ k) ∧ Below w.heap.size w (ws.alloc (.cells #[.int .u32 (s.cum : Nat), .map (some w.heap.size), .slice a5 s.dups.length c5] 54)) := by
  have hrow0 : ws.ownsRow 0 22 1 (.slice a5 s.dups.length c5) s.dups.length (u32s s.dups) := by
    obtain ⟨q1, q2⟩ := hrow
    refine ⟨q1, q2.imp id ?_⟩
    rintro ⟨g', cap, cur, r1, _, r⟩
    exact ⟨g', cap, cur, r1, Nat.zero_le _, r⟩
  refine ⟨ws.heap.size, w.heap.size, .slice a5 s.dups.length c5, rfl, ⟨heap_alloc_new ws _, isMap_iff.2 ⟨D, hm2.alloc _, hk⟩, hrow0.alloc _, ?_, hwf⟩, ?_, hbe2.alloc hbe2.size _⟩
  · intro e
    have := (hrow.lt _ e).2; omega
  · rintro k (rfl | rfl | hk)
    · exact hbe2.size
    · exact Nat.le_refl _
    · exact Nat.le_trans hbe1.size (hrow.lt k hk.symm).1

set_option maxHeartbeats 1600000 in
theorem copy_any (g bm : Nat) (v : Value) (s : GS) (w : World) (h : IsSet w g bm v s) :
    Calls Try.prog 13 #[.pointer (some ⟨g, 0, none⟩)] w fun e w' => ∃ g' bm' v', e = .returned (.pointer (some ⟨g', 0, none⟩)) ∧ IsSet w' g' bm' v' s ∧ (∀ k, feet g' bm' v' k → w.heap.size ≤ k) ∧ Below w.heap.size w w' := by
  obtain ⟨a, cap, rfl⟩ := row_shape h.row
  obtain ⟨c0, c1, c2⟩ := h.cells
  have hgl := lt_of_heap h.blk
  have hdl := h.wf.dlen
  obtain ⟨D, hown, hks⟩ := isMap_iff.1 h.map
  have hml := hown.lt
  have HKS := Lib.hid hks
  clear hks
  go_enter Try.func13, Try.ntmps13
  go_wp2_with fail
  go_region_held3 (fun w' => w'.cell? ⟨g, 0, none⟩ = some (.int .u32 (s.cum : Nat)) ∧ w'.cell? ⟨g, 1, none⟩ = some (.map (some bm)) ∧ w'.cell? ⟨g, 2, none⟩ = some (.slice a s.dups.length cap)) (first | go_keep | (refine ⟨?_, ?_, ?_⟩ <;> (rw [hbe2.cell (by exact hgl)]; assumption)) | (refine ⟨?_, ?_, ?_⟩ <;> (rw [hbe1.cell (by exact hgl)]; assumption))) (first | (go_at_call 24; refine (Try.maps_Clone 22 unitElem bm _ D _ hown.drew).mono ?_; rintro e wm ⟨rfl, hm1, _, hbm⟩; have hbe1 : Below w.heap.size w wm := ⟨hbm.os, hbm.tape, hbm.output, hbm.size, hbm.block⟩) | (go_at_call 24; refine (Try.maps_Clone 22 unitElem bm _ D ws (ownsMap_kept hown (hbe1.block bm hml))).mono ?_; rintro e wm ⟨rfl, hm1, _, hbm⟩; have hbe2 : Below w.heap.size w wm := hbe1.trans (hbm.mono hbe1.size); have hrow2 := ownsRow_kept hrow (fun k hk => hbm.block k (hrow.lt k hk).2)) | (go_at_call 25; refine (clone_row _ s.dups 0 _ (row_drawn h.row 1) (by omega)).mono ?_; rintro e ws ⟨a5, c5, rfl, hrow, hbs⟩; have hbe1 : Below w.heap.size w ws := ⟨hbs.os, hbs.tape, hbs.output, hbs.size, hbs.block⟩) | (go_at_call 25; refine (clone_row _ s.dups 0 wm (ownsRow_kept h.row (fun k hk => hbe1.block k (h.row.lt k hk).2)) (by omega)).mono ?_; rintro e ws ⟨a5, c5, rfl, hrow, hbs⟩; have hbe2 : Below w.heap.size w ws := hbe1.trans (hbs.mono hbe1.size); have hm2 := ownsMap_kept hm1 (hbs.block _ hm1.lt)))
  go_wp2_with fail
  go_ret
  exact close_copy h.wf HKS.out hbe1 hbe2 hm2 hrow

end Go.Proofs.Ythnmkcofbjgpaaa
