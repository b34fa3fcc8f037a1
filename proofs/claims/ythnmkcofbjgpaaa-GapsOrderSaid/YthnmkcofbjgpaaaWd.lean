/- The program's set: Add of a TSN that is new, walked. -/
import Derived.Test.YthnmkcofbjgpaaaWc
import Derived.BigRegion
namespace Go.Proofs.Ythnmkcofbjgpaaa
open Go.RowKit Go.Maps

/-- What holds at the head of the loop: k rounds at most are to come. -/
structure AddRel (w : World) (g bm : Nat) (v : Value) (c0 : Nat) (l0 : List Nat) (k : Nat) (wr : World) : Prop where
  lt : ∃ cum l n, k = l.length + 1 ∧ cum < M32 ∧ wr.heap[g]? = some (.cells #[.int .u32 (cum : Nat), .map (some bm), v] 54 (0, 0)) ∧ IsMap wr bm cum l ∧ l.Pairwise (· < ·) ∧ (∀ x ∈ l, 1 ≤ x) ∧ (∀ x ∈ l, x ≤ 65535) ∧
    cum = (c0 + n) % M32 ∧ runW l0.length l0 = ((runW l.length l).1 + n, (runW l.length l).2)
  fr : Fr (fun i => i = g ∨ i = bm) w wr

theorem addRel_start {w w1 w2 : World} {g bm : Nat} {v : Value} {s : GS} {t : Nat} {D : DataW Unit} {d : DataW Unit} {n : Nat} (ht : t < M32) (hh : hasG s t = false) (hf : ¬ 65535 < wayN s.cum t) (hb : Below w.heap.size w w1) (h1 : IsSet w1 g bm v s)
    (hown : w1.ownsMap Try.prog 22 unitElem bm n D) (hk : Keys D s.cum s.ways) (h2 : w2.ownsMap Try.prog 22 unitElem bm (n + 1) (D.put (.int .u32 t) d)) (hgr : w1.grownBy w2 (some bm)) :
    AddRel w g bm v s.cum (insW (wayN s.cum t) s.ways) ((insW (wayN s.cum t) s.ways).length + 1) w2 := by
  unfold hasG at hh
  simp only [Bool.or_eq_false_iff, List.contains_eq_mem, decide_eq_false_iff_not, beq_eq_false_iff_ne] at hh
  have hcum := h1.wf.cum
  have hp := sorted_insW h1.wf.sorted hh.1.1
  refine ⟨⟨s.cum, _, 0, rfl, hcum, ?_, isMap_of h2 (hk.put (hown.tidy law22) hcum ht hh.1.1 d), hp, ?_, ?_, by rw [Nat.add_zero, Nat.mod_eq_of_lt hcum], rfl⟩, ?_⟩
  · exact (hgr.block g (lt_of_heap h1.blk) (by have := h1.apart.1; simp; omega)).trans h1.blk
  · intro x hx
    rcases mem_insW.1 hx with rfl | hx
    · unfold wayN M32 at *; omega
    · have := h1.wf.lo x hx; omega
  · intro x hx
    rcases mem_insW.1 hx with rfl | hx
    · omega
    · exact h1.wf.hi x hx
  · exact (Fr.of_below hb).andThen (Fr.of_grown (S := fun i => i = g ∨ i = bm) hgr (fun k hk _ => Or.inr (by cases hk; rfl))) (fun _ _ h => h)

theorem addRel_step {w wr W w4 : World} {g bm : Nat} {v : Value} {c0 : Nat} {l0 l : List Nat} {gk cum n : Nat} {D : DataW Unit} (hk : gk = l.length + 1) (hp : l.Pairwise (· < ·)) (h1 : ∀ x ∈ l, 1 ≤ x) (hi : ∀ x ∈ l, x ≤ 65535) (hin : 1 ∈ l) (hc : cum < M32)
    (hks : Keys D cum l) (hn : cum = (c0 + n) % M32) (hr : runW l0.length l0 = ((runW l.length l).1 + n, (runW l.length l).2)) (hfr : Fr (fun i => i = g ∨ i = bm) w wr) (hfW : Fr (fun i => i = g ∨ i = bm) wr W) (hap : bm ≠ g)
    (hbW : W.heap[g]? = some (.cells #[.int .u32 (((cum + 1) % M32 : Nat) : Int), .map (some bm), v] 54 (0, 0))) (hoW : W.ownsMap Try.prog 22 unitElem bm l.length D)
    (h4 : w4.ownsMap Try.prog 22 unitElem bm l.length (D.del (.int .u32 ((cum + 1) % M32 : Nat)))) (ht4 : W.drew.mapTurned w4 bm) : AddRel w g bm v c0 l0 (gk - 1) w4 := by
  obtain ⟨r, rfl, hr2, hrp⟩ := head_one hp h1 hin
  have hg4 := ht4.grown
  have e := runW_one r.length r
  have el : (1 :: r).length = r.length + 1 := rfl
  refine ⟨⟨(cum + 1) % M32, r.map (· - 1), n + 1, by simp [hk], Nat.mod_lt _ (by decide), ?_, isMap_of h4 (hks.del (hoW.tidy law22) hc hr2 (fun x hx => hi x (List.mem_cons_of_mem _ hx))), ?_, ?_, ?_, ?_, ?_⟩, ?_⟩
  · exact (hg4.block g (lt_of_heap hbW) (by simp; omega)).trans hbW
  · rw [List.pairwise_map]
    refine hrp.imp_of_mem fun {a b} ha hb hab => ?_
    have := hr2 a ha; omega
  · intro x hx
    obtain ⟨z, hz, rfl⟩ := List.mem_map.1 hx
    have := hr2 z hz; omega
  · intro x hx
    obtain ⟨z, hz, rfl⟩ := List.mem_map.1 hx
    have := hi z (List.mem_cons_of_mem _ hz); omega
  · rw [hn]; unfold M32; omega
  · rw [hr, el, e, List.length_map, Nat.add_assoc, Nat.add_comm 1 n]
  · exact ((hfr.trans hfW).drew).trans (Fr.of_grown hg4 (fun k hk _ => Or.inr (by cases hk; rfl)))

theorem addRel_end {w wr W : World} {g bm : Nat} {v : Value} {s : GS} {t : Nat} {l : List Nat} {cum n : Nat} (h : IsSet w g bm v s) (ht : t < M32) (hh : hasG s t = false) (hf : ¬ 65535 < wayN s.cum t) (hin : 1 ∉ l)
    (hm : IsMap wr bm cum l) (hn : cum = (s.cum + n) % M32) (hr : runW (insW (wayN s.cum t) s.ways).length (insW (wayN s.cum t) s.ways) = ((runW l.length l).1 + n, (runW l.length l).2)) (hfr : Fr (fun i => i = g ∨ i = bm) w wr)
    (hb : wr.heap[g]? = some (.cells #[.int .u32 (cum : Nat), .map (some bm), v] 54 (0, 0))) (hW : Below wr.heap.size wr W) : IsSet W g bm v (addG s t).2 ∧ Fr (feet g bm v) w W := by
  have hw := h.wf.addG ht
  have hap := h.apart
  have hfW : Fr (feet g bm v) w W := (hfr.mono (fun k _ hk => hk.elim Or.inl (fun e => Or.inr (Or.inl e)))).andThen (Fr.of_below hW) (fun _ _ h => h)
  refine ⟨?_, hfW⟩
  have e : addG s t = (0, { cum := cum, ways := l, dups := s.dups }) := by
    unfold addG
    rw [if_neg (by rw [hh]; simp), if_neg hf]
    simp only [hr, runW_stop _ l hin, hn]
    simp
  rw [e] at hw ⊢
  have hrow : W.ownsRow 0 22 1 v s.dups.length (u32s s.dups) := by
    refine ownsRow_kept h.row (fun k hk => ?_)
    have hlt := h.row.lt k hk
    refine (hW.block k (Nat.lt_of_lt_of_le hlt.2 hfr.size)).trans (hfr.block k hlt.2 ?_)
    rintro (e' | e')
    · exact h.ne (by rw [hk, e'])
    · exact hap.2 (by rw [hk, e'])
  exact ⟨(hW.block g (lt_of_heap hb)).trans hb, hm.kept (hW.block bm hm.lt), hrow, h.ne, hw⟩

theorem cast_next (c : Nat) : (((c : Int) + 1) % 4294967296) = (((c + 1) % M32 : Nat) : Int) := by unfold M32; omega

theorem run_next {w : World} {bm cum n : Nat} {l : List Nat} {D : DataW Unit} (h : w.ownsMap Try.prog 22 unitElem bm n D) (k : Keys D cum l) (hc : cum < M32) (b : Bool) (hb : decide (1 ∈ l) = b) :
    (Instr.lookup 52 (.map (some bm)) (.int .u32 (((cum : Int) + 1) % 4294967296)) true).run Try.prog w = .ok (.tuple #[.agg #[], .bool b]) w := by
  obtain ⟨v, ps, hrun, hR⟩ := h.look_ok law22 Try.underlying52 (zero56 w) unitElem_mk (keyU ((cum + 1) % M32) (Nat.mod_lt _ (by decide)))
  obtain ⟨rfl, _⟩ := unitElem_inv hR
  rw [cast_next, hrun, k.next hc, hb]

set_option maxHeartbeats 400000 in
theorem add_fresh (g bm : Nat) (v : Value) (s : GS) (t : Nat) (ht : t < 4294967296) (w : World) (h : IsSet w g bm v s) (hh : hasG s t = false) (hf : ¬ 65535 < wayN s.cum t) :
    Calls Try.prog 8 #[.pointer (some ⟨g, 0, none⟩), .int .u32 t] w fun e w' => e = .returned (.int .u8 0) ∧ IsSet w' g bm v (addG s t).2 ∧ Fr (feet g bm v) w w' := by
  have hcum : s.cum < 4294967296 := h.wf.cum
  have hwl := h.wf.wlen
  go_enter Try.func8, Try.ntmps8
  go_wp2_with (first | (go_at_call 19; refine (has_any _ _ _ _ _ ht _ h).mono ?_; rintro e w1 ⟨rfl, hb⟩; have h1 := h.below hb; have c0 := h1.cells.1; have c1 := h1.cells.2.1; have c2 := h1.cells.2.2; obtain ⟨D, hown, hkeys⟩ := isMap_iff.1 h1.map) | (go_at_call 22; refine (span_any _ _ _ hcum ht).mono ?_; rintro e w' ⟨rfl, rfl⟩) | (at_mapUpdate; refine wpList_mapUpdate_own _ rfl _ _ _ 52 rfl 22 56 law22 Try.underlying52 unitElem bm _ _ rfl hown (by unfold maxLen; omega) _ _ _ rfl rfl (keyU t ht) _ [] unitElem_mk ?_; intro w2 hown2 hgrow2; go_frame))
  go_loopg [] ((insW (wayN s.cum t) s.ways).length + 1) (fun k wr => AddRel w g bm v s.cum (insW (wayN s.cum t) s.ways) k wr)
  case atStart => exact addRel_start ht hh hf hb h1 hown hkeys hown2 hgrow2
  case round =>
    obtain ⟨⟨cum, l, n, hk, hc, hblk, hmap, hp, h1l, hil, hcn, hrw⟩, hfr⟩ := hrel
    obtain ⟨D2, hown3, hkeys2⟩ := isMap_iff.1 hmap
    have HD := Lib.hid hcn
    have HR := Lib.hid hrw
    have HK := Lib.hid hk
    clear hcn hrw hk hown2 hgrow2
    have e0 := cell_of_block hblk 0 rfl
    have e1 := cell_of_block hblk 1 rfl
    have f0 := free_of_block hblk 0
    have hgl := lt_of_heap hblk
    have hapart := h.apart.1
    have HKS := Lib.hid hkeys2
    have HP := Lib.hid hp
    have HI := Lib.hid hil
    have H1 := Lib.hid h1l
    have HB := Lib.hid hblk
    have HM := Lib.hid hmap
    by_cases hin : 1 ∈ l
    · have r1 := run_next (w := wr.drew) hown3.drew hkeys2 hc true (decide_eq_true hin)
      have r2 := run_next (w := (wr.alloc (.cells #[] 56)).drew) (hown3.alloc _).drew hkeys2 hc true (decide_eq_true hin)
      have HIN := Lib.hid hin
      clear hin hblk hp hil hmap hkeys2 h1l c0 c1 c2
      go_wp2
      go_region
      all_goals go_wp2
      all_goals
        obtain ⟨W, hW⟩ : ∃ W, W = ((wr.setCell ⟨g, 0, none⟩ (.int .u32 (((cum : Int) + 1) % 4294967296))).alloc (.cells #[] 56)).drew := ⟨_, rfl⟩
        rw [← hW]
        have hbW : W.heap[g]? = some (.cells #[.int .u32 (((cum + 1) % M32 : Nat) : Int), .map (some bm), v] 54 (0, 0)) := by
          rw [hW, ← cast_next]
          refine (Below.heap_alloc (wr.setCell _ _) _ _ (by simpa [World.setCell] using hgl)).trans ?_
          rw [setCell_block HB.out]; rfl
        have hmW : W.heap[bm]? = wr.heap[bm]? := by
          rw [hW]
          exact (Below.heap_alloc (wr.setCell _ _) _ _ (by simpa [World.setCell] using hown3.lt)).trans (Below.heap_setCell _ _ _ _ hapart)
        have hfW : Fr (fun i => i = g ∨ i = bm) wr W := by
          rw [hW]
          exact (Fr.setCell (S := fun i => i = g ∨ i = bm) wr (p := ⟨g, 0, none⟩) (Or.inl rfl) _).trans (Fr.drew (Fr.alloc _ _ _))
        have hoW := ownsMap_kept hown3 hmW
        have HBW := Lib.hid hbW
        clear e0 e1
        have e0 := cell_of_block hbW 0 rfl
        have e1 := cell_of_block hbW 1 rfl
        clear hW hmW hbW r1 r2
        have e0' : ({ heap := W.heap, tape := W.tape, drawn := W.drawn + 1, os := W.os, output := W.output } : World).cell? ⟨g, 0, none⟩ = _ := e0
        have e1' : ({ heap := W.heap, tape := W.tape, drawn := W.drawn + 1, os := W.os, output := W.output } : World).cell? ⟨g, 1, none⟩ = _ := e1
        go_still_tail 8, (by kernel_rfl)
        change wpList _ _ _ _ _ W.drew
        clear e0' e1'
        go_wp2_with (at_delete; refine wpList_delete_own _ rfl _ _ 52 22 rfl 56 law22 Try.underlying52 unitElem bm _ _ rfl hoW.drew _ _ rfl (keyU ((cum + 1) % M32) (Nat.mod_lt _ (by decide))) ?_; intro w4 hown4 hturn4)
        go_roundg (gk - 1)
        case measure => have := HK.out; omega
        case rel => exact addRel_step HK.out HP.out H1.out HI.out HIN.out hc HKS.out HD.out HR.out hfr hfW hapart HBW.out hoW hown4 hturn4
    · have r1 := run_next (w := wr.drew) hown3.drew hkeys2 hc false (decide_eq_false hin)
      have r2 := run_next (w := (wr.alloc (.cells #[] 56)).drew) (hown3.alloc _).drew hkeys2 hc false (decide_eq_false hin)
      have HIN := Lib.hid hin
      clear hin hblk hp hil hmap hkeys2 h1l c0 c1 c2
      go_wp2
      go_region
      all_goals go_wp2
      all_goals go_ret
      all_goals
        refine ⟨rfl, addRel_end h ht hh hf HIN.out HM.out HD.out HR.out hfr HB.out ?_⟩
        exact ((Below.refl _ _).alloc (Nat.le_refl _) _).drew

/-- Add: what it tells, and how the set stands behind it. -/
theorem add_any (g bm : Nat) (v : Value) (s : GS) (t : Nat) (ht : t < 4294967296) (w : World) (h : IsSet w g bm v s) :
    Calls Try.prog 8 #[.pointer (some ⟨g, 0, none⟩), .int .u32 t] w fun e w' => e = .returned (.int .u8 ((addG s t).1 : Nat)) ∧ ∃ v', IsSet w' g bm v' (addG s t).2 ∧ Fr (feet g bm v) w w' ∧ (∀ k, v'.ownBlock = some k → v.ownBlock = some k ∨ w.heap.size ≤ k) := by
  rcases Bool.eq_false_or_eq_true (hasG s t) with hh | hh
  · refine (add_there g bm v s t ht w h hh).mono fun e w' ⟨he, h'⟩ => ⟨?_, h'⟩
    rw [he, addG_there hh]; rfl
  · by_cases hf : 65535 < wayN s.cum t
    · have e1 : addG s t = (2, s) := by unfold addG; rw [if_neg (by rw [hh]; simp), if_pos hf]
      refine (add_far g bm v s t ht w h hh hf).mono fun e w' ⟨he, hb⟩ => ⟨?_, v, ?_, Fr.of_below hb, fun k hk => Or.inl hk⟩
      · rw [he, e1]; rfl
      · rw [e1]; exact h.below hb
    · have e1 : (addG s t).1 = 0 := by unfold addG; rw [if_neg (by rw [hh]; simp), if_neg hf]
      refine (add_fresh g bm v s t ht w h hh hf).mono fun e w' ⟨he, h2, h3⟩ => ⟨?_, v, h2, h3, fun k hk => Or.inl hk⟩
      rw [he, e1]; rfl

end Go.Proofs.Ythnmkcofbjgpaaa
