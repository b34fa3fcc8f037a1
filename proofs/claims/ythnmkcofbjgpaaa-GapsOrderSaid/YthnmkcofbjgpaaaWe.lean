/- The program's Dups; the reference's Take, way, Has, walked. -/
import Derived.Test.YthnmkcofbjgpaaaWc
namespace Go.Proofs.Ythnmkcofbjgpaaa
open Go.RowKit Go.Maps

/-- What a row that is owned holds, cell by cell. -/
theorem row_cells {w : World} {base : Nat} {e : TypeId} {v : Value} {n : Nat} {xs : List Value} (h : w.ownsRow base e 1 v n xs) :
    (v = .slice none 0 0 ∧ n = 0) ∨ ∃ b cap, v = .slice (some ⟨b, 0, none⟩) n cap ∧ b < w.heap.size ∧ (∀ i (u : Value), xs[i]? = some u → w.cell? ⟨b, i, none⟩ = some u) ∧ (∀ i, w.frozen? ⟨b, i, none⟩ = false) := by
  have hc := h
  rcases h.2 with ⟨rfl, rfl⟩ | ⟨g, cap, cur, rfl, h1, h2, _⟩
  · exact Or.inl ⟨rfl, rfl⟩
  · refine Or.inr ⟨g, cap, rfl, lt_of_heap h2, fun i u hu => ?_, fun i => by simp [World.frozen?, h2]⟩
    have := hc.cells (g := g) rfl i u hu
    have hadd : (⟨g, 0, none⟩ : Addr).add i = ⟨g, i, none⟩ := by unfold Addr.add; split <;> simp_all
    rwa [hadd] at this

/-- .. nil or not, in one word. -/
theorem row_reads {w : World} {base : Nat} {e : TypeId} {v : Value} {n : Nat} {xs : List Value} (h : w.ownsRow base e 1 v n xs) :
    ∃ a cap, v = .slice a n cap ∧ ∀ i (u : Value), xs[i]? = some u → ∃ b, a = some ⟨b, 0, none⟩ ∧ w.cell? ⟨b, i, none⟩ = some u := by
  have hl := h.1
  rcases row_cells h with ⟨rfl, rfl⟩ | ⟨b, cap, rfl, _, h1, _⟩
  · refine ⟨none, 0, rfl, fun i u hu => ?_⟩
    rw [List.eq_nil_of_length_eq_zero (by omega : xs.length = 0)] at hu
    simp at hu
  · exact ⟨_, cap, rfl, fun i u hu => ⟨b, rfl, h1 i u hu⟩⟩

theorem u32s_get (l : List Nat) (i : Nat) (h : i < l.length) : (u32s l)[i]? = some (.int .u32 (l.getD i 0 : Nat)) := by
  simp [u32s, List.getElem?_map, List.getElem?_eq_getElem h]
theorem i64s_get (l : List Nat) (i : Nat) (h : i < l.length) : (i64s l)[i]? = some (.int .i64 (l.getD i 0 : Nat)) := by
  simp [i64s, List.getElem?_map, List.getElem?_eq_getElem h]

theorem close_take {w : World} {g bm : Nat} {v : Value} {s : GS} (h : IsSet w g bm v s) :
    IsSet (w.setCell ⟨g, 2, none⟩ (.slice none 0 0)) g bm (.slice none 0 0) { s with dups := [] } ∧ (w.setCell ⟨g, 2, none⟩ (.slice none 0 0)).ownsRow 0 22 1 v s.dups.length (u32s s.dups) := by
  have hap := h.apart
  refine ⟨⟨?_, h.map.kept (Below.heap_setCell _ _ _ _ hap.1), World.ownsRow_nil _ _ _ _, by simp [Value.ownBlock], ?_⟩, ?_⟩
  · rw [setCell_block h.blk]; rfl
  · have := h.wf
    exact ⟨this.cum, this.sorted, this.lo, this.hi, by simp, by simp⟩
  · exact ownsRow_kept h.row (fun k hk => Below.heap_setCell _ _ _ _ (fun e => h.ne (by rw [hk]; exact congrArg some e)))

set_option maxHeartbeats 400000 in
theorem dups_any (g bm : Nat) (v : Value) (s : GS) (w : World) (h : IsSet w g bm v s) :
    Calls Try.prog 11 #[.pointer (some ⟨g, 0, none⟩)] w fun e w' => e = .returned v ∧ IsSet w' g bm (.slice none 0 0) { s with dups := [] } ∧ Fr (fun k => k = g) w w' ∧ w'.ownsRow 0 22 1 v s.dups.length (u32s s.dups) := by
  obtain ⟨a, cap, rfl⟩ := row_shape h.row
  obtain ⟨c0, c1, c2⟩ := h.cells
  have f2 := h.free 2
  go_enter Try.func11, Try.ntmps11
  go_wp2
  go_ret
  obtain ⟨r1, r2⟩ := close_take h
  exact ⟨rfl, r1, Fr.setCell (S := fun k => k = g) _ (p := ⟨g, 2, none⟩) rfl _, r2⟩

theorem close_takeR {w : World} {g : Nat} {u v : Value} {s : GS} (h : IsRef w g u v s) :
    IsRef (w.setCell ⟨g, 2, none⟩ (.slice none 0 0)) g u (.slice none 0 0) { s with dups := [] } ∧ (w.setCell ⟨g, 2, none⟩ (.slice none 0 0)).ownsRow 0 22 1 v s.dups.length (u32s s.dups) := by
  refine ⟨⟨?_, ?_, World.ownsRow_nil _ _ _ _, h.neu, by simp [Value.ownBlock], ?_, ?_⟩, ?_⟩
  · rw [setCell_block h.blk]; rfl
  · exact ownsRow_kept h.ways (fun k hk => Below.heap_setCell _ _ _ _ (fun e => h.neu (by rw [hk]; exact congrArg some e)))
  · cases e : u.ownBlock
    · exact Or.inl rfl
    · exact Or.inr (by simp [Value.ownBlock])
  · have := h.wf
    exact ⟨this.cum, this.sorted, this.lo, this.hi, by simp, by simp⟩
  · exact ownsRow_kept h.row (fun k hk => Below.heap_setCell _ _ _ _ (fun e => h.nev (by rw [hk]; exact congrArg some e)))

set_option maxHeartbeats 400000 in
theorem take_any (g : Nat) (u v : Value) (s : GS) (w : World) (h : IsRef w g u v s) :
    Calls Try.prog 12 #[.pointer (some ⟨g, 0, none⟩)] w fun e w' => e = .returned v ∧ IsRef w' g u (.slice none 0 0) { s with dups := [] } ∧ Fr (fun k => k = g) w w' ∧ w'.ownsRow 0 22 1 v s.dups.length (u32s s.dups) := by
  obtain ⟨a, cap, rfl⟩ := row_shape h.row
  obtain ⟨c0, c1, c2⟩ := h.cells
  have f2 := h.free 2
  go_enter Try.func12, Try.ntmps12
  go_wp2
  go_ret
  obtain ⟨r1, r2⟩ := close_takeR h
  exact ⟨rfl, r1, Fr.setCell (S := fun k => k = g) _ (p := ⟨g, 2, none⟩) rfl _, r2⟩

set_option maxHeartbeats 400000 in
theorem way_any (g : Nat) (u v : Value) (s : GS) (t : Nat) (ht : t < 4294967296) (w : World) (h : IsRef w g u v s) :
    Calls Try.prog 23 #[.pointer (some ⟨g, 0, none⟩), .int .u32 t] w fun e w' => e = .returned (.int .i64 (wayN s.cum t : Nat)) ∧ w = w' := by
  obtain ⟨c0, c1, c2⟩ := h.cells
  have hcum : s.cum < 4294967296 := h.wf.cum
  go_enter Try.func23, Try.ntmps23
  go_wp2_with (go_at_call 29; refine (Way_any _ _ _ hcum ht).mono ?_; rintro e w' ⟨rfl, rfl⟩)
  go_ret
  exact ⟨rfl, rfl⟩

theorem hasG_eq (s : GS) (t : Nat) (hc : s.cum < M32) (ht : t < M32) : hasG s t = (s.ways.contains (wayN s.cum t) || ((wayN s.cum t == 0) || decide (2147483648 < wayN s.cum t))) := by
  unfold hasG
  rw [Bool.or_assoc]
  have : (t == s.cum) = (wayN s.cum t == 0) := by
    rw [Bool.eq_iff_iff]; simp only [beq_iff_eq]; unfold wayN M32 at *; omega
  rw [this]

theorem has_found {s : GS} {t k : Nat} (hk : k < s.ways.length) (he : ((s.ways[k] : Nat) : Int) == ((wayN s.cum t : Nat) : Int)) : hasG s t = true := by
  have e : s.ways[k] = wayN s.cum t := by simp at he; omega
  unfold hasG
  have : wayN s.cum t ∈ s.ways := by rw [← e]; exact List.getElem_mem hk
  simp [this]

theorem has_not {s : GS} {t : Nat} (h : ∀ j, j < s.ways.length → s.ways.getD j 0 ≠ wayN s.cum t) : s.ways.contains (wayN s.cum t) = false := by
  rw [List.contains_eq_mem, decide_eq_false_iff_not]
  intro hm
  obtain ⟨j, hj, e⟩ := List.mem_iff_getElem.1 hm
  refine h j hj ?_
  rw [List.getD_eq_getElem?_getD, List.getElem?_eq_getElem hj]
  exact e

set_option maxHeartbeats 800000 in
theorem refHas_any (g : Nat) (u v : Value) (s : GS) (t : Nat) (ht : t < 4294967296) (w : World) (h : IsRef w g u v s) :
    Calls Try.prog 20 #[.pointer (some ⟨g, 0, none⟩), .int .u32 t] w fun e w' => e = .returned (.bool (hasG s t)) ∧ w = w' := by
  obtain ⟨a, cap, rfl, hcell⟩ := row_reads h.ways
  obtain ⟨c0, c1, c2⟩ := h.cells
  have hcum : s.cum < 4294967296 := h.wf.cum
  have hwl := h.wf.wlen
  have HE := Lib.hid (hasG_eq s t h.wf.cum ht)
  have HC := Lib.hid hcell
  clear hcell
  rcases Bool.eq_false_or_eq_true ((wayN s.cum t : Int) == 0) with h0 | h0
  all_goals
    go_enter Try.func20, Try.ntmps20
    go_wp2_with (go_at_call 23; refine (way_any _ _ _ _ _ ht _ h).mono ?_; rintro e w' ⟨rfl, rfl⟩)
    go_loop [6] (fun i => ∃ k : Nat, k ≤ s.ways.length ∧ i = .int .i64 k ∧ ∀ j, j < k → s.ways.getD j 0 ≠ wayN s.cum t) (fun i => s.ways.length - (intOf i).toNat)
    case atStart => exact ⟨0, Nat.zero_le _, rfl, by intro j hj; omega⟩
    case round =>
      obtain ⟨k, hk, rfl, hall⟩ := hrel
      have HA := Lib.hid hall
      clear hall
      by_cases hlt : k < s.ways.length
      · obtain ⟨b, rfl, hk⟩ := HC.out k _ (i64s_get _ _ hlt)
        go_wp2
        · go_ret
          exact ⟨ret_bool (has_found hlt (by assumption)).symm, rfl⟩
        · have hne : ((s.ways[k] : Nat) : Int) == ((wayN s.cum t : Nat) : Int) ↔ False := by simp only [Bool.false_eq_true, *]
          go_round
          case rel =>
            refine ⟨k + 1, by omega, by go_num, ?_⟩
            intro j hj
            by_cases e : j = k
            · subst e
              intro e'
              refine hne.1 ?_
              rw [List.getD_eq_getElem?_getD, List.getElem?_eq_getElem hlt] at e'
              simp only [Option.getD_some] at e'
              rw [e']; simp
            · exact HA.out j (by omega)
          case measure => simp [intOf]; omega
      · go_wp2_with (go_at_call 28; refine (before32_any _ _ _ ht hcum).mono ?_; rintro e w' ⟨rfl, rfl⟩)
        go_ret
        refine ⟨ret_bool ?_, rfl⟩
        have e1 := HE.out
        rw [has_not (fun j hj => HA.out j (by omega))] at e1
        rw [e1]
        simp at h0
        simp [h0]

end Go.Proofs.Ythnmkcofbjgpaaa
