/- The program's set: Add, walked. -/
import Derived.Test.YthnmkcofbjgpaaaMp
import Derived.Test.YthnmkcofbjgpaaaWb
import Derived.StillTailTactics
import Derived.Deep.LoopGhost
import Derived.Maps.AppendAt
namespace Go.Proofs.Ythnmkcofbjgpaaa
open Go.RowKit Go.Maps

theorem info22 : (Try.prog.info? 22).map (fun i => (i.zero, i.size, i.bytes)) = some (some (.int .u32 0), 1, 4) := by kernel_rfl

theorem u32s_snoc (l : List Nat) (t : Nat) : u32s l ++ [.int .u32 (t : Int)] = u32s (l ++ [t]) := by simp [u32s]

/-- A store into a cell of the set's own block. -/
theorem setCell_block {w : World} {g : Nat} {cs : Array Value} {ty : TypeId} (h : w.heap[g]? = some (.cells cs ty (0, 0))) (o : Nat) (u : Value) :
    (w.setCell ⟨g, o, none⟩ u).heap[g]? = some (.cells (cs.setIfInBounds o u) ty (0, 0)) := by
  simp [World.setCell, Array.getElem?_modify, h]

/-- A slice's value has its length in sight. -/
theorem row_shape {w : World} {base : Nat} {e : TypeId} {size : Nat} {v : Value} {n : Nat} {xs : List Value} (h : w.ownsRow base e size v n xs) : ∃ a cap, v = .slice a n cap := by
  rcases h.2 with ⟨rfl, rfl⟩ | ⟨g, cap, cur, rfl, _⟩
  · exact ⟨_, _, rfl⟩
  · exact ⟨_, _, rfl⟩

/-- append onto a row that is owned: the new slice's shape is written out. -/
theorem wp_app {P : Program} (w : World) {ops : Array Oper} {rest : List Oper} {o : Oper} {a : Act} {Q : Exit → Act → World → Prop} (hgd : o.guard = none) (s x : Operand) (t : TypeId)
    (ho : o.op = .call { callee := .builtin .append, args := #[s, x], argTypes := #[t, t] })
    (base : Nat) (e : TypeId) (i : TypeInfo) (z : Value) (size bytes : Nat) (ht : P.underlying t = some (.slice e)) (hi : P.info? e = some i) (hz : i.zero = some z)
    (hsize : i.size = size) (hby : i.bytes = bytes) (hzs : z.cells.size = size) (hsz : 0 < size)
    (v : Value) (n : Nat) (xs : List Value) (hs : a.eval s = v) (hown : w.ownsRow base e size v n xs)
    (ad : Addr) (m c : Nat) (news : List Value) (hx : a.eval x = .slice (some ad) m c) (hl : news.length = m * size) (hnews : ∀ j u, news[j]? = some u → w.cell? (ad.add j) = some u) (h1 : ∀ u ∈ news, u.oneCell' = true)
    (h63 : n + m ≤ maxLen) (hbytes : (n + m) * bytes ≤ 140737488355328) (hbase : base ≤ w.heap.size)
    (h : ∀ a' c' w', w'.ownsRow base e size (.slice a' (n + m) c') (n + m) (xs ++ news) → w.grownBy w' v.ownBlock → ((Value.slice a' (n + m) c').ownBlock = v.ownBlock ∨ (Value.slice a' (n + m) c').ownBlock = some w.heap.size) → wpList P ops Q rest (a.put o.dst (.slice a' (n + m) c')) w') : wpList P ops Q (o :: rest) a w := by
  refine wpList_append_own_at w hgd s x t ho base e i z size bytes ht hi hz hsize hby hzs hsz v n xs hs hown ad m c news hx hl hnews h1 h63 hbytes hbase ?_
  intro v' w' h2 h3 _ h5
  obtain ⟨a', c', rfl⟩ := row_shape h2
  exact h a' c' w' h2 h3 h5

theorem cell_of_block {w : World} {g : Nat} {cs : Array Value} {ty : TypeId} {fr : Nat × Nat} (h : w.heap[g]? = some (.cells cs ty fr)) (o : Nat) {u : Value} (hu : cs[o]? = some u) : w.cell? ⟨g, o, none⟩ = some u := by
  simp [World.cell?, h, hu]
theorem free_of_block {w : World} {g : Nat} {cs : Array Value} {ty : TypeId} (h : w.heap[g]? = some (.cells cs ty (0, 0))) (o : Nat) : w.frozen? ⟨g, o, none⟩ = false := by
  simp [World.frozen?, h]

theorem Fr.alloc (S : Nat → Prop) (w : World) (o : Obj) : Fr S w (w.alloc o) := Fr.of_below ((Below.refl _ _).alloc (Nat.le_refl _) o)
theorem Fr.setCell {S : Nat → Prop} (w : World) {p : Addr} (hp : S p.block) (u : Value) : Fr S w (w.setCell p u) :=
  ⟨rfl, rfl, rfl, by simp [World.setCell], fun k _ hk => Below.heap_setCell _ _ _ _ (fun e => hk (e ▸ hp))⟩

theorem IsSet.apart {w : World} {g bm : Nat} {v : Value} {s : GS} (h : IsSet w g bm v s) : bm ≠ g ∧ v.ownBlock ≠ some bm := by
  obtain ⟨D, hown, _⟩ := h.map
  obtain ⟨es, clock, hb, _⟩ := hown
  constructor
  · intro e; rw [e, h.blk] at hb; cases hb
  · intro e
    rcases h.row.2 with ⟨rfl, _⟩ | ⟨g', cap, cur, rfl, _, hg, _⟩
    · cases e
    · simp [Value.ownBlock] at e; rw [e, hb] at hg; cases hg

/-- 's.dups = append(s.dups, t)': what becomes of the set. -/
theorem close_dups {w1 w2 : World} {g bm : Nat} {v v' : Value} {s : GS} {t : Nat} {o : Obj} (ht : t < M32) (h : IsSet w1 g bm v s) (h16 : s.dups.length < 16)
    (hown : w2.ownsRow 0 22 1 v' (s.dups.length + 1) (u32s s.dups ++ [.int .u32 (t : Int)])) (hg : (w1.alloc o).grownBy w2 v.ownBlock) (hl : v'.ownBlock = v.ownBlock ∨ v'.ownBlock = some (w1.alloc o).heap.size) :
    IsSet (w2.setCell ⟨g, 2, none⟩ v') g bm v' { s with dups := s.dups ++ [t] } ∧ Fr (feet g bm v) w1 (w2.setCell ⟨g, 2, none⟩ v') ∧ (∀ k, v'.ownBlock = some k → v.ownBlock = some k ∨ w1.heap.size ≤ k) := by
  have hgl := lt_of_heap h.blk
  have hap := h.apart
  have hml := h.map.lt
  have hb2 := (hg.block g (by simp; omega) (Ne.symm h.ne)).trans ((Below.heap_alloc w1 o _ hgl).trans h.blk)
  have hm2 := (hg.block bm (by simp; omega) (Ne.symm hap.2)).trans (Below.heap_alloc w1 o _ hml)
  have hne : v'.ownBlock ≠ some g := by
    rcases hl with e | e
    · rw [e]; exact h.ne
    · rw [e]; simp; omega
  refine ⟨⟨?_, ?_, ?_, hne, ?_⟩, ?_, ?_⟩
  · rw [setCell_block hb2]; rfl
  · exact h.map.kept ((Below.heap_setCell _ _ _ _ hap.1).trans hm2)
  · rw [show u32s s.dups ++ [Value.int .u32 (t : Int)] = u32s (s.dups ++ [t]) from u32s_snoc _ _] at hown
    have := ownsRow_kept (w' := w2.setCell ⟨g, 2, none⟩ v') hown (fun k hk => Below.heap_setCell _ _ _ _ (fun e => hne (by rw [hk]; exact congrArg some e)))
    simpa using this
  · have := h.wf
    refine ⟨this.cum, this.sorted, this.lo, this.hi, by simp; omega, ?_⟩
    intro x hx
    rcases List.mem_append.1 hx with hx | hx
    · exact this.dlt x hx
    · rw [List.mem_singleton.1 hx]; exact ht
  · exact ((Fr.alloc _ _ _).trans (Fr.of_grown hg (fun k hk _ => Or.inr (Or.inr hk.symm)))).trans (Fr.setCell _ (Or.inl rfl) _)
  · intro k hk
    rcases hl with e | e
    · exact Or.inl (by rw [← e]; exact hk)
    · rw [e] at hk; simp at hk; exact Or.inr (by omega)

theorem addG_there {s : GS} {t : Nat} (h : hasG s t = true) : addG s t = (1, addDup s t) := by unfold addG; rw [if_pos h]

set_option maxHeartbeats 400000 in
theorem add_there (g bm : Nat) (v : Value) (s : GS) (t : Nat) (ht : t < 4294967296) (w : World) (h : IsSet w g bm v s) (hh : hasG s t = true) :
    Calls Try.prog 8 #[.pointer (some ⟨g, 0, none⟩), .int .u32 t] w fun e w' => e = .returned (.int .u8 1) ∧ ∃ v', IsSet w' g bm v' (addG s t).2 ∧ Fr (feet g bm v) w w' ∧ (∀ k, v'.ownBlock = some k → v.ownBlock = some k ∨ w.heap.size ≤ k) := by
  obtain ⟨i0, hi, hz0, hz1, hz2⟩ := info_parts info22
  by_cases h16 : (s.dups.length : Int) < 16
  · obtain ⟨a, cap, rfl⟩ := row_shape h.row
    have hgl := lt_of_heap h.blk
    go_enter Try.func8, Try.ntmps8
    go_wp2_with (first | (go_at_call 19; refine (has_any _ _ _ _ _ ht _ h).mono ?_; rintro e w1 ⟨rfl, hb⟩; have h1 := h.below hb; have c0 := h1.cells.1; have c1 := h1.cells.2.1; have c2 := h1.cells.2.2; have hg1 := lt_of_heap h1.blk) | (at_builtin; refine wp_app _ rfl _ _ 29 rfl 0 22 i0 (.int .u32 0) 1 4 Try.underlying29 hi hz0 hz1 hz2 rfl (by decide) (.slice a s.dups.length cap) _ _ rfl (h1.row.alloc _) ⟨w1.heap.size, 0, none⟩ 1 1 [.int .u32 t] rfl rfl (cell_one_new _ _ _) (by simp [Value.oneCell']) (by unfold maxLen; omega) (by omega) (Nat.zero_le _) ?_; intro a2 cap2 w2 hown2 hgrow2 hloc2; have hb2 := (hgrow2.block g (by simp; omega) (Ne.symm h.ne)).trans ((Below.heap_alloc _ _ _ hg1).trans h1.blk); have d2 := cell_of_block hb2 2 rfl; have f2 := free_of_block hb2 2))
    go_ret
    obtain ⟨r1, r2, r3⟩ := close_dups ht h1 (by omega) hown2 hgrow2 hloc2
    refine ⟨rfl, _, ?_, ((Fr.of_below hb).andThen r2 (fun _ _ h => h)), fun k hk => (r3 k hk).imp id (fun h => Nat.le_trans hb.size h)⟩
    rw [addG_there hh]
    unfold addDup
    rw [if_pos (by omega)]
    exact r1
  · obtain ⟨a, cap, rfl⟩ := row_shape h.row
    go_enter Try.func8, Try.ntmps8
    go_wp2_with (go_at_call 19; refine (has_any _ _ _ _ _ ht _ h).mono ?_; rintro e w1 ⟨rfl, hb⟩; have h1 := h.below hb; have c0 := h1.cells.1; have c1 := h1.cells.2.1; have c2 := h1.cells.2.2)
    go_ret
    refine ⟨rfl, _, ?_, Fr.of_below hb, fun k hk => Or.inl hk⟩
    rw [addG_there hh]
    unfold addDup
    rw [if_neg (by omega)]
    exact h1

set_option maxHeartbeats 400000 in
theorem add_far (g bm : Nat) (v : Value) (s : GS) (t : Nat) (ht : t < 4294967296) (w : World) (h : IsSet w g bm v s) (hh : hasG s t = false) (hf : 65535 < wayN s.cum t) :
    Calls Try.prog 8 #[.pointer (some ⟨g, 0, none⟩), .int .u32 t] w fun e w' => e = .returned (.int .u8 2) ∧ Below w.heap.size w w' := by
  have hcum : s.cum < 4294967296 := h.wf.cum
  go_enter Try.func8, Try.ntmps8
  go_wp2_with (first | (go_at_call 19; refine (has_any _ _ _ _ _ ht _ h).mono ?_; rintro e w1 ⟨rfl, hb⟩; have h1 := h.below hb; have c0 := h1.cells.1; have c1 := h1.cells.2.1; have c2 := h1.cells.2.2) | (go_at_call 22; refine (span_any _ _ _ hcum ht).mono ?_; rintro e w' ⟨rfl, rfl⟩))
  go_ret
  exact ⟨rfl, hb⟩

end Go.Proofs.Ythnmkcofbjgpaaa
