/- The reference's set: Add, walked. -/
import Derived.Test.YthnmkcofbjgpaaaWe
import Derived.Deep.RegionHeld3
import Derived.Deep.LoopGhost
namespace Go.Proofs.Ythnmkcofbjgpaaa
open Go.RowKit Go.Maps

theorem info2 : (Try.prog.info? 2).map (fun i => (i.zero, i.size, i.bytes)) = some (some (.int .i64 0), 1, 8) := by kernel_rfl

/-- append of whatever a slice reads as, onto a row that is owned, IN A REGION THAT DRAWS. -/
theorem step_app {P : Program} {w : World} {ops : Array Oper} {o : Oper} {a : Act} {K : Act → World → Prop} {Q : Exit → Act → World → Prop} {E : Prop} (hgd : o.guard = none) (s x : Operand) (t : TypeId)
    (ho : o.op = .call { callee := .builtin .append, args := #[s, x], argTypes := #[t, t] })
    (base : Nat) (e : TypeId) (i : TypeInfo) (z : Value) (bytes : Nat) (ht : P.underlying t = some (.slice e)) (hi : P.info? e = some i) (hz : i.zero = some z)
    (hsize : i.size = 1) (hby : i.bytes = bytes) (hzs : z.cells.size = 1)
    (v : Value) (n : Nat) (xs : List Value) (hs : a.eval s = v) (hown : w.ownsRow base e 1 v n xs)
    (xa : Option Addr) (m c : Nat) (news : List Value) (hx : a.eval x = .slice xa m c) (hl : news.length = m) (hc : xa = none → c = 0) (hnews : ∀ ad, xa = some ad → ∀ j u, news[j]? = some u → w.cell? (ad.add j) = some u) (hnone : xa = none → m = 0) (h1 : ∀ u ∈ news, u.oneCell' = true)
    (h63 : n + m ≤ maxLen) (hbytes : (n + m) * bytes ≤ 140737488355328) (hbase : base ≤ w.heap.size)
    (h : ∀ a' c' w', w'.ownsRow base e 1 (.slice a' (n + m) c') (n + m) (xs ++ news) → w.grownBy w' v.ownBlock → ((Value.slice a' (n + m) c').ownBlock = v.ownBlock ∨ (Value.slice a' (n + m) c').ownBlock = some w.heap.size) → K (a.put o.dst (.slice a' (n + m) c')) w') :
    if Region.wanted o (yielded ops a.tmps) = true then Oper.wp P o a w K Q else E := by
  have hw : Region.wanted o (yielded ops a.tmps) = true := by simp [Region.wanted, hgd]
  rw [if_pos hw]
  have key : ∃ v' w', (Builtin.append_ #[t, t] o.type #[v, .slice xa m c]).run P w = .ok v' w' ∧ w'.ownsRow base e 1 v' (n + m) (xs ++ news) ∧ w.grownBy w' v.ownBlock ∧ (v'.ownBlock = v.ownBlock ∨ v'.ownBlock = some w.heap.size) := by
    cases xa with
    | some ad =>
      obtain ⟨v', w', hr, h2, h3, _, h5⟩ := run_append_own_at (P := P) w base t o.type e i z 1 bytes ht hi hz hsize hby hzs (by decide) v n xs hown ad m c news (by omega) (hnews ad rfl) h1 h63 hbytes hbase
      exact ⟨v', w', hr, h2, h3, h5⟩
    | none =>
      have hm := hnone rfl
      have hcc := hc rfl
      subst hm hcc
      have hn0 : news = [] := List.eq_nil_of_length_eq_zero hl
      subst hn0
      refine ⟨v, w, run_append_owned_none (P := P) (w := w) base t o.type e i 1 ht hi v n xs hown, by simpa using hown, ⟨rfl, rfl, rfl, Nat.le_refl _, fun _ _ _ => rfl⟩, Or.inl rfl⟩
  obtain ⟨v', w', hr, h2, h3, h5⟩ := key
  obtain ⟨a', c', rfl⟩ := row_shape h2
  unfold Oper.wp execOp
  simp only [ho, resolve, invoke, builtin, Sem.run_bind, Sem.run_pure, Result.andThen_ok, List.map_toArray, List.map_cons, List.map_nil, hs, hx, hr]
  exact h a' c' w' h2 h3 h5

/-- 's.Dups = append(s.Dups, t)': what becomes of the reference's set. -/
theorem close_dupsR {w1 w2 : World} {g : Nat} {u v v' : Value} {s : GS} {t : Nat} {o : Obj} (ht : t < M32) (h : IsRef w1 g u v s) (h16 : s.dups.length < 16)
    (hown : w2.ownsRow 0 22 1 v' (s.dups.length + 1) (u32s s.dups ++ [.int .u32 (t : Int)])) (hg : (w1.alloc o).grownBy w2 v.ownBlock) (hl : v'.ownBlock = v.ownBlock ∨ v'.ownBlock = some (w1.alloc o).heap.size) :
    IsRef (w2.setCell ⟨g, 2, none⟩ v') g u v' { s with dups := s.dups ++ [t] } ∧ Fr (feetR g u v) w1 (w2.setCell ⟨g, 2, none⟩ v') ∧ (∀ k, v'.ownBlock = some k → v.ownBlock = some k ∨ w1.heap.size ≤ k) := by
  have hgl := lt_of_heap h.blk
  have hb2 := (hg.block g (by simp; omega) (Ne.symm h.nev)).trans ((Below.heap_alloc w1 o _ hgl).trans h.blk)
  have hne : v'.ownBlock ≠ some g := by
    rcases hl with e | e
    · rw [e]; exact h.nev
    · rw [e]; simp; omega
  have huv : u.ownBlock = none ∨ u.ownBlock ≠ v'.ownBlock := by
    cases e : u.ownBlock with
    | none => exact Or.inl rfl
    | some k =>
      refine Or.inr ?_
      have hk := (h.ways.lt k e).2
      rcases hl with e' | e'
      · rw [e', ← e]; exact h.uv.resolve_left (by rw [e]; simp)
      · rw [e']; simp; omega
  refine ⟨⟨?_, ?_, ?_, h.neu, hne, huv, ?_⟩, ?_, ?_⟩
  · rw [setCell_block hb2]; rfl
  · refine ownsRow_kept h.ways (fun k hk => ?_)
    have hkl := (h.ways.lt k hk).2
    refine (Below.heap_setCell _ _ _ _ (fun e => h.neu (by rw [hk]; exact congrArg some e))).trans ((hg.block k (by simp; omega) ?_).trans (Below.heap_alloc w1 o _ hkl))
    rw [← hk]; exact h.uv.resolve_left (by rw [hk]; simp)
  · rw [show u32s s.dups ++ [Value.int .u32 (t : Int)] = u32s (s.dups ++ [t]) from u32s_snoc _ _] at hown
    have := ownsRow_kept (w' := w2.setCell ⟨g, 2, none⟩ v') hown (fun k hk => Below.heap_setCell _ _ _ _ (fun e => hne (by rw [hk]; exact congrArg some e)))
    simpa using this
  · have := h.wf
    refine ⟨this.cum, this.sorted, this.lo, this.hi, by simp; omega, ?_⟩
    intro x hx
    rcases List.mem_append.1 hx with hx | hx
    · exact this.dlt x hx
    · rw [List.mem_singleton.1 hx]; exact ht
  · exact ((Fr.alloc _ _ _).trans (Fr.of_grown hg (fun k hk _ => Or.inr (Or.inr hk.symm)))).trans (Fr.setCell _ (Or.inl rfl) _)
  · intro k hk
    rcases hl with e | e
    · exact Or.inl (by rw [← e]; exact hk)
    · rw [e] at hk; simp at hk; exact Or.inr (by omega)

set_option maxHeartbeats 400000 in
theorem refAdd_there (g : Nat) (u v : Value) (s : GS) (t : Nat) (ht : t < 4294967296) (w : World) (h : IsRef w g u v s) (hh : hasG s t = true) :
    Calls Try.prog 9 #[.pointer (some ⟨g, 0, none⟩), .int .u32 t] w fun e w' => e = .returned (.int .u8 1) ∧ ∃ v', IsRef w' g u v' (addG s t).2 ∧ Fr (feetR g u v) w w' ∧ (∀ k, v'.ownBlock = some k → v.ownBlock = some k ∨ w.heap.size ≤ k) := by
  obtain ⟨i0, hi, hz0, hz1, hz2⟩ := info_parts info22
  obtain ⟨c0, c1, c2⟩ := h.cells
  obtain ⟨a, cap, rfl⟩ := row_shape h.row
  have hgl := lt_of_heap h.blk
  by_cases h16 : (s.dups.length : Int) < 16
  · go_enter Try.func9, Try.ntmps9
    go_wp2_with (first | (go_at_call 20; refine (refHas_any _ _ _ _ _ ht _ h).mono ?_; rintro e w' ⟨rfl, rfl⟩) | (at_builtin; refine wp_app _ rfl _ _ 29 rfl 0 22 i0 (.int .u32 0) 1 4 Try.underlying29 hi hz0 hz1 hz2 rfl (by decide) (.slice a s.dups.length cap) _ _ rfl (h.row.alloc _) ⟨w.heap.size, 0, none⟩ 1 1 [.int .u32 t] rfl rfl (cell_one_new _ _ _) (by simp [Value.oneCell']) (by unfold maxLen; omega) (by omega) (Nat.zero_le _) ?_; intro a2 cap2 w2 hown2 hgrow2 hloc2; have hb2 := (hgrow2.block g (by simp; omega) (Ne.symm h.nev)).trans ((Below.heap_alloc _ _ _ hgl).trans h.blk); have d2 := cell_of_block hb2 2 rfl; have f2 := free_of_block hb2 2))
    go_ret
    obtain ⟨r1, r2, r3⟩ := close_dupsR ht h (by omega) hown2 hgrow2 hloc2
    refine ⟨rfl, _, ?_, r2, r3⟩
    rw [addG_there hh]
    unfold addDup
    rw [if_pos (by omega)]
    exact r1
  · go_enter Try.func9, Try.ntmps9
    go_wp2_with (go_at_call 20; refine (refHas_any _ _ _ _ _ ht _ h).mono ?_; rintro e w' ⟨rfl, rfl⟩)
    go_ret
    refine ⟨rfl, _, ?_, Fr.refl _ _, fun k hk => Or.inl hk⟩
    rw [addG_there hh]
    unfold addDup
    rw [if_neg (by omega)]
    exact h

set_option maxHeartbeats 400000 in
theorem refAdd_far (g : Nat) (u v : Value) (s : GS) (t : Nat) (ht : t < 4294967296) (w : World) (h : IsRef w g u v s) (hh : hasG s t = false) (hf : 65535 < wayN s.cum t) :
    Calls Try.prog 9 #[.pointer (some ⟨g, 0, none⟩), .int .u32 t] w fun e w' => e = .returned (.int .u8 2) ∧ w = w' := by
  go_enter Try.func9, Try.ntmps9
  go_wp2_with (first | (go_at_call 20; refine (refHas_any _ _ _ _ _ ht _ h).mono ?_; rintro e w' ⟨rfl, rfl⟩) | (go_at_call 23; refine (way_any _ _ _ _ _ ht _ h).mono ?_; rintro e w' ⟨rfl, rfl⟩))
  go_ret
  exact ⟨rfl, rfl⟩

end Go.Proofs.Ythnmkcofbjgpaaa
