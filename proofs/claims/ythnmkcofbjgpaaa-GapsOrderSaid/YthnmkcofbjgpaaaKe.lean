/- A set and a reference's set that the call itself has made, side by side. -/
import Derived.Test.YthnmkcofbjgpaaaKa
import Derived.Test.YthnmkcofbjgpaaaWg
namespace Go.Proofs.Ythnmkcofbjgpaaa
open Go.RowKit Go.Maps

theorem refAdd_any (g : Nat) (u v : Value) (s : GS) (t : Nat) (ht : t < 4294967296) (w : World) (h : IsRef w g u v s) :
    Calls Try.prog 9 #[.pointer (some ⟨g, 0, none⟩), .int .u32 t] w fun e w' => e = .returned (.int .u8 ((addG s t).1 : Nat)) ∧ ∃ u' v', IsRef w' g u' v' (addG s t).2 ∧ Fr (feetR g u v) w w' ∧
      (∀ k, u'.ownBlock = some k → u.ownBlock = some k ∨ w.heap.size ≤ k) ∧ (∀ k, v'.ownBlock = some k → v.ownBlock = some k ∨ w.heap.size ≤ k) := by
  rcases Bool.eq_false_or_eq_true (hasG s t) with hh | hh
  · refine (refAdd_there g u v s t ht w h hh).mono ?_
    rintro e w' ⟨rfl, v', a1, a2, a3⟩
    have e1 : (addG s t).1 = 1 := by unfold addG; rw [if_pos hh]
    exact ⟨ret_int (by rw [e1]; rfl), u, v', a1, a2, fun k hk => Or.inl hk, a3⟩
  · have hh' : ¬ hasG s t = true := by rw [hh]; simp
    by_cases hf : 65535 < wayN s.cum t
    · refine (refAdd_far g u v s t ht w h hh hf).mono ?_
      rintro e w' ⟨rfl, rfl⟩
      have e1 : addG s t = (2, s) := by unfold addG; rw [if_neg hh', if_pos hf]
      exact ⟨ret_int (by rw [e1]; rfl), u, v, by rw [e1]; exact h, Fr.refl _ _, fun k hk => Or.inl hk, fun k hk => Or.inl hk⟩
    · refine (refAdd_fresh g u v s t ht w h hh hf).mono ?_
      rintro e w' ⟨rfl, u', a1, a2, a3⟩
      have e1 : (addG s t).1 = 0 := by unfold addG; rw [if_neg hh', if_neg hf]
      exact ⟨ret_int (by rw [e1]; rfl), u', v, a1, a2, a3, fun k hk => Or.inl hk⟩

/-- A block that neither set stands on, and what it holds. -/
def Held (X : Option (Nat × Obj)) (w : World) (F : Nat → Prop) : Prop := ∀ b o, X = some (b, o) → w.heap[b]? = some o ∧ ¬ F b

theorem Held.none (w : World) (F : Nat → Prop) : Held none w F := fun b o h => by cases h
theorem Held.turn {X : Option (Nat × Obj)} {w w' : World} {F F' : Nat → Prop} (h : Held X w F) (S : Nat → Prop) (hf : Fr S w w') (hs : ∀ k, S k → F k) (hF : ∀ k, F' k → F k ∨ w.heap.size ≤ k) : Held X w' F' := by
  intro b o hx
  obtain ⟨h1, h2⟩ := h b o hx
  have hb := lt_of_heap h1
  refine ⟨(hf.block b hb (fun h3 => h2 (hs b h3))).trans h1, fun h3 => ?_⟩
  rcases hF b h3 with h4 | h4
  · exact h2 h4
  · omega
theorem Held.below {X : Option (Nat × Obj)} {w w' : World} {F : Nat → Prop} (h : Held X w F) (hf : Below w.heap.size w w') : Held X w' F :=
  h.turn (fun _ => False) (Fr.of_below hf) (fun _ h => h.elim) (fun _ h => Or.inl h)

structure SR (X : Option (Nat × Obj)) (B : Nat) (w0 w : World) (g bm : Nat) (s : GS) (gr : Nat) (r : GS) : Prop where
  ex : ∃ v u x, IsSet w g bm v s ∧ IsRef w gr u x r ∧ (∀ k, feet g bm v k → B ≤ k) ∧ (∀ k, feetR gr u x k → B ≤ k) ∧ (∀ k, feet g bm v k → ¬ feetR gr u x k) ∧ Held X w (fun k => feet g bm v k ∨ feetR gr u x k)
  be : Below B w0 w

section
variable {X : Option (Nat × Obj)} {B : Nat} {w0 w w' : World} {g bm gr : Nat} {s r : GS}

theorem SR.size (h : SR X B w0 w g bm s gr r) : B ≤ w.heap.size := by
  obtain ⟨⟨v, u, x, a, b, c, d, e, hx⟩, f⟩ := h
  have := lt_of_heap a.blk
  have := c g (Or.inl rfl)
  omega
theorem SR.wf (h : SR X B w0 w g bm s gr r) : WF s := by
  obtain ⟨⟨v, u, x, a, b, c, d, e, hx⟩, f⟩ := h
  exact a.wf
theorem SR.wfr (h : SR X B w0 w g bm s gr r) : WF r := by
  obtain ⟨⟨v, u, x, a, b, c, d, e, hx⟩, f⟩ := h
  exact b.wf
theorem SR.held {o : Obj} {b : Nat} (h : SR (some (b, o)) B w0 w g bm s gr r) : w.heap[b]? = some o := by
  obtain ⟨⟨v, u, x, a, b, c, d, e, hx⟩, f⟩ := h
  exact (hx _ _ rfl).1
theorem SR.bare (h : SR X B w0 w g bm s gr r) : SR none B w0 w g bm s gr r := by
  obtain ⟨⟨v, u, x, a, b, c, d, e, hx⟩, f⟩ := h
  exact ⟨⟨v, u, x, a, b, c, d, e, Held.none _ _⟩, f⟩
theorem SR.ref (h : SR X B w0 w g bm s gr r) : ∃ u x, IsRef w gr u x r := by
  obtain ⟨⟨v, u, x, a, b, c, d, e, hx⟩, f⟩ := h
  exact ⟨u, x, b⟩
theorem SR.step (h : SR X B w0 w g bm s gr r) (hb : Below w.heap.size w w') : SR X B w0 w' g bm s gr r := by
  have hB := h.size
  obtain ⟨⟨v, u, x, a, b, c, d, e, hx⟩, f⟩ := h
  exact ⟨⟨v, u, x, a.below hb, b.below hb, c, d, e, hx.below hb⟩, f.trans (hb.mono hB)⟩
theorem SR.alloc (h : SR X B w0 w g bm s gr r) (o : Obj) : SR X B w0 (w.alloc o) g bm s gr r := h.step ((Below.refl _ _).alloc (Nat.le_refl _) _)
theorem SR.drewN (h : SR X B w0 w g bm s gr r) (n : Nat) : SR X B w0 (w.drewN n) g bm s gr r := h.step ⟨rfl, rfl, rfl, Nat.le_refl _, fun _ _ => rfl⟩
theorem SR.drew (h : SR X B w0 w g bm s gr r) : SR X B w0 w.drew g bm s gr r := h.step ⟨rfl, rfl, rfl, Nat.le_refl _, fun _ _ => rfl⟩
/-- A block just laid is held. -/
theorem SR.lay (h : SR X B w0 w g bm s gr r) (o : Obj) : SR (some (w.heap.size, o)) B w0 (w.alloc o) g bm s gr r := by
  have h1 := h.alloc o
  obtain ⟨⟨v, u, x, a, b, c, d, e, hx⟩, f⟩ := h
  obtain ⟨-, f1⟩ := h1
  have hb : Below w.heap.size w (w.alloc o) := (Below.refl _ _).alloc (Nat.le_refl _) _
  refine ⟨⟨v, u, x, a.below hb, b.below hb, c, d, e, fun b1 o1 h1 => ?_⟩, f1⟩
  cases h1
  refine ⟨heap_alloc_new _ _, ?_⟩
  rintro (h2 | h2)
  · have := a.lt _ h2; omega
  · have := b.lt _ h2; omega

theorem sr_add (h : SR X B w0 w g bm s gr r) (T : Int) (t : Nat) (hT : T = t) (ht : t < M32) :
    Calls Try.prog 8 #[.pointer (some ⟨g, 0, none⟩), .int .u32 T] w fun e w' => e = .returned (.int .u8 ((addG s t).1 : Nat)) ∧ SR X B w0 w' g bm (addG s t).2 gr r := by
  subst hT
  have hB := h.size
  obtain ⟨⟨v, u, x, a, b, c, d, e, hx⟩, f⟩ := h
  refine (add_any g bm v s t ht w a).mono ?_
  rintro e' w' ⟨rfl, v', a1, a2, a3⟩
  have hn : ∀ k, feet g bm v' k → feet g bm v k ∨ w.heap.size ≤ k := by
    rintro k (rfl | rfl | hk)
    · exact Or.inl (Or.inl rfl)
    · exact Or.inl (Or.inr (Or.inl rfl))
    · rcases a3 k hk.symm with h | h
      · exact Or.inl (Or.inr (Or.inr h.symm))
      · exact Or.inr h
  refine ⟨rfl, ⟨v', u, x, a1, b.kept a2 (fun k hk h1 => e k h1 hk), fun k hk => ?_, d, fun k hk h2 => ?_, hx.turn _ a2 (fun k h => Or.inl h) (fun k h => ?_)⟩, f.trans (a2.below hB fun k hk hf => by have := c k hf; omega)⟩
  · rcases hn k hk with h | h
    · exact c k h
    · omega
  · rcases hn k hk with h | h
    · exact e k h h2
    · have := b.lt k h2
      omega
  · rcases h with h | h
    · exact (hn k h).imp Or.inl id
    · exact Or.inl (Or.inr h)

theorem sr_radd (h : SR X B w0 w g bm s gr r) (T : Int) (t : Nat) (hT : T = t) (ht : t < M32) :
    Calls Try.prog 9 #[.pointer (some ⟨gr, 0, none⟩), .int .u32 T] w fun e w' => e = .returned (.int .u8 ((addG r t).1 : Nat)) ∧ SR X B w0 w' g bm s gr (addG r t).2 := by
  subst hT
  have hB := h.size
  obtain ⟨⟨v, u, x, a, b, c, d, e, hx⟩, f⟩ := h
  refine (refAdd_any gr u x r t ht w b).mono ?_
  rintro e' w' ⟨rfl, u', x', a1, a2, a3, a4⟩
  have hn : ∀ k, feetR gr u' x' k → feetR gr u x k ∨ w.heap.size ≤ k := by
    rintro k (rfl | hk | hk)
    · exact Or.inl (Or.inl rfl)
    · rcases a3 k hk.symm with h | h
      · exact Or.inl (Or.inr (Or.inl h.symm))
      · exact Or.inr h
    · rcases a4 k hk.symm with h | h
      · exact Or.inl (Or.inr (Or.inr h.symm))
      · exact Or.inr h
  refine ⟨rfl, ⟨v, u', x', a.kept a2 (fun k hk h1 => e k hk h1), a1, c, fun k hk => ?_, fun k hk h2 => ?_, hx.turn _ a2 (fun k h => Or.inr h) (fun k h => ?_)⟩, f.trans (a2.below hB fun k hk hf => by have := d k hf; omega)⟩
  · rcases hn k hk with h | h
    · exact d k h
    · omega
  · rcases hn k h2 with h | h
    · exact e k hk h
    · have := a.lt k hk
      omega
  · rcases h with h | h
    · exact Or.inl (Or.inl h)
    · exact (hn k h).imp Or.inr id

/-- Dups: the row goes out. -/
theorem sr_dups (h : SR X B w0 w g bm s gr r) :
    Calls Try.prog 11 #[.pointer (some ⟨g, 0, none⟩)] w fun e w' => ∃ v, e = .returned v ∧ SR X B w0 w' g bm { s with dups := [] } gr r ∧ w'.ownsRow 0 22 1 v s.dups.length (u32s s.dups) ∧ (∀ k, v.ownBlock = some k → k ≠ gr) := by
  have hB := h.size
  obtain ⟨⟨v, u, x, a, b, c, d, e, hx⟩, f⟩ := h
  refine (dups_any g bm v s w a).mono ?_
  rintro e' w' ⟨rfl, a1, a2, a3⟩
  have hn : ∀ k, feet g bm (.slice none 0 0) k → feet g bm v k := by
    rintro k (rfl | rfl | hk)
    · exact Or.inl rfl
    · exact Or.inr (Or.inl rfl)
    · cases hk
  refine ⟨v, rfl, ⟨⟨_, u, x, a1, b.kept a2 (fun k hk h1 => e k (Or.inl h1) hk), fun k hk => c k (hn k hk), d, fun k hk => e k (hn k hk), hx.turn _ a2 (fun k h => Or.inl (Or.inl h)) (fun k h => Or.inl (h.imp (hn k) id))⟩, f.trans (a2.below hB fun k hk hf => by have := c k (Or.inl hf); omega)⟩, a3, ?_⟩
  rintro k hk rfl
  exact e k (Or.inr (Or.inr hk.symm)) (Or.inl rfl)

theorem sr_take (h : SR X B w0 w g bm s gr r) :
    Calls Try.prog 12 #[.pointer (some ⟨gr, 0, none⟩)] w fun e w' => ∃ v, e = .returned v ∧ SR X B w0 w' g bm s gr { r with dups := [] } ∧ w'.ownsRow 0 22 1 v r.dups.length (u32s r.dups) ∧ Fr (fun k => k = gr) w w' := by
  have hB := h.size
  obtain ⟨⟨v, u, x, a, b, c, d, e, hx⟩, f⟩ := h
  refine (take_any gr u x r w b).mono ?_
  rintro e' w' ⟨rfl, a1, a2, a3⟩
  have hn : ∀ k, feetR gr u (.slice none 0 0) k → feetR gr u x k := by
    rintro k (rfl | hk | hk)
    · exact Or.inl rfl
    · exact Or.inr (Or.inl hk)
    · cases hk
  refine ⟨x, rfl, ⟨⟨v, u, _, a.kept a2 (fun k hk h1 => e k hk (Or.inl h1)), a1, c, fun k hk => d k (hn k hk), fun k hk h2 => e k hk (hn k h2), hx.turn _ a2 (fun k h => Or.inr (Or.inl h)) (fun k h => Or.inl (h.imp id (hn k)))⟩, f.trans (a2.below hB fun k hk hf => by have := d k (Or.inl hf); omega)⟩, a3, a2⟩

theorem sr_cum (h : SR X B w0 w g bm s gr r) : Calls Try.prog 14 #[.pointer (some ⟨g, 0, none⟩)] w fun e w' => e = .returned (.int .u32 (s.cum : Nat)) ∧ w = w' := by
  obtain ⟨⟨v, u, x, a, b, c, d, e, hx⟩, f⟩ := h
  exact cum_any g bm v s w a
theorem sr_len (h : SR X B w0 w g bm s gr r) : Calls Try.prog 18 #[.pointer (some ⟨g, 0, none⟩)] w fun e w' => e = .returned (.int .i64 (s.ways.length : Nat)) ∧ w = w' := by
  obtain ⟨⟨v, u, x, a, b, c, d, e, hx⟩, f⟩ := h
  exact len_any g bm v s w a
theorem sr_next (h : SR X B w0 w g bm s gr r) (T : Int) (t : Nat) (hT : T = t) : Calls Try.prog 21 #[.pointer (some ⟨g, 0, none⟩), .int .u32 T] w fun e w' => e = .returned (.bool (decide (t = (s.cum + 1) % M32))) ∧ w = w' := by
  subst hT
  obtain ⟨⟨v, u, x, a, b, c, d, e, hx⟩, f⟩ := h
  exact next_any g bm v s t w a
theorem sr_has (h : SR X B w0 w g bm s gr r) (T : Int) (t : Nat) (hT : T = t) (ht : t < M32) : Calls Try.prog 19 #[.pointer (some ⟨g, 0, none⟩), .int .u32 T] w fun e w' => e = .returned (.bool (hasG s t)) ∧ SR X B w0 w' g bm s gr r ∧ Below w.heap.size w w' := by
  subst hT
  have h' := h
  obtain ⟨⟨v, u, x, a, b, c, d, e, hx⟩, f⟩ := h
  refine (has_any g bm v s t ht w a).mono ?_
  rintro e' w' ⟨rfl, q⟩
  exact ⟨rfl, h'.step q, q⟩
theorem sr_rhas (h : SR X B w0 w g bm s gr r) (T : Int) (t : Nat) (hT : T = t) (ht : t < M32) : Calls Try.prog 20 #[.pointer (some ⟨gr, 0, none⟩), .int .u32 T] w fun e w' => e = .returned (.bool (hasG r t)) ∧ w = w' := by
  subst hT
  obtain ⟨⟨v, u, x, a, b, c, d, e, hx⟩, f⟩ := h
  exact refHas_any gr u x r t ht w b
theorem sr_gaps (h : SR X B w0 w g bm s gr r) : Calls Try.prog 16 #[.pointer (some ⟨g, 0, none⟩)] w fun e w' => ∃ z, e = .returned z ∧ SR X B w0 w' g bm s gr r ∧ w'.ownsRow w.heap.size 49 2 z (gapsG s.ways).length (gaps (gapsG s.ways)) ∧ Below w.heap.size w w' := by
  have h' := h
  obtain ⟨⟨v, u, x, a, b, c, d, e, hx⟩, f⟩ := h
  refine (gaps_any g bm v s w a).mono ?_
  rintro e' w' ⟨z, rfl, q1, q2⟩
  exact ⟨z, rfl, h'.step q2, q1, q2⟩
theorem sr_rgaps (h : SR X B w0 w g bm s gr r) : Calls Try.prog 17 #[.pointer (some ⟨gr, 0, none⟩)] w fun e w' => ∃ z, e = .returned z ∧ SR X B w0 w' g bm s gr r ∧ w'.ownsRow w.heap.size 49 2 z (gapsG r.ways).length (gaps (gapsG r.ways)) ∧ Below w.heap.size w w' := by
  have h' := h
  obtain ⟨⟨v, u, x, a, b, c, d, e, hx⟩, f⟩ := h
  refine (refGaps_any gr u x r w b).mono ?_
  rintro e' w' ⟨z, rfl, q1, q2⟩
  exact ⟨z, rfl, h'.step q2, q1, q2⟩

/-- The reference's set, just laid. -/
theorem sr_new (m : Mine B w0 w g bm s) (C : Int) (c : Nat) (hC : C = c) (hc : c < M32) :
    SR none B w0 (w.alloc (.cells #[.int .u32 C, .slice none 0 0, .slice none 0 0] 31)) g bm s w.heap.size ⟨c, [], []⟩ := by
  subst hC
  have hB := m.size
  have m' := m.alloc (.cells #[.int .u32 (c : Int), .slice none 0 0, .slice none 0 0] 31)
  obtain ⟨⟨v, h1, h2⟩, _⟩ := m
  have hlt := h1.lt
  have hb : Below w.heap.size w (w.alloc (.cells #[.int .u32 (c : Int), .slice none 0 0, .slice none 0 0] 31)) := (Below.refl _ _).alloc (Nat.le_refl _) _
  refine ⟨⟨v, .slice none 0 0, .slice none 0 0, h1.below hb, ⟨heap_alloc_new _ _, World.ownsRow_nil _ _ _ _, World.ownsRow_nil _ _ _ _, by simp [Value.ownBlock], by simp [Value.ownBlock], Or.inl rfl, ⟨hc, by simp, by simp, by simp, by simp, by simp⟩⟩, h2, ?_, ?_, Held.none _ _⟩, m'.be⟩
  · rintro k (rfl | hk | hk)
    · exact hB
    · cases hk
    · cases hk
  · intro k hk
    have := hlt k hk
    rintro (rfl | h | h)
    · omega
    · cases h
    · cases h

end

end Go.Proofs.Ythnmkcofbjgpaaa
