/- Two sets that the call itself has made, side by side. -/
import Derived.Test.YthnmkcofbjgpaaaKa
namespace Go.Proofs.Ythnmkcofbjgpaaa
open Go.RowKit Go.Maps

structure Two (B : Nat) (w0 w : World) (g1 bm1 : Nat) (s1 : GS) (g2 bm2 : Nat) (s2 : GS) : Prop where
  ex : ∃ v1 v2, IsSet w g1 bm1 v1 s1 ∧ IsSet w g2 bm2 v2 s2 ∧ (∀ k, feet g1 bm1 v1 k → B ≤ k) ∧ (∀ k, feet g2 bm2 v2 k → B ≤ k) ∧ (∀ k, feet g1 bm1 v1 k → ¬ feet g2 bm2 v2 k)
  be : Below B w0 w

section
variable {B : Nat} {w0 w w' : World} {g1 bm1 g2 bm2 : Nat} {s1 s2 : GS}

theorem Two.swap (h : Two B w0 w g1 bm1 s1 g2 bm2 s2) : Two B w0 w g2 bm2 s2 g1 bm1 s1 := by
  obtain ⟨⟨v1, v2, a, b, c, d, e⟩, f⟩ := h
  exact ⟨⟨v2, v1, b, a, d, c, fun k h1 h2 => e k h2 h1⟩, f⟩

theorem Two.size (h : Two B w0 w g1 bm1 s1 g2 bm2 s2) : B ≤ w.heap.size := by
  obtain ⟨⟨v1, v2, a, b, c, d, e⟩, f⟩ := h
  have := lt_of_heap a.blk
  have := c g1 (Or.inl rfl)
  omega

theorem Two.wf1 (h : Two B w0 w g1 bm1 s1 g2 bm2 s2) : WF s1 := by
  obtain ⟨⟨v1, v2, a, b, c, d, e⟩, f⟩ := h
  exact a.wf
theorem Two.wf2 (h : Two B w0 w g1 bm1 s1 g2 bm2 s2) : WF s2 := h.swap.wf1

theorem Two.step (h : Two B w0 w g1 bm1 s1 g2 bm2 s2) (hb : Below w.heap.size w w') : Two B w0 w' g1 bm1 s1 g2 bm2 s2 := by
  have hB := h.size
  obtain ⟨⟨v1, v2, a, b, c, d, e⟩, f⟩ := h
  exact ⟨⟨v1, v2, a.below hb, b.below hb, c, d, e⟩, f.trans (hb.mono hB)⟩

theorem Two.alloc (h : Two B w0 w g1 bm1 s1 g2 bm2 s2) (o : Obj) : Two B w0 (w.alloc o) g1 bm1 s1 g2 bm2 s2 := h.step ((Below.refl _ _).alloc (Nat.le_refl _) _)
theorem Two.drewN (h : Two B w0 w g1 bm1 s1 g2 bm2 s2) (n : Nat) : Two B w0 (w.drewN n) g1 bm1 s1 g2 bm2 s2 := h.step ⟨rfl, rfl, rfl, Nat.le_refl _, fun _ _ => rfl⟩

/-- The first one turns. -/
theorem two_turn {v1 v2 v1' : Value} {s1' : GS} (hB : B ≤ w.heap.size) (b : IsSet w g2 bm2 v2 s2) (c : ∀ k, feet g1 bm1 v1 k → B ≤ k) (d : ∀ k, feet g2 bm2 v2 k → B ≤ k) (e : ∀ k, feet g1 bm1 v1 k → ¬ feet g2 bm2 v2 k) (f : Below B w0 w)
    (a' : IsSet w' g1 bm1 v1' s1') (fr : Fr (feet g1 bm1 v1) w w') (l : ∀ k, v1'.ownBlock = some k → v1.ownBlock = some k ∨ w.heap.size ≤ k) : Two B w0 w' g1 bm1 s1' g2 bm2 s2 := by
  refine ⟨⟨v1', v2, a', b.kept fr (fun k hk h1 => e k h1 hk), ?_, d, ?_⟩, f.trans (fr.below hB fun k hk hf => by have := c k hf; omega)⟩
  · rintro k (rfl | rfl | hk)
    · exact c _ (Or.inl rfl)
    · exact c _ (Or.inr (Or.inl rfl))
    · rcases l k hk.symm with h | h
      · exact c k (Or.inr (Or.inr h.symm))
      · omega
  · rintro k (rfl | rfl | hk)
    · exact e _ (Or.inl rfl)
    · exact e _ (Or.inr (Or.inl rfl))
    · rcases l k hk.symm with h | h
      · exact e k (Or.inr (Or.inr h.symm))
      · intro h2
        have := b.lt k h2
        omega

theorem two_new (m : Mine B w0 w g1 bm1 s1) (C : Int) (c : Nat) (hC : C = c) (hc : c < M32) :
    Calls Try.prog 7 #[.int .u32 C] w fun e w' => ∃ g bm, e = .returned (.pointer (some ⟨g, 0, none⟩)) ∧ Two B w0 w' g1 bm1 s1 g bm ⟨c, [], []⟩ := by
  have hB := m.size
  refine (mine_new B w0 w hB m.be C c hC hc).mono ?_
  rintro e w' ⟨g, bm, rfl, -, hb, v, h1, h2⟩
  obtain ⟨⟨v1, a1, a2⟩, f⟩ := m
  refine ⟨g, bm, rfl, ⟨v1, v, a1.below hb, h1, a2, fun k hk => Nat.le_trans hB (h2 k hk), fun k h3 h4 => ?_⟩, f.trans (hb.mono hB)⟩
  have := a1.lt k h3
  have := h2 k h4
  omega

theorem two_add (h : Two B w0 w g1 bm1 s1 g2 bm2 s2) (T : Int) (t : Nat) (hT : T = t) (ht : t < M32) :
    Calls Try.prog 8 #[.pointer (some ⟨g1, 0, none⟩), .int .u32 T] w fun e w' => e = .returned (.int .u8 ((addG s1 t).1 : Nat)) ∧ Two B w0 w' g1 bm1 (addG s1 t).2 g2 bm2 s2 := by
  subst hT
  have hB := h.size
  obtain ⟨⟨v1, v2, a, b, c, d, e⟩, f⟩ := h
  refine (add_any g1 bm1 v1 s1 t ht w a).mono ?_
  rintro e' w' ⟨rfl, v', a1, a2, a3⟩
  exact ⟨rfl, two_turn hB b c d e f a1 a2 a3⟩

theorem two_cum (h : Two B w0 w g1 bm1 s1 g2 bm2 s2) : Calls Try.prog 14 #[.pointer (some ⟨g1, 0, none⟩)] w fun e w' => e = .returned (.int .u32 (s1.cum : Nat)) ∧ w = w' := by
  obtain ⟨⟨v1, v2, a, b, c, d, e⟩, f⟩ := h
  exact cum_any g1 bm1 v1 s1 w a

theorem two_len (h : Two B w0 w g1 bm1 s1 g2 bm2 s2) : Calls Try.prog 18 #[.pointer (some ⟨g1, 0, none⟩)] w fun e w' => e = .returned (.int .i64 (s1.ways.length : Nat)) ∧ w = w' := by
  obtain ⟨⟨v1, v2, a, b, c, d, e⟩, f⟩ := h
  exact len_any g1 bm1 v1 s1 w a

theorem two_has (h : Two B w0 w g1 bm1 s1 g2 bm2 s2) (T : Int) (t : Nat) (hT : T = t) (ht : t < M32) :
    Calls Try.prog 19 #[.pointer (some ⟨g1, 0, none⟩), .int .u32 T] w fun e w' => e = .returned (.bool (hasG s1 t)) ∧ Two B w0 w' g1 bm1 s1 g2 bm2 s2 := by
  subst hT
  have h' := h
  obtain ⟨⟨v1, v2, a, b, c, d, e⟩, f⟩ := h
  refine (has_any g1 bm1 v1 s1 t ht w a).mono ?_
  rintro e' w' ⟨rfl, q⟩
  exact ⟨rfl, h'.step q⟩

theorem two_gaps (h : Two B w0 w g1 bm1 s1 g2 bm2 s2) :
    Calls Try.prog 16 #[.pointer (some ⟨g1, 0, none⟩)] w fun e w' => ∃ z, e = .returned z ∧ Two B w0 w' g1 bm1 s1 g2 bm2 s2 ∧ w'.ownsRow w.heap.size 49 2 z (gapsG s1.ways).length (gaps (gapsG s1.ways)) ∧ Below w.heap.size w w' := by
  have h' := h
  obtain ⟨⟨v1, v2, a, b, c, d, e⟩, f⟩ := h
  refine (gaps_any g1 bm1 v1 s1 w a).mono ?_
  rintro e' w' ⟨z, rfl, q1, q2⟩
  exact ⟨z, rfl, h'.step q2, q1, q2⟩

/-- Dups of the first: the row is handed out and no longer the set's. -/
theorem two_dups (h : Two B w0 w g1 bm1 s1 g2 bm2 s2) :
    Calls Try.prog 11 #[.pointer (some ⟨g1, 0, none⟩)] w fun e w' => ∃ v, e = .returned v ∧ Two B w0 w' g1 bm1 { s1 with dups := [] } g2 bm2 s2 ∧ w'.ownsRow B 22 1 v s1.dups.length (u32s s1.dups) ∧
      (∀ k, v.ownBlock = some k → k ≠ g2) ∧ Fr (fun k => k = g1) w w' := by
  have hB := h.size
  obtain ⟨⟨v1, v2, a, b, c, d, e⟩, f⟩ := h
  refine (dups_any g1 bm1 v1 s1 w a).mono ?_
  rintro e' w' ⟨rfl, a1, a2, a3⟩
  refine ⟨v1, rfl, two_turn hB b c d e f a1 (a2.mono fun k _ hk => by rw [hk]; exact Or.inl rfl) (fun k hk => by cases hk), ?_, ?_, a2⟩
  · refine ⟨a3.1, ?_⟩
    rcases a3.2 with hn | ⟨gg, cap, cur, rfl, q1, r⟩
    · exact .inl hn
    · exact .inr ⟨gg, cap, cur, rfl, c gg (Or.inr (Or.inr rfl)), r⟩
  · rintro k hk rfl
    exact e k (Or.inr (Or.inr hk.symm)) (Or.inl rfl)

end
end Go.Proofs.Ythnmkcofbjgpaaa
