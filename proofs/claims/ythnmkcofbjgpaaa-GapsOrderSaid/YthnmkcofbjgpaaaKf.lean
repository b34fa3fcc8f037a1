/- The copy goes on, the old set is dead: what is done to the dead one turns neither the copy nor the reference's. -/
import Derived.Test.YthnmkcofbjgpaaaKe
namespace Go.Proofs.Ythnmkcofbjgpaaa
open Go.RowKit Go.Maps

structure Dead (X : Option (Nat × Obj)) (B : Nat) (w0 w : World) (g bm : Nat) (s : GS) (gr : Nat) (r : GS) (gd : Nat) (d : GS) : Prop where
  ex : ∃ v u x bd vd, IsSet w g bm v s ∧ IsRef w gr u x r ∧ IsSet w gd bd vd d ∧ (∀ k, feet g bm v k → B ≤ k) ∧ (∀ k, feetR gr u x k → B ≤ k) ∧ (∀ k, feet gd bd vd k → B ≤ k) ∧
    (∀ k, feet g bm v k → ¬ feetR gr u x k) ∧ (∀ k, feet gd bd vd k → ¬ feet g bm v k) ∧ (∀ k, feet gd bd vd k → ¬ feetR gr u x k) ∧ Held X w (fun k => (feet g bm v k ∨ feetR gr u x k) ∨ feet gd bd vd k)
  be : Below B w0 w

section
variable {X : Option (Nat × Obj)} {B : Nat} {w0 w w' : World} {g bm gr gd : Nat} {s r d : GS}

theorem Dead.sr (h : Dead X B w0 w g bm s gr r gd d) : SR X B w0 w g bm s gr r := by
  obtain ⟨⟨v, u, x, bd, vd, a, b, c, a2, b2, c2, e1, e2, e3, hx⟩, f⟩ := h
  exact ⟨⟨v, u, x, a, b, a2, b2, e1, fun b o h => ⟨(hx b o h).1, fun h2 => (hx b o h).2 (Or.inl h2)⟩⟩, f⟩

theorem Dead.cumlt (h : Dead X B w0 w g bm s gr r gd d) : d.cum < M32 := by
  obtain ⟨⟨v, u, x, bd, vd, a, b, c, a2, b2, c2, e1, e2, e3, hx⟩, f⟩ := h
  exact c.wf.cum

theorem dead_copy (h : SR X B w0 w g bm s gr r) :
    Calls Try.prog 13 #[.pointer (some ⟨g, 0, none⟩)] w fun e w' => ∃ g' bm', e = .returned (.pointer (some ⟨g', 0, none⟩)) ∧ Dead X B w0 w' g' bm' s gr r g s := by
  have hB := h.size
  obtain ⟨⟨v, u, x, a, b, c, d, e, hx⟩, f⟩ := h
  have la := a.lt
  have lb := b.lt
  refine (copy_any g bm v s w a).mono ?_
  rintro e' w' ⟨g', bm', v', rfl, q1, q2, q3⟩
  refine ⟨g', bm', rfl, ⟨v', u, x, bm, v, q1, b.below q3, a.below q3, fun k hk => Nat.le_trans hB (q2 k hk), d, c, fun k hk h2 => ?_, fun k hk h2 => ?_, e, hx.turn (fun _ => False) (Fr.of_below q3) (fun _ h => h.elim) ?_⟩, f.trans (q3.mono hB)⟩
  · have := q2 k hk; have := lb k h2; omega
  · have := la k hk; have := q2 k h2; omega
  · rintro k ((h | h) | h)
    · exact Or.inr (q2 k h)
    · exact Or.inl (Or.inr h)
    · exact Or.inl (Or.inl h)

theorem dead_cum (h : Dead X B w0 w g bm s gr r gd d) : Calls Try.prog 14 #[.pointer (some ⟨gd, 0, none⟩)] w fun e w' => e = .returned (.int .u32 (d.cum : Nat)) ∧ w = w' := by
  obtain ⟨⟨v, u, x, bd, vd, a, b, c, a2, b2, c2, e1, e2, e3, hx⟩, f⟩ := h
  exact cum_any gd bd vd d w c

theorem dead_add (h : Dead X B w0 w g bm s gr r gd d) (T : Int) (t : Nat) (hT : T = t) (ht : t < M32) :
    Calls Try.prog 8 #[.pointer (some ⟨gd, 0, none⟩), .int .u32 T] w fun e w' => ∃ (n : Nat) (d' : GS), e = .returned (.int .u8 (n : Int)) ∧ Dead X B w0 w' g bm s gr r gd d' := by
  subst hT
  have hd := h.sr.size
  obtain ⟨⟨v, u, x, bd, vd, a, b, c, a2, b2, c2, e1, e2, e3, hx⟩, f⟩ := h
  have la := a.lt
  have lb := b.lt
  refine (add_any gd bd vd d t ht w c).mono ?_
  rintro e' w' ⟨rfl, v', q1, q2, q3⟩
  have hn : ∀ k, feet gd bd v' k → feet gd bd vd k ∨ w.heap.size ≤ k := by
    rintro k (rfl | rfl | hk)
    · exact Or.inl (Or.inl rfl)
    · exact Or.inl (Or.inr (Or.inl rfl))
    · rcases q3 k hk.symm with h | h
      · exact Or.inl (Or.inr (Or.inr h.symm))
      · exact Or.inr h
  refine ⟨_, (addG d t).2, rfl, ⟨v, u, x, bd, v', a.kept q2 (fun k hk h1 => e2 k h1 hk), b.kept q2 (fun k hk h1 => e3 k h1 hk), q1, a2, b2, fun k hk => ?_, e1, fun k hk h2 => ?_, fun k hk h2 => ?_, hx.turn _ q2 (fun _ h => Or.inr h) (fun k h => ?_)⟩, f.trans (q2.below hd fun k hk hf => by have := c2 k hf; omega)⟩
  · rcases hn k hk with h | h
    · exact c2 k h
    · omega
  · rcases hn k hk with h | h
    · exact e2 k h h2
    · have := la k h2; omega
  · rcases hn k hk with h | h
    · exact e3 k h h2
    · have := lb k h2; omega
  · rcases h with h | h
    · exact Or.inl (Or.inl h)
    · exact (hn k h).imp Or.inr id

theorem dead_dups (h : Dead X B w0 w g bm s gr r gd d) :
    Calls Try.prog 11 #[.pointer (some ⟨gd, 0, none⟩)] w fun e w' => ∃ z, e = .returned z ∧ SR X B w0 w' g bm s gr r := by
  have hd := h.sr.size
  obtain ⟨⟨v, u, x, bd, vd, a, b, c, a2, b2, c2, e1, e2, e3, hx⟩, f⟩ := h
  refine (dups_any gd bd vd d w c).mono ?_
  rintro e' w' ⟨rfl, q1, q2, q3⟩
  exact ⟨vd, rfl, ⟨v, u, x, a.kept q2 (fun k hk h1 => e2 k (Or.inl h1) hk), b.kept q2 (fun k hk h1 => e3 k (Or.inl h1) hk), a2, b2, e1, hx.turn _ q2 (fun k h => Or.inr (Or.inl h)) (fun k h => Or.inl (Or.inl h))⟩, f.trans (q2.below hd fun k hk hf => by have := c2 k (Or.inl hf); omega)⟩

end
end Go.Proofs.Ythnmkcofbjgpaaa
