/- A set that the call itself has made, and what each function does to it: the contracts in the shape that the laws' walks want. -/
import Derived.Test.YthnmkcofbjgpaaaWl
import Derived.Test.YthnmkcofbjgpaaaWb
import Derived.Test.YthnmkcofbjgpaaaWd
import Derived.Test.YthnmkcofbjgpaaaWj
import Derived.Test.YthnmkcofbjgpaaaWh
namespace Go.Proofs.Ythnmkcofbjgpaaa
open Go.RowKit Go.Maps

/-- The set at block g is the call's own. -/
structure Mine (B : Nat) (w0 w : World) (g bm : Nat) (s : GS) : Prop where
  ex : ∃ v, IsSet w g bm v s ∧ ∀ k, feet g bm v k → B ≤ k
  be : Below B w0 w

theorem Mine.size {B : Nat} {w0 w : World} {g bm : Nat} {s : GS} (h : Mine B w0 w g bm s) : B ≤ w.heap.size := by
  obtain ⟨v, h1, h2⟩ := h.ex
  have := lt_of_heap h1.blk
  have := h2 g (Or.inl rfl)
  omega

theorem Mine.step {B : Nat} {w0 w w' : World} {g bm : Nat} {s : GS} (h : Mine B w0 w g bm s) (hb : Below w.heap.size w w') : Mine B w0 w' g bm s := by
  have hB := h.size
  obtain ⟨⟨v, h1, h2⟩, h3⟩ := h
  exact ⟨⟨v, h1.below hb, h2⟩, h3.trans (hb.mono hB)⟩

theorem Mine.alloc {B : Nat} {w0 w : World} {g bm : Nat} {s : GS} (h : Mine B w0 w g bm s) (o : Obj) : Mine B w0 (w.alloc o) g bm s :=
  h.step ((Below.refl _ _).alloc (Nat.le_refl _) _)
theorem Mine.drewN {B : Nat} {w0 w : World} {g bm : Nat} {s : GS} (h : Mine B w0 w g bm s) (n : Nat) : Mine B w0 (w.drewN n) g bm s :=
  h.step ⟨rfl, rfl, rfl, Nat.le_refl _, fun _ _ => rfl⟩

theorem mine_new (B : Nat) (w0 w : World) (hB : B ≤ w.heap.size) (hbe : Below B w0 w) (C : Int) (c : Nat) (hC : C = c) (hc : c < M32) :
    Calls Try.prog 7 #[.int .u32 C] w fun e w' => ∃ g bm, e = .returned (.pointer (some ⟨g, 0, none⟩)) ∧ Mine B w0 w' g bm ⟨c, [], []⟩ ∧ Below w.heap.size w w' ∧ (∃ v, IsSet w' g bm v ⟨c, [], []⟩ ∧ ∀ k, feet g bm v k → w.heap.size ≤ k) := by
  subst hC
  refine (new_any c w hc).mono ?_
  rintro e w' ⟨rfl, h1, h2, h3⟩
  have hf : ∀ k, feet (w.heap.size + 1) w.heap.size (.slice none 0 0) k → w.heap.size ≤ k := by
    rintro k (rfl | rfl | hk)
    · omega
    · exact Nat.le_refl _
    · cases hk
  exact ⟨_, _, rfl, ⟨⟨_, h3, fun k hk => Nat.le_trans hB (hf k hk)⟩, hbe.trans (h1.mono hB)⟩, h1, _, h3, hf⟩

theorem mine_add {B : Nat} {w0 w : World} {g bm : Nat} {s : GS} (h : Mine B w0 w g bm s) (T : Int) (t : Nat) (hT : T = t) (ht : t < M32) (R : Int) (s' : GS) (hR : R = ((addG s t).1 : Nat)) (hs : (addG s t).2 = s') :
    Calls Try.prog 8 #[.pointer (some ⟨g, 0, none⟩), .int .u32 T] w fun e w' => e = .returned (.int .u8 R) ∧ Mine B w0 w' g bm s' := by
  subst hT hR hs
  have hB := h.size
  obtain ⟨⟨v, h1, h2⟩, h3⟩ := h
  refine (add_any g bm v s t ht w h1).mono ?_
  rintro e w' ⟨rfl, v', a1, a2, a3⟩
  refine ⟨rfl, ⟨v', a1, ?_⟩, h3.trans (a2.below hB fun k hk hf => by have := h2 k hf; omega)⟩
  rintro k (rfl | rfl | hk)
  · exact h2 _ (Or.inl rfl)
  · exact h2 _ (Or.inr (Or.inl rfl))
  · rcases a3 k hk.symm with e | e
    · exact h2 k (Or.inr (Or.inr e.symm))
    · omega

theorem mine_cum {B : Nat} {w0 w : World} {g bm : Nat} {s : GS} (h : Mine B w0 w g bm s) (R : Int) (hR : R = (s.cum : Nat)) :
    Calls Try.prog 14 #[.pointer (some ⟨g, 0, none⟩)] w fun e w' => e = .returned (.int .u32 R) ∧ w = w' := by
  subst hR
  obtain ⟨⟨v, h1, h2⟩, h3⟩ := h
  exact cum_any g bm v s w h1

theorem mine_len {B : Nat} {w0 w : World} {g bm : Nat} {s : GS} (h : Mine B w0 w g bm s) (R : Int) (hR : R = (s.ways.length : Nat)) :
    Calls Try.prog 18 #[.pointer (some ⟨g, 0, none⟩)] w fun e w' => e = .returned (.int .i64 R) ∧ w = w' := by
  subst hR
  obtain ⟨⟨v, h1, h2⟩, h3⟩ := h
  exact len_any g bm v s w h1

theorem mine_next {B : Nat} {w0 w : World} {g bm : Nat} {s : GS} (h : Mine B w0 w g bm s) (T : Int) (t : Nat) (hT : T = t) (b : Bool) (hb : decide (t = (s.cum + 1) % M32) = b) :
    Calls Try.prog 21 #[.pointer (some ⟨g, 0, none⟩), .int .u32 T] w fun e w' => e = .returned (.bool b) ∧ w = w' := by
  subst hT hb
  obtain ⟨⟨v, h1, h2⟩, h3⟩ := h
  exact next_any g bm v s t w h1

theorem mine_has {B : Nat} {w0 w : World} {g bm : Nat} {s : GS} (h : Mine B w0 w g bm s) (T : Int) (t : Nat) (hT : T = t) (ht : t < M32) (b : Bool) (hb : hasG s t = b) :
    Calls Try.prog 19 #[.pointer (some ⟨g, 0, none⟩), .int .u32 T] w fun e w' => e = .returned (.bool b) ∧ Mine B w0 w' g bm s := by
  subst hT hb
  have h' := h
  obtain ⟨⟨v, h1, h2⟩, h3⟩ := h
  refine (has_any g bm v s t ht w h1).mono ?_
  rintro e w' ⟨rfl, a⟩
  exact ⟨rfl, h'.step a⟩

theorem mine_gaps {B : Nat} {w0 w : World} {g bm : Nat} {s : GS} (h : Mine B w0 w g bm s) (l : List (Nat × Nat)) (hl : gapsG s.ways = l) :
    Calls Try.prog 16 #[.pointer (some ⟨g, 0, none⟩)] w fun e w' => ∃ z, e = .returned z ∧ Mine B w0 w' g bm s ∧ w'.ownsRow w.heap.size 49 2 z l.length (Ythnmkcofbjgpaaa.gaps l) := by
  subst hl
  have h' := h
  obtain ⟨⟨v, h1, h2⟩, h3⟩ := h
  refine (gaps_any g bm v s w h1).mono ?_
  rintro e w' ⟨z, rfl, a, b⟩
  exact ⟨z, rfl, h'.step b, a⟩

theorem mine_dups {B : Nat} {w0 w : World} {g bm : Nat} {s : GS} (h : Mine B w0 w g bm s) (s' : GS) (hs : { s with dups := [] } = s') (l : List Nat) (hl : s.dups = l) :
    Calls Try.prog 11 #[.pointer (some ⟨g, 0, none⟩)] w fun e w' => ∃ z, e = .returned z ∧ Mine B w0 w' g bm s' ∧ w'.ownsRow 0 22 1 z l.length (u32s l) := by
  subst hl hs
  have hB := h.size
  obtain ⟨⟨v, h1, h2⟩, h3⟩ := h
  refine (dups_any g bm v s w h1).mono ?_
  rintro e w' ⟨rfl, a1, a2, a3⟩
  refine ⟨v, rfl, ⟨⟨_, a1, ?_⟩, h3.trans (a2.below hB fun k hk hf => by subst hf; have := h2 k (Or.inl rfl); omega)⟩, a3⟩
  rintro k (rfl | rfl | hk)
  · exact h2 _ (Or.inl rfl)
  · exact h2 _ (Or.inr (Or.inl rfl))
  · cases hk

/-- A row just made. -/
theorem row_made (w : World) (e : TypeId) (size n : Nat) (xs : List Value) (hx : xs.length = n * size) (hn : n ≤ maxLen) : (w.alloc (.cells xs.toArray e)).ownsRow w.heap.size e size (.slice (some ⟨w.heap.size, 0, none⟩) n n) n xs :=
  ⟨hx, Or.inr ⟨w.heap.size, n, xs.toArray, rfl, Nat.le_refl _, heap_alloc_new _ _, Nat.le_refl _, hn, by simpa using hx, by rw [← hx]; simp⟩⟩

end Go.Proofs.Ythnmkcofbjgpaaa
