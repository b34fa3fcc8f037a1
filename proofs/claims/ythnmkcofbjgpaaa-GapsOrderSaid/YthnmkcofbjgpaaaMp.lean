/- The map of a set, entry by entry: what a store and a delete do to the ways. -/
import Derived.Test.YthnmkcofbjgpaaaSt
import Derived.Lib.Hide
namespace Go.Proofs.Ythnmkcofbjgpaaa
open Go.RowKit Go.Maps

/-- D holds just the TSNs of those ways. -/
structure Keys (D : DataW Unit) (cum : Nat) (ways : List Nat) : Prop where
  has : ∀ x : Nat, x < M32 → Maps.has D (.int .u32 x) = decide (wayN cum x ∈ ways)
  size : Maps.size D = ways.length

theorem key_ne {x y : Nat} (h : x ≠ y) : (Lit.int .u32 (x : Int)) ≠ .int .u32 (y : Int) := by
  intro e; injection e with _ e; omega

theorem wayN_inj {c x y : Nat} (hc : c < M32) (hx : x < M32) (hy : y < M32) (h : wayN c x = wayN c y) : x = y := by
  unfold wayN M32 at *; omega

theorem isKey (x : Int) : WideAt.IsKeyLit (.int .u32 x) := by simp [WideAt.IsKeyLit]

theorem Keys.put {D : DataW Unit} {cum : Nat} {ways : List Nat} (h : Keys D cum ways) (ht : Maps.Tidy D) (hc : cum < M32) {t : Nat} (hlt : t < M32) (hn : wayN cum t ∉ ways) (d : DataW Unit) :
    Keys (D.put (.int .u32 t) d) cum (insW (wayN cum t) ways) := by
  refine ⟨fun x hx => ?_, ?_⟩
  · by_cases e : x = t
    · subst e
      rw [has_put_same ht.isMap (isKey _)]
      exact (decide_eq_true (mem_insW.2 (Or.inl rfl))).symm
    · rw [has_put_other (key_ne e), h.has x hx, Bool.eq_iff_iff, decide_eq_true_eq, decide_eq_true_eq, mem_insW]
      exact ⟨Or.inr, fun h' => h'.elim (fun e' => absurd (wayN_inj hc hx hlt e') e) id⟩
  · rw [size_put ht, h.has t hlt, decide_eq_false hn, length_insW, h.size]
    rfl

theorem Keys.next {D : DataW Unit} {cum : Nat} {l : List Nat} (h : Keys D cum l) (hc : cum < M32) : Maps.has D (.int .u32 ((cum + 1) % M32 : Nat)) = decide (1 ∈ l) := by
  rw [h.has _ (Nat.mod_lt _ (by decide))]
  have : wayN cum ((cum + 1) % M32) = 1 := by unfold wayN M32 at *; omega
  rw [this]

theorem Keys.del {D : DataW Unit} {cum : Nat} {r : List Nat} (h : Keys D cum (1 :: r)) (ht : Maps.Tidy D) (hc : cum < M32) (h2 : ∀ x ∈ r, 2 ≤ x) (hi : ∀ x ∈ r, x ≤ 65535) :
    Keys (D.del (.int .u32 ((cum + 1) % M32 : Nat))) ((cum + 1) % M32) (r.map (· - 1)) := by
  refine ⟨fun x hx => ?_, ?_⟩
  · by_cases e : x = (cum + 1) % M32
    · subst e
      rw [has_del_same]
      symm
      rw [decide_eq_false_iff_not]
      have e0 : wayN ((cum + 1) % M32) ((cum + 1) % M32) = 0 := by unfold wayN M32 at *; omega
      rw [e0]
      intro hm
      obtain ⟨z, hz, hz'⟩ := List.mem_map.1 hm
      have := h2 z hz; omega
    · rw [has_del_other (key_ne e), h.has x hx, Bool.eq_iff_iff, decide_eq_true_eq, decide_eq_true_eq]
      constructor
      · intro hm
        rcases List.mem_cons.1 hm with h1 | hm
        · exact absurd (by unfold wayN M32 at *; omega) e
        · have := h2 _ hm
          refine List.mem_map.2 ⟨_, hm, ?_⟩
          unfold wayN M32 at *; omega
      · intro hm
        obtain ⟨z, hz, hz'⟩ := List.mem_map.1 hm
        have := h2 z hz
        have := hi z hz
        have : wayN cum x = z := by unfold wayN M32 at *; omega
        rw [this]
        exact List.mem_cons_of_mem _ hz
  · have := size_del ht (k := .int .u32 ((cum + 1) % M32 : Nat))
    rw [h.next hc, decide_eq_true List.mem_cons_self, h.size] at this
    simp at this ⊢
    exact this

theorem isMap_iff {w : World} {bm cum : Nat} {ways : List Nat} : IsMap w bm cum ways ↔ ∃ D, w.ownsMap Try.prog 22 unitElem bm ways.length D ∧ Keys D cum ways :=
  ⟨fun ⟨D, h, a, b⟩ => ⟨D, h, a, b⟩, fun ⟨D, h, k⟩ => ⟨D, h, k.has, k.size⟩⟩

theorem isMap_of {w : World} {bm cum n : Nat} {ways : List Nat} {D : DataW Unit} (h : w.ownsMap Try.prog 22 unitElem bm n D) (k : Keys D cum ways) : IsMap w bm cum ways :=
  isMap_iff.2 ⟨D, by have := ownsMap_tight h; rwa [k.size] at this, k⟩

/-- 'runW', step by step. -/
theorem runW_one (f : Nat) (r : List Nat) : runW (f + 1) (1 :: r) = ((runW f (r.map (· - 1))).1 + 1, (runW f (r.map (· - 1))).2) := rfl
theorem runW_stop (f : Nat) (l : List Nat) (h : 1 ∉ l) : runW f l = (0, l) := by
  cases f with
  | zero => rfl
  | succ f =>
    unfold runW
    split
    · exact absurd List.mem_cons_self h
    · rfl

theorem head_one {l : List Nat} (hp : l.Pairwise (· < ·)) (h1 : ∀ x ∈ l, 1 ≤ x) (h : 1 ∈ l) : ∃ r, l = 1 :: r ∧ (∀ x ∈ r, 2 ≤ x) ∧ r.Pairwise (· < ·) := by
  match l, hp with
  | y :: r, hp =>
    rw [List.pairwise_cons] at hp
    rcases List.mem_cons.1 h with e | h'
    · subst e; exact ⟨r, rfl, hp.1, hp.2⟩
    · have := hp.1 1 h'; have := h1 y List.mem_cons_self; omega

end Go.Proofs.Ythnmkcofbjgpaaa
