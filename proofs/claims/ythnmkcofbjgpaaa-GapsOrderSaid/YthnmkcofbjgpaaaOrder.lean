/- The plain laws of the model: whatever the order in which TSNs come the state is the same; a state that begins elsewhere stands elsewhere by as much; gaps never touch. Nothing of the program is in sight here. -/
import Derived.Test.YthnmkcofbjgpaaaModel
namespace Go.Proofs.Ythnmkcofbjgpaaa

theorem wayN_shift (c t b : Nat) (hc : c < M32) (ht : t < M32) (_hb : b < M32) : wayN ((c + b) % M32) ((t + b) % M32) = wayN c t := by
  unfold wayN M32 at *
  omega

/-! ### Elsewhere by as much -/
def shG (b : Nat) (s : GS) : GS := { cum := (s.cum + b) % M32, ways := s.ways, dups := s.dups.map fun t => (t + b) % M32 }

theorem eq_shift (c t b : Nat) (hc : c < M32) (ht : t < M32) (_hb : b < M32) : ((t + b) % M32 == (c + b) % M32) = (t == c) := by
  rw [Bool.eq_iff_iff]
  simp only [beq_iff_eq]
  unfold M32 at *
  omega

theorem hasG_shG (s : GS) (t b : Nat) (hs : s.cum < M32) (ht : t < M32) (hb : b < M32) : hasG (shG b s) ((t + b) % M32) = hasG s t := by
  unfold hasG shG
  simp only []
  rw [wayN_shift _ _ _ hs ht hb, eq_shift _ _ _ hs ht hb]

theorem addG_shG (s : GS) (t b : Nat) (hs : s.cum < M32) (ht : t < M32) (hb : b < M32) : addG (shG b s) ((t + b) % M32) = ((addG s t).1, shG b (addG s t).2) := by
  unfold addG
  rw [hasG_shG s t b hs ht hb]
  by_cases h : hasG s t = true
  · rw [if_pos h, if_pos h]
    unfold addDup shG
    simp only [List.length_map]
    by_cases h16 : s.dups.length < 16
    · rw [if_pos h16, if_pos h16]; simp
    · rw [if_neg h16, if_neg h16]
  · rw [if_neg h, if_neg h]
    have e : wayN (shG b s).cum ((t + b) % M32) = wayN s.cum t := wayN_shift _ _ _ hs ht hb
    have e2 : (shG b s).ways = s.ways := rfl
    rw [e, e2]
    by_cases hf : 65535 < wayN s.cum t
    · rw [if_pos hf, if_pos hf]
    · rw [if_neg hf, if_neg hf]
      simp only [shG, Prod.mk.injEq, GS.mk.injEq, and_true, true_and]
      unfold M32
      omega

/-! ### Whatever the order -/
structure Came (c : Nat) (xs : List Nat) (m : Nat) (s : GS) : Prop where
  cum : s.cum = (c + m) % M32
  run : ∀ x, 1 ≤ x → x ≤ m → x ∈ xs
  next : m + 1 ∉ xs
  sorted : s.ways.Pairwise (· < ·)
  mem : ∀ x, x ∈ s.ways ↔ x + m ∈ xs ∧ 1 ≤ x

theorem Came.start (c : Nat) (hc : c < M32) (dups : List Nat) : Came c [] 0 ⟨c, [], dups⟩ :=
  ⟨by simp [Nat.mod_eq_of_lt hc], by intro x h1 h2; omega, by simp, by simp, by simp⟩

theorem Came.m_le {c : Nat} {xs : List Nat} {m : Nat} {s : GS} (h : Came c xs m s) (hx : ∀ x ∈ xs, x ≤ 30000) : m ≤ 30000 := by
  by_cases e : m = 0
  · omega
  · exact hx _ (h.run m (by omega) (Nat.le_refl _))

/-- What is there is what came. -/
theorem Came.has {c : Nat} {xs : List Nat} {m : Nat} {s : GS} (h : Came c xs m s) (_hc : c < M32) (hx : ∀ x ∈ xs, x ≤ 30000) {w : Nat} (h1 : 1 ≤ w) (h2 : w ≤ 30001) : hasG s ((c + w) % M32) = decide (w ∈ xs) := by
  have hm := h.m_le hx
  rw [Bool.eq_iff_iff]
  unfold hasG
  rw [h.cum]
  simp only [Bool.or_eq_true, List.contains_iff_mem, beq_iff_eq, decide_eq_true_eq]
  by_cases hlt : m < w
  · have e : wayN ((c + m) % M32) ((c + w) % M32) = w - m := by unfold wayN M32 at *; omega
    rw [e, h.mem, Nat.sub_add_cancel (by omega)]
    constructor
    · rintro ((h | h) | h)
      · exact h.1
      · exfalso; unfold M32 at *; omega
      · omega
    · intro h; exact Or.inl (Or.inl ⟨h, by omega⟩)
  · have hw := h.run w h1 (by omega)
    constructor
    · intro _; exact hw
    · intro _
      by_cases e : w = m
      · subst e; exact Or.inl (Or.inr rfl)
      · right; unfold wayN M32 at *; omega

theorem Came.add {c : Nat} {xs : List Nat} {m : Nat} {s : GS} (h : Came c xs m s) (hc : c < M32) (hx : ∀ x ∈ xs, x ≤ 30000) {w : Nat} (h1 : 1 ≤ w) (h2 : w ≤ 30000) :
    ((addG s ((c + w) % M32)).1 = if w ∈ xs then 1 else 0) ∧ ∃ m', Came c (xs ++ [w]) m' (addG s ((c + w) % M32)).2 := by
  have hm := h.m_le hx
  have hh := h.has hc hx h1 (by omega)
  by_cases hin : w ∈ xs
  · rw [if_pos hin]
    rw [decide_eq_true hin] at hh
    have e : addG s ((c + w) % M32) = (1, addDup s ((c + w) % M32)) := by unfold addG; rw [if_pos hh]
    rw [e]
    refine ⟨rfl, m, ?_⟩
    have e1 : (addDup s ((c + w) % M32)).cum = s.cum := by unfold addDup; split <;> rfl
    have e2 : (addDup s ((c + w) % M32)).ways = s.ways := by unfold addDup; split <;> rfl
    have hmem : ∀ x, x ∈ xs ++ [w] ↔ x ∈ xs := by
      intro x; simp only [List.mem_append, List.mem_singleton]
      exact ⟨fun h => h.elim id (fun e => e ▸ hin), Or.inl⟩
    exact ⟨by rw [e1]; exact h.cum, fun x a b => (hmem x).2 (h.run x a b), by rw [hmem]; exact h.next, by rw [e2]; exact h.sorted, fun x => by rw [e2, hmem]; exact h.mem x⟩
  · rw [if_neg hin]
    rw [decide_eq_false hin] at hh
    have hlt : m < w := by
      rcases Nat.lt_or_ge m w with h' | h'
      · exact h'
      · exact absurd (h.run w h1 h') hin
    have ew : wayN s.cum ((c + w) % M32) = w - m := by rw [h.cum]; unfold wayN M32 at *; omega
    have e : addG s ((c + w) % M32) = (0, { cum := (s.cum + (runW (insW (w - m) s.ways).length (insW (w - m) s.ways)).1) % M32, ways := (runW (insW (w - m) s.ways).length (insW (w - m) s.ways)).2, dups := s.dups }) := by
      unfold addG
      rw [if_neg (by rw [hh]; simp), ew, if_neg (by omega)]
    rw [e]
    refine ⟨rfl, ?_⟩
    have hnw : w - m ∉ s.ways := fun hc' => hin (by have := ((h.mem _).1 hc').1; rwa [Nat.sub_add_cancel (by omega)] at this)
    have h1l : ∀ x ∈ insW (w - m) s.ways, 1 ≤ x := by
      intro x hx'
      rcases mem_insW.1 hx' with rfl | hx'
      · omega
      · exact ((h.mem x).1 hx').2
    obtain ⟨a1, a2, a3, a4, a5⟩ := runW_spec _ _ (Nat.le_refl _) (sorted_insW h.sorted hnw) h1l
    generalize runW (insW (w - m) s.ways).length (insW (w - m) s.ways) = p at *
    have hins : ∀ x, 1 ≤ x → (x ∈ insW (w - m) s.ways ↔ x + m ∈ xs ++ [w]) := by
      intro x hx'
      rw [mem_insW, h.mem]
      simp only [List.mem_append, List.mem_singleton]
      constructor
      · rintro (rfl | h')
        · right; omega
        · exact Or.inl h'.1
      · rintro (h' | h')
        · exact Or.inr ⟨h', hx'⟩
        · left; omega
    refine ⟨m + p.1, ?_, ?_, ?_, a1, ?_⟩
    · show (s.cum + p.1) % M32 = _
      rw [h.cum]; unfold M32; omega
    · intro x hx1 hx2
      by_cases hxm : x ≤ m
      · exact List.mem_append_left _ (h.run x hx1 hxm)
      · have := a4 (x - m) (by omega) (by omega)
        rw [hins _ (by omega), Nat.sub_add_cancel (by omega)] at this
        exact this
    · intro hc'
      have h' : 1 + p.1 ∈ insW (w - m) s.ways := by
        rw [hins _ (by omega)]
        rwa [show 1 + p.1 + m = m + p.1 + 1 from by omega]
      have := a2 1 ((a3 1).2 ⟨h', by omega⟩)
      omega
    · intro x
      show x ∈ p.2 ↔ _
      rw [a3]
      constructor
      · rintro ⟨h', hx1⟩
        rw [hins _ (by omega)] at h'
        exact ⟨by rwa [show x + (m + p.1) = x + p.1 + m from by omega], hx1⟩
      · rintro ⟨h', hx1⟩
        refine ⟨?_, hx1⟩
        rw [hins _ (by omega)]
        rwa [show x + p.1 + m = x + (m + p.1) from by omega]

/-- Two rising lists of the same numbers are one. -/
theorem sorted_ext : ∀ {l k : List Nat}, l.Pairwise (· < ·) → k.Pairwise (· < ·) → (∀ x, x ∈ l ↔ x ∈ k) → l = k
  | [], [], _, _, _ => rfl
  | [], y :: r, _, _, h => by have := (h y).2 List.mem_cons_self; simp at this
  | y :: r, [], _, _, h => by have := (h y).1 List.mem_cons_self; simp at this
  | y :: r, z :: q, hl, hk, h => by
    rw [List.pairwise_cons] at hl hk
    have hyz : y = z := by
      have h1 := (h y).1 List.mem_cons_self
      have h2 := (h z).2 List.mem_cons_self
      rcases List.mem_cons.1 h1 with e | h1
      · exact e
      · rcases List.mem_cons.1 h2 with e | h2
        · exact e.symm
        · have := hl.1 z h2; have := hk.1 y h1; omega
    subst hyz
    have : r = q := sorted_ext hl.2 hk.2 (fun x => by
      constructor
      · intro hx
        rcases List.mem_cons.1 ((h x).1 (List.mem_cons_of_mem _ hx)) with e | h'
        · have := hl.1 x hx; omega
        · exact h'
      · intro hx
        rcases List.mem_cons.1 ((h x).2 (List.mem_cons_of_mem _ hx)) with e | h'
        · have := hk.1 x hx; omega
        · exact h')
    rw [this]

/-- THE ORDER MAKES NO ODDS. -/
theorem Came.same {c : Nat} {xs ys : List Nat} {m n : Nat} {s r : GS} (h : Came c xs m s) (k : Came c ys n r) (hxy : ∀ x, x ∈ xs ↔ x ∈ ys) : m = n ∧ s.cum = r.cum ∧ s.ways = r.ways := by
  have hmn : m = n := by
    rcases Nat.lt_trichotomy m n with hl | hl | hl
    · exact absurd ((hxy _).2 (k.run (m + 1) (by omega) hl)) h.next
    · exact hl
    · exact absurd ((hxy _).1 (h.run (n + 1) (by omega) hl)) k.next
  subst hmn
  exact ⟨rfl, by rw [h.cum, k.cum], sorted_ext h.sorted k.sorted (fun x => by rw [h.mem, k.mem, hxy])⟩

/-- How many there are: those up to the cumulative one, and those ahead. -/
theorem Came.count {c : Nat} {xs : List Nat} {m : Nat} {s : GS} (h : Came c xs m s) (h1 : ∀ x ∈ xs, 1 ≤ x) (ks : List Nat) (hn : ks.Nodup) (hk : ∀ x, x ∈ ks ↔ x ∈ xs) : m + s.ways.length = ks.length := by
  have hp : (List.range' 1 m ++ s.ways.map (· + m)).Pairwise (· < ·) := by
    rw [List.pairwise_append]
    refine ⟨by simpa using List.pairwise_lt_range' (s := 1) (n := m), ?_, ?_⟩
    · rw [List.pairwise_map]; exact h.sorted.imp fun hab => by omega
    · intro a ha b hb
      obtain ⟨x, hx, rfl⟩ := List.mem_map.1 hb
      have := ((h.mem x).1 hx).2
      have := List.mem_range'_1.1 ha
      omega
  have hnd : (List.range' 1 m ++ s.ways.map (· + m)).Nodup := hp.imp fun hab => by omega
  have hperm : (List.range' 1 m ++ s.ways.map (· + m)).Perm ks := by
    rw [List.perm_ext_iff_of_nodup hnd hn]
    intro x
    rw [hk, List.mem_append, List.mem_range'_1, List.mem_map]
    constructor
    · rintro (⟨a, b⟩ | ⟨y, hy, rfl⟩)
      · exact h.run x a (by omega)
      · exact ((h.mem y).1 hy).1
    · intro hx
      by_cases hxm : x ≤ m
      · exact Or.inl ⟨h1 x hx, by omega⟩
      · exact Or.inr ⟨x - m, (h.mem _).2 ⟨by rwa [Nat.sub_add_cancel (by omega)], by omega⟩, by omega⟩
  have := hperm.length_eq
  simpa using this

/-! ### Gaps -/
structure GapsOk (l : List (Nat × Nat)) : Prop where
  le : ∀ g ∈ l, 2 ≤ g.1 ∧ g.1 ≤ g.2
  apart : l.Pairwise fun g k => g.2 + 2 ≤ k.1

theorem gapsFrom_ok : ∀ (ws : List Nat) (acc : List (Nat × Nat)), ws.Pairwise (· < ·) → (∀ w ∈ ws, 2 ≤ w) → GapsOk acc → (∀ g ∈ acc, ∀ w ∈ ws, g.2 < w) → GapsOk (gapsFrom acc ws)
  | [], acc, _, _, h, _ => h
  | w :: r, acc, hp, h2, h, hlt => by
    rw [List.pairwise_cons] at hp
    have hw2 := h2 w List.mem_cons_self
    have step1 : (∀ g ∈ acc, g.2 + 2 ≤ w) → GapsOk (gapsFrom (acc ++ [(w, w)]) r) := by
      intro hall
      refine gapsFrom_ok r _ hp.2 (fun x hx => h2 x (List.mem_cons_of_mem _ hx)) ⟨?_, ?_⟩ ?_
      · intro g hg
        rcases List.mem_append.1 hg with hg | hg
        · exact h.le g hg
        · rw [List.mem_singleton.1 hg]; exact ⟨hw2, Nat.le_refl _⟩
      · rw [List.pairwise_append]
        refine ⟨h.apart, by simp, ?_⟩
        intro a ha b hb
        rw [List.mem_singleton.1 hb]; exact hall a ha
      · intro g hg x hx
        rcases List.mem_append.1 hg with hg | hg
        · exact hlt g hg x (List.mem_cons_of_mem _ hx)
        · rw [List.mem_singleton.1 hg]; exact hp.1 x hx
    unfold gapsFrom
    cases hl : acc.getLast? with
    | none =>
      simp only []
      obtain rfl : acc = [] := by simpa using hl
      exact step1 (by simp)
    | some p =>
      obtain ⟨a, b⟩ := p
      have hacc : acc = acc.dropLast ++ [(a, b)] := by
        have hne : acc ≠ [] := by intro e; subst e; simp at hl
        rw [List.getLast?_eq_some_getLast hne, Option.some.injEq] at hl
        rw [← hl]; exact (List.dropLast_concat_getLast hne).symm
      have hab : (a, b) ∈ acc := by rw [hacc]; simp
      have hbw := hlt _ hab w List.mem_cons_self
      simp only at hbw
      have hap := h.apart
      rw [hacc, List.pairwise_append] at hap
      simp only []
      split
      · rename_i hb
        refine gapsFrom_ok r _ hp.2 (fun x hx => h2 x (List.mem_cons_of_mem _ hx)) ⟨?_, ?_⟩ ?_
        · intro g hg
          rcases List.mem_append.1 hg with hg | hg
          · exact h.le g (by rw [hacc]; exact List.mem_append_left _ hg)
          · rw [List.mem_singleton.1 hg]; have := h.le _ hab; simp only at this ⊢; omega
        · rw [List.pairwise_append]
          refine ⟨hap.1, by simp, ?_⟩
          intro x hx y hy
          rw [List.mem_singleton.1 hy]
          exact hap.2.2 x hx (a, b) (by simp)
        · intro g hg x hx
          rcases List.mem_append.1 hg with hg | hg
          · exact hlt g (by rw [hacc]; exact List.mem_append_left _ hg) x (List.mem_cons_of_mem _ hx)
          · rw [List.mem_singleton.1 hg]; exact hp.1 x hx
      · rename_i hb
        apply step1
        intro g hg
        rw [hacc] at hg
        rcases List.mem_append.1 hg with hg | hg
        · have h1 := hap.2.2 g hg (a, b) (by simp)
          have h3 := (h.le _ hab).2
          simp only at h1 h3
          omega
        · rw [List.mem_singleton.1 hg]; simp only; omega

theorem gapsG_ok (ws : List Nat) (hp : ws.Pairwise (· < ·)) (h2 : ∀ w ∈ ws, 2 ≤ w) : GapsOk (gapsG ws) := by
  have h := gapsFrom_ok ws [] hp h2 ⟨by simp, by simp⟩ (by simp)
  exact ⟨fun g hg => h.le g (List.mem_of_mem_take hg), h.apart.sublist (List.take_sublist _ _)⟩

end Go.Proofs.Ythnmkcofbjgpaaa
