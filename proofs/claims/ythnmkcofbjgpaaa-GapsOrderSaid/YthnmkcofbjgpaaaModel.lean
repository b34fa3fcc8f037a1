/- The plain model of a set of TSNs that came (a cumulative one, the ways of those ahead in rising order, what came twice), and its laws. Nothing of the program is in sight here. -/
namespace Go.Proofs.Ythnmkcofbjgpaaa

abbrev M32 : Nat := 4294967296

/-- The way from c on to t, round. -/
def wayN (c t : Nat) : Nat := (t + M32 - c) % M32

structure GS where
  cum : Nat
  ways : List Nat
  dups : List Nat

def hasG (s : GS) (t : Nat) : Bool := s.ways.contains (wayN s.cum t) || t == s.cum || decide (2147483648 < wayN s.cum t)

def insW (w : Nat) : List Nat → List Nat
  | [] => [w]
  | x :: r => if x < w then x :: insW w r else w :: x :: r

/-- What comes one behind the other is taken off: how many, and what is left. -/
def runW : Nat → List Nat → Nat × List Nat
  | 0, l => (0, l)
  | f + 1, l => match l with
    | 1 :: r => let p := runW f (r.map (· - 1)); (p.1 + 1, p.2)
    | l => (0, l)

def addDup (s : GS) (t : Nat) : GS := if s.dups.length < 16 then { s with dups := s.dups ++ [t] } else s

def addG (s : GS) (t : Nat) : Nat × GS :=
  if hasG s t = true then (1, addDup s t)
  else if 65535 < wayN s.cum t then (2, s)
  else
    let l := insW (wayN s.cum t) s.ways
    let p := runW l.length l
    (0, { cum := (s.cum + p.1) % M32, ways := p.2, dups := s.dups })

structure WF (s : GS) : Prop where
  cum : s.cum < M32
  sorted : s.ways.Pairwise (· < ·)
  lo : ∀ x ∈ s.ways, 2 ≤ x
  hi : ∀ x ∈ s.ways, x ≤ 65535
  dlen : s.dups.length ≤ 16
  dlt : ∀ x ∈ s.dups, x < M32

theorem wayN_lt (c t : Nat) : wayN c t < M32 := Nat.mod_lt _ (by decide)

theorem mem_insW {w : Nat} : ∀ {l : List Nat} {x : Nat}, x ∈ insW w l ↔ x = w ∨ x ∈ l
  | [], x => by simp [insW]
  | y :: r, x => by
    unfold insW
    split
    · simp [mem_insW, or_left_comm]
    · simp

theorem length_insW (w : Nat) : ∀ l : List Nat, (insW w l).length = l.length + 1
  | [] => rfl
  | y :: r => by
    unfold insW
    split
    · simp [length_insW w r]
    · simp

theorem sorted_insW {w : Nat} : ∀ {l : List Nat}, l.Pairwise (· < ·) → w ∉ l → (insW w l).Pairwise (· < ·)
  | [], _, _ => by simp [insW]
  | y :: r, hp, hn => by
    rw [List.pairwise_cons] at hp
    simp only [List.mem_cons, not_or] at hn
    unfold insW
    split
    · rename_i h
      rw [List.pairwise_cons]
      refine ⟨fun x hx => ?_, sorted_insW hp.2 hn.2⟩
      rcases mem_insW.1 hx with rfl | hx
      · exact h
      · exact hp.1 x hx
    · rename_i h
      rw [List.pairwise_cons]
      refine ⟨fun x hx => ?_, List.pairwise_cons.2 hp⟩
      rcases List.mem_cons.1 hx with rfl | hx
      · omega
      · have := hp.1 x hx; omega

/-- What 'runW' leaves: its laws at once, for a rising list of ways from 1 on. -/
theorem runW_spec : ∀ (f : Nat) (l : List Nat), l.length ≤ f → l.Pairwise (· < ·) → (∀ x ∈ l, 1 ≤ x) →
    (runW f l).2.Pairwise (· < ·) ∧ (∀ x ∈ (runW f l).2, 2 ≤ x) ∧ (∀ x, x ∈ (runW f l).2 ↔ x + (runW f l).1 ∈ l ∧ 1 ≤ x) ∧ (∀ x, 1 ≤ x → x ≤ (runW f l).1 → x ∈ l) ∧ (runW f l).2.length + (runW f l).1 = l.length := by
  intro f
  induction f with
  | zero =>
    intro l hl hp h1
    obtain rfl : l = [] := List.eq_nil_of_length_eq_zero (by omega)
    simp [runW]
    intro x hx h; omega
  | succ f ih =>
    intro l hl hp h1
    match l with
    | [] => simp [runW]; intro x hx h; omega
    | y :: r =>
      rw [List.pairwise_cons] at hp
      by_cases hy : y = 1
      · subst hy
        have hr : ∀ x ∈ r, 2 ≤ x := fun x hx => hp.1 x hx
        have hpm : (r.map (· - 1)).Pairwise (· < ·) := by
          rw [List.pairwise_map]
          refine hp.2.imp_of_mem fun {a b} ha hb hab => ?_
          have := hr a ha; omega
        have h1m : ∀ x ∈ r.map (· - 1), 1 ≤ x := by
          intro x hx
          obtain ⟨z, hz, rfl⟩ := List.mem_map.1 hx
          have := hr z hz
          omega
        obtain ⟨a1, a2, a3, a4, a5⟩ := ih (r.map (· - 1)) (by simp at hl ⊢; omega) hpm h1m
        have hmem : ∀ x, x ∈ r.map (· - 1) ↔ x + 1 ∈ r := by
          intro x
          constructor
          · intro hx
            obtain ⟨z, hz, rfl⟩ := List.mem_map.1 hx
            have := hr z hz
            rwa [Nat.sub_add_cancel (by omega)]
          · intro hx
            exact List.mem_map.2 ⟨x + 1, hx, by simp⟩
        have e : runW (f + 1) (1 :: r) = ((runW f (r.map (· - 1))).1 + 1, (runW f (r.map (· - 1))).2) := rfl
        rw [e]
        refine ⟨a1, a2, ?_, ?_, ?_⟩
        · intro x
          rw [a3 x, hmem]
          constructor
          · rintro ⟨h, hx⟩
            exact ⟨List.mem_cons_of_mem _ (by rw [← Nat.add_assoc]; exact h), hx⟩
          · rintro ⟨h, hx⟩
            rcases List.mem_cons.1 h with h | h
            · simp only at h; omega
            · exact ⟨by rw [Nat.add_assoc]; exact h, hx⟩
        · intro x hx hxk
          simp only at hxk
          by_cases hx1 : x = 1
          · subst hx1; exact List.mem_cons_self
          · have := a4 (x - 1) (by omega) (by omega)
            rw [hmem, Nat.sub_add_cancel (by omega)] at this
            exact List.mem_cons_of_mem _ this
        · simp only [List.length_cons, List.length_map] at a5 ⊢; omega
      · have e : runW (f + 1) (y :: r) = (0, y :: r) := by
          unfold runW
          split
          · rename_i heq; cases heq; exact absurd rfl hy
          · rfl
        rw [e]
        have hy2 : 2 ≤ y := by have := h1 y List.mem_cons_self; omega
        refine ⟨List.pairwise_cons.2 hp, ?_, ?_, ?_, rfl⟩
        · intro x hx
          rcases List.mem_cons.1 hx with rfl | hx
          · exact hy2
          · have := hp.1 x hx; omega
        · intro x
          simp only [Nat.add_zero]
          exact ⟨fun h => ⟨h, h1 x h⟩, fun h => h.1⟩
        · intro x h1 h2; simp only at h2; omega

theorem WF.addG {s : GS} (h : WF s) {t : Nat} (ht : t < M32) : WF (addG s t).2 := by
  unfold Ythnmkcofbjgpaaa.addG
  split
  · unfold addDup
    split
    · rename_i h16
      refine ⟨h.cum, h.sorted, h.lo, h.hi, by simp; omega, ?_⟩
      intro x hx
      rcases List.mem_append.1 hx with hx | hx
      · exact h.dlt x hx
      · rw [List.mem_singleton.1 hx]; exact ht
    · exact h
  · rename_i hn
    split
    · exact h
    · rename_i hle
      unfold hasG at hn
      simp only [Bool.or_eq_true, not_or, List.contains_iff_mem, beq_iff_eq, decide_eq_true_eq] at hn
      have h0 : 1 ≤ wayN s.cum t := by
        have := h.cum
        unfold wayN M32 at *
        omega
      have hp := sorted_insW h.sorted hn.1.1
      have h1 : ∀ x ∈ insW (wayN s.cum t) s.ways, 1 ≤ x := by
        intro x hx
        rcases mem_insW.1 hx with rfl | hx
        · exact h0
        · have := h.lo x hx; omega
      obtain ⟨a1, a2, a3, a4, a5⟩ := runW_spec _ _ (Nat.le_refl _) hp h1
      refine ⟨Nat.mod_lt _ (by decide), a1, a2, ?_, h.dlen, h.dlt⟩
      intro x hx
      have := ((a3 x).1 hx).1
      rcases mem_insW.1 this with hh | hh
      · simp only at hx ⊢; omega
      · have := h.hi _ hh; omega

/-- A rising list of ways from 2 to 65535 is short. -/
theorem length_le_of_sorted : ∀ (l : List Nat) (a b : Nat), l.Pairwise (· < ·) → (∀ x ∈ l, a ≤ x) → (∀ x ∈ l, x < b) → l.length ≤ b - a
  | [], _, _, _, _, _ => by simp
  | y :: r, a, b, hp, ha, hb => by
    rw [List.pairwise_cons] at hp
    have := length_le_of_sorted r (y + 1) b hp.2 (fun x hx => hp.1 x hx) (fun x hx => hb x (List.mem_cons_of_mem _ hx))
    have h1 := ha y List.mem_cons_self
    have h2 := hb y List.mem_cons_self
    simp
    omega

theorem WF.wlen {s : GS} (h : WF s) : s.ways.length ≤ 65534 :=
  length_le_of_sorted s.ways 2 65536 h.sorted h.lo (fun x hx => by have := h.hi x hx; omega)

/-- The gaps: the runs, rising. -/
def gapsFrom (acc : List (Nat × Nat)) : List Nat → List (Nat × Nat)
  | [] => acc
  | w :: r => match acc.getLast? with
    | some (a, b) => if b + 1 = w then gapsFrom (acc.dropLast ++ [(a, w)]) r else gapsFrom (acc ++ [(w, w)]) r
    | none => gapsFrom (acc ++ [(w, w)]) r

def gapsG (l : List Nat) : List (Nat × Nat) := (gapsFrom [] l).take 64

end Go.Proofs.Ythnmkcofbjgpaaa
