/- A region that draws its order and whose last operation waits for all others: it is the region of the others, and the last one behind it. -/
import Derived.Test.YthnmkcofbjgpaaaChecked
import Derived.WalkKit
namespace Go.Proofs.Ythnmkcofbjgpaaa

def frontOk (front : List Oper) (o : Oper) : Bool :=
  (List.range front.length).all (fun i => o.after.any (fun e => Region.binds .any e && (e.on == i || ((front[e.on]?).map (fun x => x.after.any (fun d => Region.binds .any d && d.on == i))).getD false))) &&
  front.zipIdx.all (fun x => x.1.after.all (fun e => !Region.binds .any e || decide (e.on < x.2)) && (match x.1.guard with | some (j, _) => decide (j < front.length) | none => true)) &&
  o.guard.isNone && o.after.all (fun e => !Region.binds .any e || decide (e.on < front.length))

def lastPost (P : Program) (o : Oper) (Q : Exit → Act → World → Prop) : Exit → Act → World → Prop
  | .normal, a, w => o.wp P a w (Q .normal) Q
  | e, a, w => Q e a w

section
variable {P : Program} {front : List Oper} {o : Oper} {Q : Exit → Act → World → Prop}

theorem lastPost_outgrown (h : LetsOut (lastPost P o Q)) : LetsOut Q := h

theorem wpAny_done {md : Region.Mode} {ops : Array Oper} {listed : Array Bool} {a : Act} {w : World} (hr : Region.ready md ops listed = []) (h : Q .normal a w) : ∀ fuel, wpAny P md ops Q fuel listed a w
  | 0 => ⟨hr, h⟩
  | _ + 1 => ⟨fun _ => h, by rw [hr]; simp⟩

theorem frontOk_waits (h : frontOk front o = true) : ∀ i, i < front.length → ∃ e ∈ o.after, Region.binds .any e = true ∧ (e.on = i ∨ ∃ x, front[e.on]? = some x ∧ ∃ d ∈ x.after, Region.binds .any d = true ∧ d.on = i) := by
  intro i hi
  simp only [frontOk, Bool.and_eq_true] at h
  have := List.all_eq_true.1 h.1.1.1 i (List.mem_range.2 hi)
  obtain ⟨e, he, hb⟩ := Array.any_eq_true'.1 this
  simp only [Bool.and_eq_true, Bool.or_eq_true, beq_iff_eq] at hb
  refine ⟨e, he, hb.1, hb.2.imp id (fun h2 => ?_)⟩
  cases hx : front[e.on]? with
  | none => rw [hx] at h2; simp at h2
  | some x =>
    rw [hx] at h2
    simp only [Option.map_some, Option.getD_some] at h2
    obtain ⟨d, hd, hb2⟩ := Array.any_eq_true'.1 h2
    simp only [Bool.and_eq_true, beq_iff_eq] at hb2
    exact ⟨x, rfl, d, hd, hb2.1, hb2.2⟩

theorem frontOk_back (h : frontOk front o = true) {i : Nat} {x : Oper} (hx : front[i]? = some x) : (∀ e ∈ x.after, Region.binds .any e = true → e.on < i) ∧ (∀ j b, x.guard = some (j, b) → j < front.length) := by
  simp only [frontOk, Bool.and_eq_true] at h
  have hm : (x, i) ∈ front.zipIdx := by rw [List.mem_zipIdx_iff_getElem?]; exact hx
  have := List.all_eq_true.1 h.1.1.2 _ hm
  simp only [Bool.and_eq_true] at this
  refine ⟨fun e he hb => ?_, fun j b hg => ?_⟩
  · have h1 := Array.all_eq_true'.1 this.1 e he
    simpa [hb] using h1
  · have h2 := this.2
    rw [hg] at h2
    simpa using h2

theorem yielded_front (tmps : Array Value) (j : Nat) (hj : j < front.length) : yielded (front ++ [o]).toArray tmps j = yielded front.toArray tmps j := by
  unfold yielded
  have : (front ++ [o]).toArray[j]? = front.toArray[j]? := by simp [List.getElem?_append_left hj]
  rw [this]

theorem wanted_front {x : Oper} (tmps : Array Value) (hg : ∀ j b, x.guard = some (j, b) → j < front.length) : Region.wanted x (yielded (front ++ [o]).toArray tmps) = Region.wanted x (yielded front.toArray tmps) := by
  unfold Region.wanted
  split
  · rfl
  · rename_i j b h
    rw [yielded_front tmps j (hg j b h)]

theorem push_getD (listed : Array Bool) (j : Nat) (d : Bool) (h : j < listed.size) : (listed.push false).getD j d = listed.getD j d := by
  simp [Array.getD, h, Nat.lt_succ_of_lt h, Array.getElem_push_lt h]

theorem exists_min (p : Nat → Prop) (n : Nat) (hd : ∃ i, i < n ∧ p i) : ∃ i, i < n ∧ p i ∧ ∀ j, j < i → ¬ p j := by
  obtain ⟨i, hi, hp⟩ := hd
  induction i using Nat.strongRecOn with
  | ind i ih =>
    by_cases h : ∃ j, j < i ∧ p j
    · obtain ⟨j, hj, hpj⟩ := h
      exact ih j hj (by omega) hpj
    · exact ⟨i, hi, hp, fun j hj hpj => h ⟨j, hj, hpj⟩⟩

theorem frontOk_last (h : frontOk front o = true) : o.guard = none ∧ ∀ e ∈ o.after, Region.binds .any e = true → e.on < front.length := by
  simp only [frontOk, Bool.and_eq_true] at h
  refine ⟨by simpa using h.1.2, fun e he hb => ?_⟩
  have h1 := Array.all_eq_true'.1 h.2 e he
  simpa [hb] using h1

theorem get_front {i : Nat} (hi : i < front.length) : (front ++ [o]).toArray[i]? = front.toArray[i]? := by simp [List.getElem?_append_left hi]
theorem get_last : (front ++ [o]).toArray[front.length]? = some o := by simp

theorem getD_flip {l : Array Bool} {i : Nat} (hi : i < l.size) (d d' : Bool) : l.getD i d = l.getD i d' := by simp [Array.getD, hi]

/-- What is listed has all that it waits for listed. -/
def Closed (front : List Oper) (listed : Array Bool) : Prop := ∀ j x, front[j]? = some x → listed.getD j false = true → ∀ e ∈ x.after, Region.binds .any e = true → listed.getD e.on false = true

theorem Closed.set {listed : Array Bool} (hc : Closed front listed) {i : Nat} (hi : i ∈ Region.ready .any front.toArray listed) : Closed front (listed.setIfInBounds i true) := by
  intro j x hx hl e he hb
  obtain ⟨_, y, hy, hal⟩ := mem_ready.1 hi
  by_cases hij : i = j
  · subst hij
    have : y = x := by simp at hy; rw [hx] at hy; exact (Option.some.inj hy).symm
    subst this
    exact getD_set_true (hal e he hb)
  · rw [getD_set_ne false hij] at hl
    exact getD_set_true (hc j x hx hl e he hb)

theorem wpAny_core (h : frontOk front o = true) (fuel : Nat)
    (IH : ∀ f, fuel = f + 1 → ∀ (listed : Array Bool) (a : Act) (w : World), listed.size = front.length → Closed front listed → wpAny P .any front.toArray (lastPost P o Q) f listed a w → wpAny P .any (front ++ [o]).toArray Q (f + 1) (listed.push false) a w)
    (listed : Array Bool) (a : Act) (w : World) (hs : listed.size = front.length) (hcl : Closed front listed) (hh : wpAny P .any front.toArray (lastPost P o Q) fuel listed a w) :
    wpAny P .any (front ++ [o]).toArray Q (fuel + 1) (listed.push false) a w := by
  obtain ⟨hg, hlast⟩ := frontOk_last h
  by_cases hall : ∀ i, i < front.length → listed.getD i true = true
  · have hrf : Region.ready .any front.toArray listed = [] := by
      rw [List.eq_nil_iff_forall_not_mem]
      intro j hj
      obtain ⟨h0, x, hx, _⟩ := mem_ready.1 hj
      have hj' : j < front.length := by simpa using (Array.getElem?_eq_some_iff.1 hx).1
      rw [hall j hj'] at h0; cases h0
    have hq : lastPost P o Q .normal a w := by
      cases fuel with
      | zero => exact hh.2
      | succ f => exact hh.1 hrf
    have hmem : front.length ∈ Region.ready .any (front ++ [o]).toArray (listed.push false) := by
      refine mem_ready.2 ⟨by rw [← hs]; simp [Array.getD], o, get_last, fun e he hb => ?_⟩
      have hl := hlast e he hb
      rw [push_getD _ _ _ (by omega), getD_flip (by omega) false true]
      exact hall _ hl
    refine ⟨fun h0 => (by rw [h0] at hmem; cases hmem), fun i hi => ?_⟩
    obtain ⟨h0, x, hx, _⟩ := mem_ready.1 hi
    have hil : i < front.length + 1 := by simpa using (Array.getElem?_eq_some_iff.1 hx).1
    have hi' : i = front.length := by
      rcases Nat.lt_or_ge i front.length with hlt | hge
      · rw [push_getD _ _ _ (by omega), hall i hlt] at h0; cases h0
      · omega
    subst hi'
    unfold wpOp
    simp only [get_last]
    rw [if_pos (by simp [Region.wanted, hg])]
    refine .inl (Oper.wp_mono (fun a' w' hq' => wpAny_done ?_ hq' _) hq)
    rw [List.eq_nil_iff_forall_not_mem]
    intro j hj
    obtain ⟨h0, x, hx, _⟩ := mem_ready.1 hj
    have hjl : j < front.length + 1 := by simpa using (Array.getElem?_eq_some_iff.1 hx).1
    rcases Nat.lt_or_ge j front.length with hlt | hge
    · rw [getD_set_ne true (by omega), push_getD _ _ _ (by omega), hall j hlt] at h0; cases h0
    · obtain rfl : j = front.length := by omega
      simp [Array.getD, hs] at h0
  · have hex : ∃ i, i < front.length ∧ listed.getD i true = false := by
      refine Classical.byContradiction fun hn => hall fun i hi => ?_
      cases hb : listed.getD i true with
      | true => rfl
      | false => exact absurd ⟨i, hi, hb⟩ hn
    obtain ⟨i0, hi0, hf0, hmin⟩ := exists_min (fun i => listed.getD i true = false) front.length hex
    obtain ⟨x0, hx0⟩ : ∃ x, front[i0]? = some x := ⟨front[i0], by simp [hi0]⟩
    have hr0 : i0 ∈ Region.ready .any front.toArray listed := by
      refine mem_ready.2 ⟨hf0, x0, by simpa using hx0, fun e he hb => ?_⟩
      have hlt := (frontOk_back h hx0).1 e he hb
      have := hmin e.on hlt
      rw [getD_flip (by omega) false true]
      cases hc : listed.getD e.on true with
      | true => rfl
      | false => exact absurd hc this
    cases fuel with
    | zero => rw [hh.1] at hr0; cases hr0
    | succ f =>
      have back : ∀ i, i ∈ Region.ready .any (front ++ [o]).toArray (listed.push false) → i < front.length ∧ i ∈ Region.ready .any front.toArray listed := by
        intro i hi
        obtain ⟨h0, x, hx, hal⟩ := mem_ready.1 hi
        have hil : i < front.length + 1 := by simpa using (Array.getElem?_eq_some_iff.1 hx).1
        rcases Nat.lt_or_ge i front.length with hlt | hge
        · refine ⟨hlt, mem_ready.2 ⟨by rwa [push_getD _ _ _ (by omega)] at h0, x, by rwa [get_front hlt] at hx, fun e he hb => ?_⟩⟩
          have hx' : front[i]? = some x := by rw [get_front hlt] at hx; simpa using hx
          have hlt' := (frontOk_back h hx').1 e he hb
          have := hal e he hb
          rwa [push_getD _ _ _ (by omega)] at this
        · obtain rfl : i = front.length := by omega
          rw [get_last] at hx
          cases hx
          obtain ⟨e, he, hb, hon⟩ := frontOk_waits h i0 hi0
          have h1 := hal e he hb
          have hel := hlast e he hb
          rw [push_getD _ _ _ (by omega)] at h1
          have h2 : listed.getD i0 false = true := by
            rcases hon with hon | ⟨x, hx, d, hd, hdb, hdo⟩
            · rw [← hon]; exact h1
            · rw [← hdo]; exact hcl _ x hx h1 d hd hdb
          rw [getD_flip (by omega) false true, hf0] at h2
          cases h2
      have hr1 : i0 ∈ Region.ready .any (front ++ [o]).toArray (listed.push false) := by
        refine mem_ready.2 ⟨by rw [push_getD _ _ _ (by omega)]; exact hf0, x0, by rw [get_front hi0]; simpa using hx0, fun e he hb => ?_⟩
        obtain ⟨_, x, hx, hal⟩ := mem_ready.1 hr0
        have hxx : x = x0 := by simp at hx; rw [hx0] at hx; exact (Option.some.inj hx).symm
        subst hxx
        have hlt := (frontOk_back h hx0).1 e he hb
        rw [push_getD _ _ _ (by omega)]
        exact hal e he hb
      refine ⟨fun h0 => (by rw [h0] at hr1; cases hr1), fun i hi => ?_⟩
      obtain ⟨hlt, hir⟩ := back i hi
      have h1 := hh.2 i hir
      obtain ⟨x, hx⟩ : ∃ x, front[i]? = some x := ⟨front[i], by simp [hlt]⟩
      have hxa : front.toArray[i]? = some x := by simpa using hx
      unfold wpOp at h1 ⊢
      rw [get_front hlt, hxa]
      simp only [hxa] at h1 ⊢
      rw [wanted_front a.tmps (frontOk_back h hx).2]
      have step : ∀ a' w', wpAny P .any front.toArray (lastPost P o Q) f (listed.setIfInBounds i true) a' w' → wpAny P .any (front ++ [o]).toArray Q (f + 1) ((listed.push false).setIfInBounds i true) a' w' := by
        intro a' w' h2
        have := IH f rfl (listed.setIfInBounds i true) a' w' (by simpa using hs) (hcl.set hir) h2
        have e : (listed.push false).setIfInBounds i true = (listed.setIfInBounds i true).push false := by
          apply Array.ext'
          simp [hs, hlt]
        rw [e]; exact this
      by_cases hw : Region.wanted x (yielded front.toArray a.tmps) = true
      · rw [if_pos hw] at h1 ⊢
        rcases h1 with h1 | h1
        · refine .inl ?_
          have h3 := Oper.wp_mono step h1
          unfold Oper.wp at h3 ⊢
          generalize (execOp a.eval x).run P w = r at *
          cases r with
          | ok n w' => cases n <;> simp only [Oper.upon] at h3 ⊢ <;> first | exact h3 | exact Calls.mono h3 (fun e w'' he => by cases e <;> exact he)
          | halt x w' => cases x <;> simp only [Oper.upon] at h3 ⊢ <;> exact h3
        · exact .inr ⟨h1.1, h1.2⟩
      · rw [if_neg hw] at h1 ⊢
        exact step _ _ h1

theorem wpAny_last (h : frontOk front o = true) : ∀ (fuel : Nat) (listed : Array Bool) (a : Act) (w : World), listed.size = front.length → Closed front listed → wpAny P .any front.toArray (lastPost P o Q) fuel listed a w →
    wpAny P .any (front ++ [o]).toArray Q (fuel + 1) (listed.push false) a w
  | 0, listed, a, w, hs, hc, hh => wpAny_core h 0 (fun f hf => by cases hf) listed a w hs hc hh
  | fuel + 1, listed, a, w, hs, hc, hh => wpAny_core h (fuel + 1) (fun f hf listed a w hs hc hh => by cases hf; exact wpAny_last h _ listed a w hs hc hh) listed a w hs hc hh

/-- A REGION WHOSE LAST OPERATION WAITS FOR ALL OTHERS. -/
theorem wp_region_last {id : Nat} {l : List Oper} {a : Act} {w : World} (hm : P.follows .mixedOrders = true) (hne : l ≠ []) (hB : frontOk l.dropLast (l.getLast hne) = true)
    (h : ∀ front o, l.dropLast = front → l.getLast hne = o → wpAny P .any front.toArray (lastPost P o Q) front.toArray.size (Array.replicate front.toArray.size false) a w.drew) : (Code.region id l.toArray true).wp P Q a w := by
  refine wp_region_any hm ?_
  have h1 := h _ _ rfl rfl
  have hl := List.dropLast_concat_getLast hne
  generalize l.dropLast = front at *
  generalize l.getLast hne = o at *
  subst hl
  have hc0 : Closed front (Array.replicate front.toArray.size false) := by
    intro j x hx hl
    have hj : j < front.length := (List.getElem?_eq_some_iff.1 hx).1
    simp [Array.getD, hj] at hl
  have := wpAny_last hB front.toArray.size (Array.replicate front.toArray.size false) a _ (by simp) hc0 h1
  have e : Array.replicate (front ++ [o]).toArray.size false = (Array.replicate front.toArray.size false).push false := by
    apply Array.ext'
    simp [List.replicate_succ']
  rw [e, show (front ++ [o]).toArray.size = front.toArray.size + 1 from by simp]
  exact this

end
end Go.Proofs.Ythnmkcofbjgpaaa
