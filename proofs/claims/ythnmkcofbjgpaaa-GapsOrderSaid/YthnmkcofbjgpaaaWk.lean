/- The program's Gaps: what its loop over the map collects, in plain Lean; the sorted row; the break at 64. -/
import Derived.Test.YthnmkcofbjgpaaaWi
import Derived.Test.YthnmkcofbjgpaaaMp
import Derived.Test.YthnmkcofbjgpaaaOrder
import Derived.Test.YthnmkcofbjgpaaaSe
import Derived.Sort.OwnSorted
import Derived.Maps.RangeWalk
namespace Go.Proofs.Ythnmkcofbjgpaaa
open Go.RowKit Go.Maps Go.Sort

def i16s (l : List Nat) : List Int := l.map fun n : Nat => (n : Int)
def u16s (l : List Nat) : List Value := (i16s l).map (Value.int .u16)

theorem u16s_get (l : List Nat) (i : Nat) (h : i < l.length) : (u16s l)[i]? = some (.int .u16 (l.getD i 0 : Nat)) := by
  simp [u16s, i16s, List.getElem?_map, List.getElem?_eq_getElem h]
theorem u16s_snoc (l : List Nat) (x : Nat) : u16s l ++ [.int .u16 (x : Int)] = u16s (l ++ [x]) := by simp [u16s, i16s]

/-- What the loop has collected: the ways whose TSNs no longer are to come. -/
structure Coll (left : Lit → Bool) (cum : Nat) (ways xs : List Nat) : Prop where
  nodup : xs.Nodup
  sub : ∀ x ∈ xs, x ∈ ways
  rest : ∀ k : Nat, k < M32 → (left (.int .u32 (k : Int)) = true ↔ (wayN cum k ∈ ways ∧ wayN cum k ∉ xs))

theorem Coll.start {D : DataW Unit} {cum : Nat} {ways : List Nat} (h : Keys D cum ways) : Coll (Maps.has D) cum ways [] :=
  ⟨List.nodup_nil, by simp, fun k hk => by rw [h.has k hk]; simp⟩

theorem Coll.step {left : Lit → Bool} {cum : Nat} {ways xs : List Nat} (h : Coll left cum ways xs) (hc : cum < M32) {t : Nat} (ht : t < M32) (hl : left (.int .u32 (t : Int)) = true) :
    Coll (fun z => left z && !z.sameKey (.int .u32 (t : Int))) cum ways (xs ++ [wayN cum t]) := by
  obtain ⟨h1, h2⟩ := (h.rest t ht).1 hl
  refine ⟨?_, ?_, fun k hk => ?_⟩
  · rw [List.nodup_append]
    refine ⟨h.nodup, by simp, fun a ha b hb e => ?_⟩
    rw [List.mem_singleton.1 hb] at e
    exact h2 (e ▸ ha)
  · intro x hx
    rcases List.mem_append.1 hx with hx | hx
    · exact h.sub x hx
    · rw [List.mem_singleton.1 hx]; exact h1
  · by_cases e : k = t
    · subst e
      have := WideAt.sameKey_self (isKey (k : Int))
      simp only [this]
      simp
    · have : (Lit.int .u32 (k : Int)).sameKey (.int .u32 (t : Int)) = false := Maps.sameKey_ne (key_ne e)
      simp only [this, Bool.not_false, Bool.and_true, h.rest k hk, List.mem_append, List.mem_singleton, not_or]
      constructor
      · rintro ⟨a, b⟩
        exact ⟨a, b, fun e' => e (wayN_inj hc hk ht e')⟩
      · rintro ⟨a, b, _⟩
        exact ⟨a, b⟩

theorem sorted_extI : ∀ {l k : List Int}, l.Pairwise (· < ·) → k.Pairwise (· < ·) → (∀ x, x ∈ l ↔ x ∈ k) → l = k
  | [], [], _, _, _ => rfl
  | [], y :: r, _, _, h => by have := (h y).2 List.mem_cons_self; simp at this
  | y :: r, [], _, _, h => by have := (h y).1 List.mem_cons_self; simp at this
  | y :: r, z :: q, hl, hk, h => by
    rw [List.pairwise_cons] at hl hk
    have hyz : y = z := by
      have h1 := (h y).1 List.mem_cons_self
      have h2 := (h z).2 List.mem_cons_self
      rcases List.mem_cons.1 h1 with e | h1
      · exact e
      · rcases List.mem_cons.1 h2 with e | h2
        · exact e.symm
        · have := hk.1 _ h1; have := hl.1 _ h2; omega
    subst hyz
    congr 1
    refine sorted_extI hl.2 hk.2 fun x => ?_
    have hx := h x
    rw [List.mem_cons, List.mem_cons] at hx
    constructor
    · intro hm
      have := hl.1 x hm
      exact (hx.1 (Or.inr hm)).resolve_left (by omega)
    · intro hm
      have := hk.1 x hm
      exact (hx.2 (Or.inr hm)).resolve_left (by omega)

theorem nodup_map_cast (l : List Nat) (h : l.Nodup) : (i16s l).Nodup := by
  unfold i16s
  rw [List.nodup_iff_pairwise_ne, List.pairwise_map]
  rw [List.nodup_iff_pairwise_ne] at h
  exact h.imp fun hab e => hab (by omega)

theorem Coll.all {left : Lit → Bool} {s : GS} {xs : List Nat} (h : Coll left s.cum s.ways xs) (hw : WF s) (hl : ∀ kl, left kl = false) :
    xs.length = s.ways.length ∧ (i16s xs).mergeSort (fun x y => decide (x ≤ y)) = i16s s.ways := by
  have hm : ∀ x, x ∈ xs ↔ x ∈ s.ways := by
    refine fun x => ⟨h.sub x, fun hx => ?_⟩
    have h2 := hw.lo x hx
    have h3 := hw.hi x hx
    have hc := hw.cum
    have hk : (s.cum + x) % M32 < M32 := Nat.mod_lt _ (by decide)
    have := h.rest _ hk
    rw [hl] at this
    have e : wayN s.cum ((s.cum + x) % M32) = x := by unfold wayN M32 at *; omega
    rw [e] at this
    simp at this
    exact this hx
  have key : (i16s xs).mergeSort (fun x y => decide (x ≤ y)) = i16s s.ways := by
    have hp := List.mergeSort_perm (i16s xs) (fun x y => decide (x ≤ y))
    refine sorted_extI ?_ ?_ fun x => ?_
    · have h1 : ((i16s xs).mergeSort (fun x y => decide (x ≤ y))).Pairwise (fun x y => decide (x ≤ y) = true) :=
        List.pairwise_mergeSort (fun a b c h1 h2 => by simp at *; omega) (fun a b => by simp; omega) _
      have h2 : ((i16s xs).mergeSort (fun x y => decide (x ≤ y))).Nodup := hp.nodup_iff.2 (nodup_map_cast _ h.nodup)
      rw [List.nodup_iff_pairwise_ne] at h2
      exact (h1.and h2).imp fun ⟨a, b⟩ => by simp at a; omega
    · unfold i16s
      rw [List.pairwise_map]
      exact hw.sorted.imp fun h => by omega
    · rw [hp.mem_iff]
      unfold i16s
      simp only [List.mem_map, hm]
  refine ⟨?_, key⟩
  have := congrArg List.length key
  simpa [i16s] using this

/-! ### The sorted row -/
theorem holds_u16 {w : World} {g : Nat} {cur : Array Value} {e : TypeId} {ss : List Int} (hb : w.heap[g]? = some (.cells cur e (0, 0))) (ht : cur.toList.take ss.length = ss.map (Value.int .u16)) : Holds (Value.int .u16) w g 0 ss.toArray := by
  intro j hj
  have hj' : j < ss.length := by simpa using hj
  refine ⟨?_, by simp [World.frozen?, hb]⟩
  have h1 : (cur.toList.take ss.length)[j]? = (ss.map (Value.int .u16))[j]? := by rw [ht]
  rw [List.getElem?_take_of_lt hj'] at h1
  simp only [World.cell?, hb, Nat.zero_add]
  simp only [Option.isSome_none, Bool.false_eq_true, if_false]
  rw [← Array.getElem?_toList, h1]
  simp [hj']

theorem heap_u16 {w : World} {g n : Nat} {os : Array Obj} {cur : Array Value} {e : TypeId} {fr : Nat × Nat} (d : Array Int) (hb : w.heap[g]? = some (.cells cur e fr)) :
    (grow (putRow (Value.int .u16) (Sort.ahead w n) g 0 d) os).heap[g]? = some (.cells (putCells (Value.int .u16) 0 d cur) e fr) := by
  have hg : g < w.heap.size := (Array.getElem?_eq_some_iff.1 hb).1
  rw [heap_grow_old _ _ (by simpa using hg)]
  simp [putRow, mapBlock, Sort.ahead, Array.getElem?_modify, hb]
  rfl

theorem grown_u16 {w : World} {g n : Nat} {os : Array Obj} (d : Array Int) : w.grownBy (grow (putRow (Value.int .u16) (Sort.ahead w n) g 0 d) os) (some g) := by
  refine ⟨rfl, rfl, rfl, by simp, fun k hk hne => ?_⟩
  rw [heap_grow_old _ _ (by simpa using hk)]
  have : g ≠ k := fun e => hne (by rw [e])
  simp [putRow, mapBlock, Sort.ahead, Array.getElem?_modify, this]

theorem take_u16 (cur : Array Value) (ts : List Int) (h : ts.length ≤ cur.size) : (putCells (Value.int .u16) 0 ts.toArray cur).toList.take ts.length = ts.map (Value.int .u16) := by
  apply List.ext_getElem?
  intro j
  by_cases hj : j < ts.length
  · rw [List.getElem?_take_of_lt hj, Array.getElem?_toList]
    simp [putCells, hj, show j < cur.size by omega]
  · rw [List.getElem?_take_eq_none (by omega), List.getElem?_eq_none (by simp; omega)]

theorem row_u16 {w : World} {base g cap n : Nat} {e : TypeId} {os : Array Obj} {cur : Array Value} {m : Nat} {ts : List Int} (hl : ts.length = m) (hbase : base ≤ g) (hb : w.heap[g]? = some (.cells cur e (0, 0)))
    (h1 : m ≤ cap) (h2 : cap ≤ maxLen) (h3 : cur.size = cap * 1) :
    (grow (putRow (Value.int .u16) (Sort.ahead w n) g 0 ts.toArray) os).ownsRow base e 1 (.slice (some ⟨g, 0, none⟩) m cap) m (ts.map (Value.int .u16)) :=
  ⟨by simp [hl], .inr ⟨g, cap, _, rfl, hbase, heap_u16 _ hb, h1, h2, by simp [putCells, h3], by rw [Nat.mul_one, ← hl]; exact take_u16 cur ts (by omega)⟩⟩

/-! ### The break at 64 -/
theorem prefix_gstep {p acc : List (Nat × Nat)} (h : p <+: acc) (hl : p.length < acc.length) (w : Nat) : p <+: gstep acc w ∧ p.length < (gstep acc w).length := by
  unfold gstep
  split
  · rename_i a b hla
    split
    · refine ⟨List.IsPrefix.trans ?_ (List.prefix_append _ _), by simp; omega⟩
      obtain ⟨q, rfl⟩ := h
      have hq : q ≠ [] := by intro e; subst e; simp at hl
      rw [List.dropLast_append_of_ne_nil hq]
      exact List.prefix_append _ _
    · exact ⟨h.trans (List.prefix_append _ _), by simp; omega⟩
  · exact ⟨h.trans (List.prefix_append _ _), by simp; omega⟩

theorem prefix_fold {p : List (Nat × Nat)} : ∀ (ws : List Nat) {acc : List (Nat × Nat)}, p <+: acc → p.length < acc.length → p <+: ws.foldl gstep acc
  | [], _, h, _ => h
  | w :: r, acc, h, hl => by
    obtain ⟨a, b⟩ := prefix_gstep h hl w
    exact prefix_fold r a b

theorem runs_all (ws : List Nat) : gapsG ws = (runs ws ws.length).take 64 := by
  show (gapsFrom [] ws).take 64 = _
  unfold runs
  rw [List.take_length, gapsFrom_fold]

/-- With 64 runs, and no joining of the next: the answer stands. -/
theorem runs_stop (ws : List Nat) (k : Nat) (hk : k < ws.length) (h64 : (runs ws k).length = 64) (hn : gstep (runs ws k) (ws.getD k 0) = runs ws k ++ [(ws.getD k 0, ws.getD k 0)]) : gapsG ws = runs ws k := by
  have hp : runs ws k <+: runs ws ws.length := by
    have e : runs ws ws.length = (ws.drop (k + 1)).foldl gstep (runs ws (k + 1)) := by
      unfold runs
      rw [← List.foldl_append, List.take_append_drop, List.take_length]
    rw [e]
    refine prefix_fold _ ?_ ?_
    · rw [runs_succ ws k hk, hn]; exact List.prefix_append _ _
    · rw [runs_succ ws k hk, hn]; simp
  rw [runs_all]
  obtain ⟨q, hq⟩ := hp
  rw [← hq, ← h64, List.take_left]

theorem runs_le {ws : List Nat} (h : (runs ws ws.length).length ≤ 64) : gapsG ws = runs ws ws.length := by
  rw [runs_all, List.take_of_length_le h]

theorem ownsRow_base {w : World} {b0 base : Nat} {e : TypeId} {size : Nat} {v : Value} {n : Nat} {xs : List Value} (h : w.ownsRow base e size v n xs) (hb : b0 ≤ base) : w.ownsRow b0 e size v n xs := by
  refine ⟨h.1, ?_⟩
  rcases h.2 with hn | ⟨g, cap, cur, rfl, h1, r⟩
  · exact .inl hn
  · exact .inr ⟨g, cap, cur, rfl, by omega, r⟩

end Go.Proofs.Ythnmkcofbjgpaaa
