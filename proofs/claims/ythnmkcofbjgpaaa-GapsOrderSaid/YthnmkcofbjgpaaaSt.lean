/- What it is for memory to hold a set, the program's or the reference's, at the model's state; and what stays. -/
import Derived.Test.YthnmkcofbjgpaaaWa
import Derived.Maps.OwnSet
import Derived.Maps.Views
namespace Go.Proofs.Ythnmkcofbjgpaaa
open Go.RowKit Go.Maps

/-- Nothing has turned but blocks in S, and new ones. -/
structure Fr (S : Nat → Prop) (w w' : World) : Prop where
  os : w'.os = w.os
  tape : w'.tape = w.tape
  output : w'.output = w.output
  size : w.heap.size ≤ w'.heap.size
  block : ∀ k, k < w.heap.size → ¬ S k → w'.heap[k]? = w.heap[k]?

theorem Fr.refl (S : Nat → Prop) (w : World) : Fr S w w := ⟨rfl, rfl, rfl, Nat.le_refl _, fun _ _ _ => rfl⟩
theorem Fr.trans {S : Nat → Prop} {a b c : World} (h : Fr S a b) (k : Fr S b c) : Fr S a c :=
  ⟨k.os.trans h.os, k.tape.trans h.tape, k.output.trans h.output, Nat.le_trans h.size k.size, fun i hi hs => (k.block i (Nat.lt_of_lt_of_le hi h.size) hs).trans (h.block i hi hs)⟩
theorem Fr.mono {S T : Nat → Prop} {w w' : World} (h : Fr S w w') (hst : ∀ k, k < w.heap.size → S k → T k) : Fr T w w' :=
  ⟨h.os, h.tape, h.output, h.size, fun k hk ht => h.block k hk (fun hs => ht (hst k hk hs))⟩
/-- A second step may also write what the first one laid. -/
theorem Fr.andThen {S T : Nat → Prop} {a b c : World} (h : Fr S a b) (k : Fr T b c) (ht : ∀ i, i < a.heap.size → T i → S i) : Fr S a c :=
  ⟨k.os.trans h.os, k.tape.trans h.tape, k.output.trans h.output, Nat.le_trans h.size k.size, fun i hi hs => (k.block i (Nat.lt_of_lt_of_le hi h.size) (fun h' => hs (ht i hi h'))).trans (h.block i hi hs)⟩
theorem Fr.of_grown {S : Nat → Prop} {w w' : World} {row : Option Nat} (h : w.grownBy w' row) (hr : ∀ k, row = some k → k < w.heap.size → S k) : Fr S w w' :=
  ⟨h.os, h.tape, h.output, h.size, fun k hk hs => h.block k hk (fun e => hs (hr k e.symm hk))⟩
theorem Fr.of_below {S : Nat → Prop} {w w' : World} (h : Below w.heap.size w w') : Fr S w w' :=
  ⟨h.os, h.tape, h.output, h.size, fun k hk _ => h.block k hk⟩
theorem Fr.below {S : Nat → Prop} {w w' : World} {B : Nat} (h : Fr S w w') (hB : B ≤ w.heap.size) (hs : ∀ k, k < B → ¬ S k) : Below B w w' :=
  ⟨h.os, h.tape, h.output, h.size, fun k hk => h.block k (by omega) (hs k hk)⟩
theorem Fr.grown {w w' : World} {row : Option Nat} (h : Fr (fun k => some k = row) w w') : w.grownBy w' row := ⟨h.os, h.tape, h.output, h.size, fun k hk hs => h.block k hk hs⟩

theorem Fr.drew {S : Nat → Prop} {w w' : World} (h : Fr S w w') : Fr S w w'.drew := ⟨h.os, h.tape, h.output, h.size, h.block⟩
theorem Fr.drewN {S : Nat → Prop} {w w' : World} (h : Fr S w w') (n : Nat) : Fr S w (w'.drewN n) := ⟨h.os, h.tape, h.output, h.size, h.block⟩

def u32s (l : List Nat) : List Value := l.map fun n : Nat => .int .u32 (n : Int)
def i64s (l : List Nat) : List Value := l.map fun n : Nat => .int .i64 (n : Int)

def IsMap (w : World) (bm : Nat) (cum : Nat) (ways : List Nat) : Prop :=
  ∃ D : DataW Unit, w.ownsMap Try.prog 22 unitElem bm ways.length D ∧ (∀ x : Nat, x < M32 → Maps.has D (.int .u32 x) = decide (wayN cum x ∈ ways)) ∧ Maps.size D = ways.length

/-- The program's set, at block g. -/
structure IsSet (w : World) (g bm : Nat) (v : Value) (s : GS) : Prop where
  blk : w.heap[g]? = some (.cells #[.int .u32 (s.cum : Nat), .map (some bm), v] 54 (0, 0))
  map : IsMap w bm s.cum s.ways
  row : w.ownsRow 0 22 1 v s.dups.length (u32s s.dups)
  ne : v.ownBlock ≠ some g
  wf : WF s

/-- The reference's set, at block g. -/
structure IsRef (w : World) (g : Nat) (u v : Value) (s : GS) : Prop where
  blk : w.heap[g]? = some (.cells #[.int .u32 (s.cum : Nat), u, v] 31 (0, 0))
  ways : w.ownsRow 0 2 1 u s.ways.length (i64s s.ways)
  row : w.ownsRow 0 22 1 v s.dups.length (u32s s.dups)
  neu : u.ownBlock ≠ some g
  nev : v.ownBlock ≠ some g
  uv : u.ownBlock = none ∨ u.ownBlock ≠ v.ownBlock
  wf : WF s

/-- The blocks of a set. -/
def feet (g bm : Nat) (v : Value) (k : Nat) : Prop := k = g ∨ k = bm ∨ some k = v.ownBlock
def feetR (g : Nat) (u v : Value) (k : Nat) : Prop := k = g ∨ some k = u.ownBlock ∨ some k = v.ownBlock

theorem ownsMap_kept {H : Type} {P : Program} {k : TypeId} {R : Value → Option (DataW H × List MemPlace)} {w w' : World} {b n : Nat} {D : DataW H} (h : w.ownsMap P k R b n D) (hb : w'.heap[b]? = w.heap[b]?) : w'.ownsMap P k R b n D := by
  obtain ⟨es, clock, hh, r⟩ := h
  exact ⟨es, clock, hb.trans hh, r⟩

theorem ownsRow_kept {w w' : World} {base : Nat} {e : TypeId} {size : Nat} {v : Value} {n : Nat} {xs : List Value} (h : w.ownsRow base e size v n xs) (hb : ∀ k, v.ownBlock = some k → w'.heap[k]? = w.heap[k]?) : w'.ownsRow base e size v n xs := by
  refine ⟨h.1, ?_⟩
  rcases h.2 with hn | ⟨g, cap, cur, rfl, h1, h2, r⟩
  · exact .inl hn
  · exact .inr ⟨g, cap, cur, rfl, h1, (hb g rfl).trans h2, r⟩

/-- The bound of 'ownsMap' is how many there are. -/
theorem ownsMap_tight {H : Type} {P : Program} {k : TypeId} {R : Value → Option (DataW H × List MemPlace)} {w : World} {b n : Nat} {D : DataW H} (h : w.ownsMap P k R b n D) : w.ownsMap P k R b (Maps.size D) D := by
  obtain ⟨es, clock, hh, F, hs, rfl⟩ := h
  exact ⟨es, clock, hh, F, by simp [Maps.size, length_sorted], rfl⟩

theorem lt_of_heap {w : World} {g : Nat} {o : Obj} (h : w.heap[g]? = some o) : g < w.heap.size := (Array.getElem?_eq_some_iff.1 h).1

theorem IsMap.kept {w w' : World} {bm cum : Nat} {ways : List Nat} (h : IsMap w bm cum ways) (hb : w'.heap[bm]? = w.heap[bm]?) : IsMap w' bm cum ways := by
  obtain ⟨D, h1, h2⟩ := h
  exact ⟨D, ownsMap_kept h1 hb, h2⟩

theorem IsMap.lt {w : World} {bm cum : Nat} {ways : List Nat} (h : IsMap w bm cum ways) : bm < w.heap.size := by
  obtain ⟨D, h1, h2⟩ := h
  exact h1.lt

theorem IsSet.lt {w : World} {g bm : Nat} {v : Value} {s : GS} (h : IsSet w g bm v s) : ∀ k, feet g bm v k → k < w.heap.size := by
  rintro k (rfl | rfl | hk)
  · exact lt_of_heap h.blk
  · exact h.map.lt
  · exact (h.row.lt k hk.symm).2

theorem IsRef.lt {w : World} {g : Nat} {u v : Value} {s : GS} (h : IsRef w g u v s) : ∀ k, feetR g u v k → k < w.heap.size := by
  rintro k (rfl | hk | hk)
  · exact lt_of_heap h.blk
  · exact (h.ways.lt k hk.symm).2
  · exact (h.row.lt k hk.symm).2

/-- A set stays while other blocks are written. -/
theorem IsSet.kept {S : Nat → Prop} {w w' : World} {g bm : Nat} {v : Value} {s : GS} (h : IsSet w g bm v s) (hf : Fr S w w') (hs : ∀ k, feet g bm v k → ¬ S k) : IsSet w' g bm v s := by
  have hb : ∀ k, feet g bm v k → w'.heap[k]? = w.heap[k]? := fun k hk => hf.block k (h.lt k hk) (hs k hk)
  exact ⟨(hb g (Or.inl rfl)).trans h.blk, h.map.kept (hb bm (Or.inr (Or.inl rfl))), ownsRow_kept h.row (fun k hk => hb k (Or.inr (Or.inr hk.symm))), h.ne, h.wf⟩

theorem IsRef.kept {S : Nat → Prop} {w w' : World} {g : Nat} {u v : Value} {s : GS} (h : IsRef w g u v s) (hf : Fr S w w') (hs : ∀ k, feetR g u v k → ¬ S k) : IsRef w' g u v s := by
  have hb : ∀ k, feetR g u v k → w'.heap[k]? = w.heap[k]? := fun k hk => hf.block k (h.lt k hk) (hs k hk)
  exact ⟨(hb g (Or.inl rfl)).trans h.blk, ownsRow_kept h.ways (fun k hk => hb k (Or.inr (Or.inl hk.symm))), ownsRow_kept h.row (fun k hk => hb k (Or.inr (Or.inr hk.symm))), h.neu, h.nev, h.uv, h.wf⟩

theorem IsSet.below {w w' : World} {g bm : Nat} {v : Value} {s : GS} (h : IsSet w g bm v s) (hf : Below w.heap.size w w') : IsSet w' g bm v s :=
  h.kept (S := fun _ => False) (Fr.of_below hf) (fun _ _ h => h)

theorem IsRef.below {w w' : World} {g : Nat} {u v : Value} {s : GS} (h : IsRef w g u v s) (hf : Below w.heap.size w w') : IsRef w' g u v s :=
  h.kept (S := fun _ => False) (Fr.of_below hf) (fun _ _ h => h)

/-- The cells of the block. -/
theorem IsSet.cells {w : World} {g bm : Nat} {v : Value} {s : GS} (h : IsSet w g bm v s) : w.cell? ⟨g, 0, none⟩ = some (.int .u32 (s.cum : Nat)) ∧ w.cell? ⟨g, 1, none⟩ = some (.map (some bm)) ∧ w.cell? ⟨g, 2, none⟩ = some v := by
  simp [World.cell?, h.blk]
theorem IsSet.free {w : World} {g bm : Nat} {v : Value} {s : GS} (h : IsSet w g bm v s) (o : Nat) : w.frozen? ⟨g, o, none⟩ = false := by
  simp [World.frozen?, h.blk]
theorem IsRef.cells {w : World} {g : Nat} {u v : Value} {s : GS} (h : IsRef w g u v s) : w.cell? ⟨g, 0, none⟩ = some (.int .u32 (s.cum : Nat)) ∧ w.cell? ⟨g, 1, none⟩ = some u ∧ w.cell? ⟨g, 2, none⟩ = some v := by
  simp [World.cell?, h.blk]
theorem IsRef.free {w : World} {g : Nat} {u v : Value} {s : GS} (h : IsRef w g u v s) (o : Nat) : w.frozen? ⟨g, o, none⟩ = false := by
  simp [World.frozen?, h.blk]

theorem law22 : Keyed Try.prog 22 := int_keyed Try.underlying22
theorem zero56 (w : World) : (zeroValue 56).run Try.prog w = .ok (.agg #[]) w := by kernel_rfl
theorem keyU (x : Nat) (hx : x < M32) : keyOf Try.prog 22 (.int .u32 (x : Int)) = some (.int .u32 (x : Int)) :=
  keyOf_int_mk Try.underlying22 (WalkArith.wf_u32 (by unfold M32 at hx; omega))

end Go.Proofs.Ythnmkcofbjgpaaa
