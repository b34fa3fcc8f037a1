/- The reference's set: Add of a TSN that is new, walked. -/
import Derived.Test.YthnmkcofbjgpaaaWf
import Derived.Test.YthnmkcofbjgpaaaMp
import Derived.Test.YthnmkcofbjgpaaaRl
import Derived.Deep.DeepCutAuto
import Derived.Deep.CutBlock
namespace Go.Proofs.Ythnmkcofbjgpaaa
open Go.RowKit Go.Maps

theorem take_insW (w : Nat) : ∀ (l : List Nat) (k : Nat), k ≤ l.length → (∀ j, j < k → l.getD j 0 < w) → (k < l.length → ¬ l.getD k 0 < w) → l.take k ++ w :: l.drop k = insW w l
  | [], k, hk, _, _ => by
    have : k = 0 := by simpa using hk
    subst this; rfl
  | x :: r, 0, _, _, h2 => by
    have := h2 (by simp)
    simp at this
    simp [insW]
    intro h; omega
  | x :: r, k + 1, hk, h1, h2 => by
    have h0 := h1 0 (by omega)
    simp at h0
    have ih := take_insW w r k (by simpa using hk) (fun j hj => by have := h1 (j + 1) (by omega); simpa using this) (fun hk' => by have := h2 (by simpa using hk'); simpa using this)
    simp [insW, h0, ih]

theorem size2 (W : World) : (Go.sizeOf 2).run Try.prog W = .ok 1 W := by kernel_rfl

/-- What the two slices of a row are, in whatever world. -/
theorem run_take (W : World) (a : Option Addr) (n cap k : Nat) (hk : k ≤ n) (hc : n ≤ cap) : (Instr.slice 28 (.slice a n cap) none (some (.int .i64 k)) none).run Try.prog W = .ok (.slice a k cap) W := by
  rw [run_slice_h (P := Try.prog) W 28 a n cap (by kernel_rfl) .i64 k (by omega) (by omega)]
  rw [show Try.prog.elem 28 = 2 from by kernel_rfl, size2]
  cases a <;> simp [Result.andThen, sliced, Addr.add]

theorem run_drop (W : World) (a : Option Addr) (n cap k : Nat) (hk : k ≤ n) : (Instr.slice 28 (.slice a n cap) (some (.int .i64 k)) none none).run Try.prog W = .ok (.slice (if cap = k then a else a.map (·.add k)) (n - k) (cap - k)) W := by
  rw [run_slice_l (P := Try.prog) W 28 a n cap (by kernel_rfl) .i64 k (by omega) (by omega)]
  rw [show Try.prog.elem 28 = 2 from by kernel_rfl, size2]
  simp [Result.andThen, sliced]

/-- What lies at an address, number by number. -/
def Reads (w : World) (xa : Option Addr) (l : List Nat) : Prop := ∀ ad, xa = some ad → ad.block < w.heap.size ∧ ∀ j u, (i64s l)[j]? = some u → w.cell? (ad.add j) = some u

theorem Reads.below {w w' : World} {xa : Option Addr} {l : List Nat} (h : Reads w xa l) (hb : Below w.heap.size w w') : Reads w' xa l := fun ad e => by
  obtain ⟨h1, h2⟩ := h ad e
  refine ⟨Nat.lt_of_lt_of_le h1 hb.size, fun j u hu => ?_⟩
  have hbk : (ad.add j).block = ad.block := by unfold Addr.add; split <;> rfl
  rw [hb.cell (by rw [hbk]; exact h1)]
  exact h2 j u hu

theorem Reads.grown {w w' : World} {row : Option Nat} {xa : Option Addr} {l : List Nat} (h : Reads w xa l) (hg : w.grownBy w' row) (hne : ∀ ad, xa = some ad → row ≠ some ad.block) : Reads w' xa l := fun ad e => by
  obtain ⟨h1, h2⟩ := h ad e
  refine ⟨Nat.lt_of_lt_of_le h1 hg.size, fun j u hu => ?_⟩
  have hbk : (ad.add j).block = ad.block := by unfold Addr.add; split <;> rfl
  exact hg.cell (h2 j u hu) (by rw [hbk]; exact Ne.symm (hne ad e))

theorem Reads.one (w : World) (x : Nat) : Reads (w.alloc (.cells #[.int .i64 (x : Int)] 2)) (some ⟨w.heap.size, 0, none⟩) [x] := fun ad e => by
  cases e
  refine ⟨by simp, fun j u hu => ?_⟩
  exact cell_one_new w _ _ j u (by simpa [i64s] using hu)

theorem add_add (b i j : Nat) : (⟨b, i, none⟩ : Addr).add j = ⟨b, i + j, none⟩ := by
  unfold Addr.add; split
  · rename_i h; subst h; rfl
  · rfl

theorem reads_row {w : World} {base : Nat} {u : Value} {l : List Nat} (h : w.ownsRow base 2 1 u l.length (i64s l)) :
    ∃ a cap, u = .slice a l.length cap ∧ l.length ≤ cap ∧ (a = none → cap = 0) ∧ (∀ i (x : Value), (i64s l)[i]? = some x → ∃ b, a = some ⟨b, 0, none⟩ ∧ w.cell? ⟨b, i, none⟩ = some x) ∧
      ∀ k, k ≤ l.length → Reads w a (l.take k) ∧ Reads w (if cap = k then a else a.map (·.add k)) (l.drop k) := by
  rcases h.2 with ⟨rfl, hn⟩ | ⟨g, cap, cur, rfl, h1, h2, h3, _⟩
  · have hl : l = [] := List.eq_nil_of_length_eq_zero hn
    subst hl
    refine ⟨none, 0, rfl, Nat.le_refl _, fun _ => rfl, fun i x hx => by simp [i64s] at hx, fun k hk => ⟨fun ad e => (by cases e), fun ad e => ?_⟩⟩
    simp at e
  · have hc : ∀ i (x : Value), (i64s l)[i]? = some x → w.cell? ⟨g, i, none⟩ = some x := fun i x hx => by
      have := h.cells (g := g) rfl i x hx
      rwa [add_add, Nat.zero_add] at this
    refine ⟨_, cap, rfl, h3, fun e => (by cases e), fun i x hx => ⟨g, rfl, hc i x hx⟩, fun k hk => ⟨fun ad e => ?_, fun ad e => ?_⟩⟩
    · cases e
      refine ⟨lt_of_heap h2, fun j u hu => ?_⟩
      rw [add_add, Nat.zero_add]
      refine hc j u ?_
      simp only [i64s, List.map_take, List.getElem?_take] at hu
      split at hu
      · exact hu
      · cases hu
    · split at e
      · rename_i ek
        cases e
        refine ⟨lt_of_heap h2, fun j u hu => ?_⟩
        have : l.drop k = [] := List.drop_eq_nil_of_le (by omega)
        rw [this] at hu
        simp [i64s] at hu
      · simp only [Option.map_some, Option.some.injEq] at e
        subst e
        rw [add_add, Nat.zero_add]
        refine ⟨lt_of_heap h2, fun j u hu => ?_⟩
        rw [add_add]
        refine hc (k + j) u ?_
        simpa [i64s, List.map_drop, List.getElem?_drop] using hu

theorem i64s_append (l k : List Nat) : i64s l ++ i64s k = i64s (l ++ k) := by simp [i64s]

/-- append of numbers onto a row of numbers of the call's own, in a region that draws. -/
theorem step_i64 {w : World} {ops : Array Oper} {o : Oper} {a : Act} {K : Act → World → Prop} {Q : Exit → Act → World → Prop} {E : Prop} (hgd : o.guard = none) (s x : Operand)
    (ho : o.op = .call { callee := .builtin .append, args := #[s, x], argTypes := #[28, 28] }) (base : Nat) (v : Value) (n : Nat) (xs : List Nat) (hs : a.eval s = v) (hown : w.ownsRow base 2 1 v n (i64s xs))
    (xa : Option Addr) (m c : Nat) (news : List Nat) (hx : a.eval x = .slice xa m c) (hl : news.length = m) (hc : xa = none → c = 0 ∧ m = 0) (hnews : Reads w xa news) (N : Nat) (hN : N = n + m) (hb : N ≤ 1000000) (hbase : base ≤ w.heap.size)
    (h : ∀ a' c' w', w'.ownsRow base 2 1 (.slice a' N c') N (i64s (xs ++ news)) → w.grownBy w' v.ownBlock → ((Value.slice a' N c').ownBlock = v.ownBlock ∨ (Value.slice a' N c').ownBlock = some w.heap.size) → K (a.put o.dst (.slice a' N c')) w') :
    if Region.wanted o (yielded ops a.tmps) = true then Oper.wp Try.prog o a w K Q else E := by
  subst hN
  obtain ⟨i0, hi, hz0, hz1, hz2⟩ := info_parts info2
  refine step_app hgd s x 28 ho base 2 i0 (.int .i64 0) 8 Try.underlying28 hi hz0 hz1 hz2 rfl v n (i64s xs) hs hown xa m c (i64s news) hx (by simpa [i64s] using hl) (fun e => (hc e).1) (fun ad e => (hnews ad e).2) (fun e => (hc e).2) ?_ (by unfold maxLen; omega) (by omega) hbase ?_
  · intro u hu
    obtain ⟨y, _, rfl⟩ := List.mem_map.1 hu
    simp [Value.oneCell']
  · intro a' c' w' h1 h2 h3
    rw [i64s_append] at h1
    exact h a' c' w' h1 h2 h3

theorem reads_two (w : World) (o : Obj) (x : Nat) : Reads ((w.alloc o).alloc (.cells #[.int .i64 (x : Int)] 2)).drew (some ⟨w.heap.size + 1, 0, none⟩) [x] := by
  have := Reads.one (w.alloc o) x
  rw [show (w.alloc o).heap.size = w.heap.size + 1 from by simp] at this
  exact this
theorem reads_two' (w : World) (o : Obj) (x : Nat) : Reads ((w.alloc (.cells #[.int .i64 (x : Int)] 2)).alloc o).drew (some ⟨w.heap.size, 0, none⟩) [x] :=
  (Reads.one w x).below ((Below.refl _ _).alloc (Nat.le_refl _) o).drew

theorem close_ins {w w1 : World} {g k : Nat} {u v : Value} {s : GS} {a3 : Option Addr} {c3 x : Nat} (h : IsRef w g u v s) (hb : Below w.heap.size w w1)
    (ho : w1.ownsRow w.heap.size 2 1 (.slice a3 (s.ways.length + 1) c3) (s.ways.length + 1) (i64s (s.ways.take k ++ [x] ++ s.ways.drop k))) (hl : s.ways.take k ++ x :: s.ways.drop k = insW x s.ways) :
    ∃ a' c', (w1.setCell ⟨g, 1, none⟩ (.slice a3 (s.ways.length + 1) c3)).heap[g]? = some (.cells #[.int .u32 (s.cum : Nat), .slice a' (s.ways.length + 1) c', v] 31 (0, 0)) ∧
      (w1.setCell ⟨g, 1, none⟩ (.slice a3 (s.ways.length + 1) c3)).ownsRow w.heap.size 2 1 (.slice a' (s.ways.length + 1) c') (s.ways.length + 1) (i64s (insW x s.ways)) ∧ Fr (fun i => i = g) w (w1.setCell ⟨g, 1, none⟩ (.slice a3 (s.ways.length + 1) c3)) := by
  have hgl := lt_of_heap h.blk
  have hb1 := (hb.block g hgl).trans h.blk
  refine ⟨a3, c3, ?_, ?_, ?_⟩
  · rw [setCell_block hb1]; rfl
  · rw [List.append_assoc, List.singleton_append, hl] at ho
    refine ownsRow_kept ho (fun k hk => Below.heap_setCell _ _ _ _ ?_)
    have := (ho.lt k hk).1
    intro e; simp only at e; omega
  · exact (Fr.of_below hb).trans (Fr.setCell (S := fun i => i = g) w1 (p := ⟨g, 1, none⟩) rfl _)

/-- What holds at the head of the second loop: k rounds at most are to come. -/
structure RefRel (w : World) (g : Nat) (v : Value) (c0 : Nat) (l0 : List Nat) (k : Nat) (wr : World) : Prop where
  lt : ∃ cum l n a3 c3, k = l.length + 1 ∧ cum < M32 ∧ wr.heap[g]? = some (.cells #[.int .u32 (cum : Nat), .slice a3 l.length c3, v] 31 (0, 0)) ∧ wr.ownsRow w.heap.size 2 1 (.slice a3 l.length c3) l.length (i64s l) ∧ l.Pairwise (· < ·) ∧ (∀ x ∈ l, 1 ≤ x) ∧ (∀ x ∈ l, x ≤ 65535) ∧
    cum = (c0 + n) % M32 ∧ runW l0.length l0 = ((runW l.length l).1 + n, (runW l.length l).2)
  fr : Fr (fun i => i = g) w wr

theorem refRel_start {w w2 : World} {g : Nat} {u v : Value} {s : GS} {t c3 : Nat} {a3 : Option Addr} (ht : t < M32) (hh : hasG s t = false) (hf : ¬ 65535 < wayN s.cum t) (h : IsRef w g u v s)
    (hb : w2.heap[g]? = some (.cells #[.int .u32 (s.cum : Nat), .slice a3 (s.ways.length + 1) c3, v] 31 (0, 0))) (hr : w2.ownsRow w.heap.size 2 1 (.slice a3 (s.ways.length + 1) c3) (s.ways.length + 1) (i64s (insW (wayN s.cum t) s.ways))) (hfr : Fr (fun i => i = g) w w2) :
    RefRel w g v s.cum (insW (wayN s.cum t) s.ways) ((insW (wayN s.cum t) s.ways).length + 1) w2 := by
  unfold hasG at hh
  simp only [Bool.or_eq_false_iff, List.contains_eq_mem, decide_eq_false_iff_not, beq_eq_false_iff_ne] at hh
  have hcum := h.wf.cum
  have hl := length_insW (wayN s.cum t) s.ways
  refine ⟨⟨s.cum, _, 0, a3, c3, rfl, hcum, by rw [hl]; exact hb, by rw [hl]; exact hr, sorted_insW h.wf.sorted hh.1.1, ?_, ?_, by rw [Nat.add_zero, Nat.mod_eq_of_lt hcum], rfl⟩, hfr⟩
  · intro x hx
    rcases mem_insW.1 hx with rfl | hx
    · unfold wayN M32 at *; omega
    · have := h.wf.lo x hx; omega
  · intro x hx
    rcases mem_insW.1 hx with rfl | hx
    · omega
    · exact h.wf.hi x hx

theorem refRel_end {w wr : World} {g : Nat} {u v : Value} {s : GS} {t : Nat} {l : List Nat} {cum n c3 : Nat} {a3 : Option Addr} (h : IsRef w g u v s) (ht : t < M32) (hh : hasG s t = false) (hf : ¬ 65535 < wayN s.cum t) (hin : 1 ∉ l)
    (hb : wr.heap[g]? = some (.cells #[.int .u32 (cum : Nat), .slice a3 l.length c3, v] 31 (0, 0))) (ho : wr.ownsRow w.heap.size 2 1 (.slice a3 l.length c3) l.length (i64s l))
    (hn : cum = (s.cum + n) % M32) (hr : runW (insW (wayN s.cum t) s.ways).length (insW (wayN s.cum t) s.ways) = ((runW l.length l).1 + n, (runW l.length l).2)) (hfr : Fr (fun i => i = g) w wr) :
    ∃ u', IsRef wr g u' v (addG s t).2 ∧ Fr (feetR g u v) w wr ∧ (∀ k, u'.ownBlock = some k → u.ownBlock = some k ∨ w.heap.size ≤ k) := by
  have hw := h.wf.addG ht
  have e : addG s t = (0, { cum := cum, ways := l, dups := s.dups }) := by
    unfold addG
    rw [if_neg (by rw [hh]; simp), if_neg hf]
    simp only [hr, runW_stop _ l hin, hn]
    simp
  rw [e] at hw ⊢
  have hge : ∀ k, (Value.slice a3 l.length c3).ownBlock = some k → w.heap.size ≤ k := fun k hk => (ho.lt k hk).1
  have hgl := lt_of_heap h.blk
  refine ⟨_, ⟨hb, ?_, ?_, ?_, h.nev, ?_, hw⟩, hfr.mono (fun k _ hk => Or.inl hk), fun k hk => Or.inr (hge k hk)⟩
  · obtain ⟨h1, h2⟩ := ho
    refine ⟨h1, h2.imp id ?_⟩
    rintro ⟨g', cap, cur, r1, _, r⟩
    exact ⟨g', cap, cur, r1, Nat.zero_le _, r⟩
  · exact ownsRow_kept h.row (fun k hk => hfr.block k (h.row.lt k hk).2 (fun e => h.nev (by rw [hk, e])))
  · intro e
    have := hge g e; omega
  · cases ek : (Value.slice a3 l.length c3).ownBlock with
    | none => exact Or.inl rfl
    | some k =>
      refine Or.inr (fun e => ?_)
      have h1 := hge k ek
      have h2 := (h.row.lt k e.symm).2
      omega

theorem not_one {x : Nat} {r : List Nat} (hp : (x :: r).Pairwise (· < ·)) (h1 : ∀ y ∈ x :: r, 1 ≤ y) (hx : x ≠ 1) : 1 ∉ x :: r := by
  intro hm
  rw [List.pairwise_cons] at hp
  have h0 := h1 x List.mem_cons_self
  rcases List.mem_cons.1 hm with e | hm
  · exact hx e.symm
  · have := hp.1 1 hm; omega

theorem take_map_snoc (r : List Nat) (j : Nat) (hj : j < r.length) : i64s ((r.take j).map (· - 1)) ++ [.int .i64 ((r.getD j 0 - 1 : Nat) : Int)] = i64s ((r.take (j + 1)).map (· - 1)) := by
  rw [List.take_succ_eq_append_getElem hj, List.map_append, ← i64s_append]
  congr 1
  simp [i64s, List.getD_eq_getElem?_getD, List.getElem?_eq_getElem hj]

theorem refRel_step {w wr w1 w2 : World} {g : Nat} {v rv : Value} {c0 : Nat} {l0 r : List Nat} {gk cum n c4 : Nat} {a4 : Option Addr} (hk : gk = (1 :: r).length + 1) (hp : (1 :: r).Pairwise (· < ·)) (hi : ∀ x ∈ 1 :: r, x ≤ 65535)
    (hb : wr.heap[g]? = some (.cells #[.int .u32 (cum : Nat), .slice a4 (1 :: r).length c4, v] 31 (0, 0))) (hs : w.heap.size ≤ wr.heap.size)
    (hn : cum = (c0 + n) % M32) (hr : runW l0.length l0 = ((runW (1 :: r).length (1 :: r)).1 + n, (runW (1 :: r).length (1 :: r)).2)) (hfr : Fr (fun i => i = g) w wr)
    (h1 : w1 = wr.setCell ⟨g, 0, none⟩ (.int .u32 (((cum + 1) % M32 : Nat) : Int))) (hbw : Below w1.heap.size w1 w2) (ho : w2.ownsRow w1.heap.size 2 1 rv r.length (i64s (r.map (· - 1)))) :
    RefRel w g v c0 l0 (gk - 1) (w2.setCell ⟨g, 1, none⟩ rv) := by
  obtain ⟨a5, c5, rfl⟩ := row_shape ho
  rw [List.pairwise_cons] at hp
  have hr2 : ∀ x ∈ r, 2 ≤ x := fun x hx => hp.1 x hx
  have hsz : w1.heap.size = wr.heap.size := by rw [h1]; simp [World.setCell]
  have hgl := lt_of_heap hb
  have hb1 : w1.heap[g]? = some (.cells #[.int .u32 (((cum + 1) % M32 : Nat) : Int), .slice a4 (1 :: r).length c4, v] 31 (0, 0)) := by rw [h1, setCell_block hb]; rfl
  have hb2 := (hbw.block g (by omega)).trans hb1
  refine ⟨⟨(cum + 1) % M32, r.map (· - 1), n + 1, a5, c5, by simp [hk], Nat.mod_lt _ (by decide), ?_, ?_, ?_, ?_, ?_, ?_, ?_⟩, ?_⟩
  · rw [setCell_block hb2, List.length_map]; rfl
  · rw [List.length_map]
    obtain ⟨q1, q2⟩ := ownsRow_kept (w' := w2.setCell ⟨g, 1, none⟩ (.slice a5 r.length c5)) ho (fun k hk => Below.heap_setCell _ _ _ _ (by have := (ho.lt k hk).1; intro e; simp only at e; omega))
    refine ⟨q1, q2.imp id ?_⟩
    rintro ⟨g', cap, cur, r1, r2, r3⟩
    exact ⟨g', cap, cur, r1, by omega, r3⟩
  · rw [List.pairwise_map]
    refine hp.2.imp_of_mem fun {a b} ha hb hab => ?_
    have := hr2 a ha; omega
  · intro x hx
    obtain ⟨z, hz, rfl⟩ := List.mem_map.1 hx
    have := hr2 z hz; omega
  · intro x hx
    obtain ⟨z, hz, rfl⟩ := List.mem_map.1 hx
    have := hi z (List.mem_cons_of_mem _ hz); omega
  · rw [hn]; unfold M32; omega
  · rw [hr, show (1 :: r).length = r.length + 1 from rfl, runW_one r.length r, List.length_map, Nat.add_assoc, Nat.add_comm 1 n]
  · have f1 : Fr (fun i => i = g) wr w1 := by rw [h1]; exact Fr.setCell (S := fun i => i = g) wr (p := ⟨g, 0, none⟩) rfl _
    exact ((hfr.trans f1).trans (Fr.of_below hbw)).trans (Fr.setCell (S := fun i => i = g) w2 (p := ⟨g, 1, none⟩) rfl _)

theorem own_new1 (w : World) : ((w.alloc (.cells #[] 2)).drew).ownsRow w.heap.size 2 1 (.slice (some ⟨w.heap.size, 0, none⟩) 0 0) 0 (i64s []) :=
  World.ownsRow_made w #[] 0 (Nat.le_refl _) (by unfold maxLen; omega) rfl
theorem own_new2 (w : World) (o : Obj) : (((w.alloc (.cells #[] 2)).alloc o).drew).ownsRow w.heap.size 2 1 (.slice (some ⟨w.heap.size, 0, none⟩) 0 0) 0 (i64s []) :=
  (World.ownsRow_made w #[] 0 (Nat.le_refl _) (by unfold maxLen; omega) rfl).alloc o
theorem own_new3 (w : World) (o : Obj) : (((w.alloc o).alloc (.cells #[] 2)).drew).ownsRow w.heap.size 2 1 (.slice (some ⟨w.heap.size + 1, 0, none⟩) 0 0) 0 (i64s []) := by
  have := World.ownsRow_made (base := w.heap.size) (e := 2) (size := 1) (w.alloc o) #[] 0 (by simp) (by unfold maxLen; omega) rfl
  rw [show (w.alloc o).heap.size = w.heap.size + 1 from by simp] at this
  exact this
theorem below1 (w : World) (o : Obj) : Below w.heap.size w (w.alloc o).drew := ((Below.refl _ _).alloc (Nat.le_refl _) o).drew
theorem below2 (w : World) (o o' : Obj) : Below w.heap.size w ((w.alloc o).alloc o').drew := (((Below.refl _ _).alloc (Nat.le_refl _) o).alloc (by simp) o').drew

set_option maxRecDepth 100000 in
set_option maxRecDepth 100000 in
set_option maxHeartbeats 1600000 in
theorem refAdd_fresh (g : Nat) (u v : Value) (s : GS) (t : Nat) (ht : t < 4294967296) (w : World) (h : IsRef w g u v s) (hh : hasG s t = false) (hf : ¬ 65535 < wayN s.cum t) :
    Calls Try.prog 9 #[.pointer (some ⟨g, 0, none⟩), .int .u32 t] w fun e w' => e = .returned (.int .u8 0) ∧ ∃ u', IsRef w' g u' v (addG s t).2 ∧ Fr (feetR g u v) w w' ∧ (∀ k, u'.ownBlock = some k → u.ownBlock = some k ∨ w.heap.size ≤ k) := by
  obtain ⟨a, cap, rfl, hcap, hcz, hcell, hreads⟩ := reads_row h.ways
  have HRD := Lib.hid hreads
  clear hreads
  obtain ⟨c0, c1, c2⟩ := h.cells
  have hcum : s.cum < 4294967296 := h.wf.cum
  have hwl := h.wf.wlen
  have hgl := lt_of_heap h.blk
  have hfree := h.free 1
  have HC := Lib.hid hcell
  clear hcell
  go_enter Try.func9, Try.ntmps9
  go_upto_block 0 with (first | (go_at_call 20; refine (refHas_any _ _ _ _ _ ht _ h).mono ?_; rintro e w' ⟨rfl, rfl⟩) | (go_at_call 23; refine (way_any _ _ _ _ _ ht _ h).mono ?_; rintro e w' ⟨rfl, rfl⟩))
  go_cut [6] (fun i W => w = W ∧ ∃ k : Nat, i = .int .i64 k ∧ k ≤ s.ways.length ∧ (∀ j, j < k → s.ways.getD j 0 < wayN s.cum t) ∧ (k < s.ways.length → ¬ s.ways.getD k 0 < wayN s.cum t))
  case first =>
    go_wp2_with fail
    go_loop [6] (fun i => ∃ k : Nat, k ≤ s.ways.length ∧ i = .int .i64 k ∧ ∀ j, j < k → s.ways.getD j 0 < wayN s.cum t) (fun i => s.ways.length - (intOf i).toNat)
    case atStart => exact ⟨0, Nat.zero_le _, rfl, by intro j hj; omega⟩
    case round =>
      obtain ⟨k, hk, rfl, hall⟩ := hrel
      have HA := Lib.hid hall
      clear hall
      by_cases hlt : k < s.ways.length
      · obtain ⟨b, rfl, hkc⟩ := HC.out k _ (i64s_get _ _ hlt)
        obtain ⟨x, hx⟩ : ∃ x, x = s.ways.getD k 0 := ⟨_, rfl⟩
        rw [← hx] at hkc
        have HX := Lib.hid hx
        clear hx
        by_cases hltw : x < wayN s.cum t
        · go_wp2
          go_round
          case rel =>
            refine ⟨k + 1, by omega, by go_num, fun j hj => ?_⟩
            by_cases e : j = k
            · subst e; rw [← HX.out]; exact hltw
            · exact HA.out j (by omega)
          case measure => simp [intOf]; omega
        · go_wp2
          go_meet
          exact ⟨rfl, k, rfl, hk, HA.out, fun _ => by rw [← HX.out]; exact hltw⟩
      · go_wp2
        go_meet
        exact ⟨rfl, k, rfl, hk, HA.out, fun h => absurd h hlt⟩
  case rest =>
    obtain ⟨rfl, k, rfl, hk, hall, hex⟩ := hcut
    have HA := Lib.hid hall
    have HX := Lib.hid hex
    clear hall hex
    have hs1 := fun W => run_take W a s.ways.length cap k hk hcap
    have hs2 := fun W => run_drop W a s.ways.length cap k hk
    obtain ⟨a2, ha2⟩ : ∃ a2, a2 = if cap = k then a else a.map (·.add k) := ⟨_, rfl⟩
    simp only [← ha2] at hs2
    obtain ⟨hr1, hr2⟩ := HRD.out k hk
    rw [← ha2] at hr2
    have hz1 : a = none → cap = 0 ∧ k = 0 := fun e => ⟨hcz e, by have := hcz e; omega⟩
    have hz2 : a2 = none → cap - k = 0 ∧ s.ways.length - k = 0 := by
      intro e
      rw [ha2] at e
      split at e
      · omega
      · have := hcz (by simpa using e)
        omega
    have HR1 := Lib.hid hr1
    have HR2 := Lib.hid hr2
    have HZ1 := Lib.hid hz1
    have HZ2 := Lib.hid hz2
    clear ha2 hr1 hr2 hz1 hz2
    go_upto_region 11 with fail
    go_cut [] (fun W => ∃ a3 c3, W.heap[g]? = some (.cells #[.int .u32 (s.cum : Nat), .slice a3 (s.ways.length + 1) c3, v] 31 (0, 0)) ∧ W.ownsRow w.heap.size 2 1 (.slice a3 (s.ways.length + 1) c3) (s.ways.length + 1) (i64s (insW (wayN s.cum t) s.ways)) ∧ Fr (fun i => i = g) w W)
    case first =>
      refine wp_region_last (by kernel_rfl) (by simp) (by kernel_rfl) ?_
      intro front o hfr ho
      dsimp only [List.dropLast, List.getLast] at hfr ho
      subst hfr ho
      have HS : w.drew.cell? ⟨g, 1, none⟩ = some (.slice a s.ways.length cap) := c1
      refine wpAny_of_held (S := fun w' => w'.cell? ⟨g, 1, none⟩ = some (.slice a s.ways.length cap)) _ _ _ _ ?_
      simp only [List.size_toArray, List.length_cons, List.length_nil, Nat.reduceAdd]
      refine wpAnyH_take (i := 0) (oi := { dst := some 53, op := Op.move (Operand.tmp 0), type := 27, pos := "ref.go:48", after := #[], guard := none }) (v := ?_) rfl (by kernel_rfl) (by kernel_rfl) (by kernel_rfl) (fun _ _ _ h => h) (Or.inl ⟨by rfl, ?_⟩) HS ?_
      rotate_left
      (intro W hW; go_simp; try with_reducible rfl)
      simp only [Act.put, List.setIfInBounds_toArray, List.set_cons_zero, List.set_cons_succ]
      refine wpAnyH_take (i := 2) (oi := { dst := some 55, op := Op.move (Operand.tmp 0), type := 27, pos := "ref.go:48", after := #[], guard := none }) (v := ?_) rfl (by kernel_rfl) (by kernel_rfl) (by kernel_rfl) (fun _ _ _ h => h) (Or.inl ⟨by rfl, ?_⟩) HS ?_
      rotate_left
      (intro W hW; go_simp; try with_reducible rfl)
      simp only [Act.put, List.setIfInBounds_toArray, List.set_cons_zero, List.set_cons_succ]
      refine wpAnyH_take (i := 3) (oi := { dst := some 56, op := Op.nilCheck (Operand.tmp 55), type := 0, pos := "ref.go:48", after := #[{ on := 2, ground := Ground.data }], guard := none }) (v := ?_) rfl (by kernel_rfl) (by kernel_rfl) (by kernel_rfl) (fun _ _ _ h => h) (Or.inl ⟨by rfl, ?_⟩) HS ?_
      rotate_left
      (intro W hW; go_simp; try with_reducible rfl)
      simp only [Act.put, List.setIfInBounds_toArray, List.set_cons_zero, List.set_cons_succ]
      refine wpAnyH_take (i := 4) (oi := { dst := some 57, op := Op.fieldAddr 31 (Operand.tmp 56) 1, type := 0, pos := "ref.go:48", after := #[{ on := 3, ground := Ground.data }], guard := none }) (v := ?_) rfl (by kernel_rfl) (by kernel_rfl) (by kernel_rfl) (fun _ _ _ h => h) (Or.inl ⟨by rfl, ?_⟩) HS ?_
      rotate_left
      (intro W hW; go_simp; try with_reducible rfl)
      simp only [Act.put, List.setIfInBounds_toArray, List.set_cons_zero, List.set_cons_succ]
      refine wpAnyH_take (i := 5) (oi := { dst := some 58, op := Op.load 28 (Operand.tmp 57), type := 28, pos := "ref.go:48", after := #[{ on := 4, ground := Ground.data }], guard := none }) (v := ?_) rfl (by kernel_rfl) (by kernel_rfl) (by kernel_rfl) (fun _ _ _ h => h) (Or.inl ⟨by rfl, ?_⟩) HS ?_
      rotate_left
      (intro W hW; go_simp; try with_reducible rfl)
      simp only [Act.put, List.setIfInBounds_toArray, List.set_cons_zero, List.set_cons_succ]
      refine wpAnyH_take (i := 6) (oi := { dst := some 59, op := Op.move (Operand.tmp 6), type := 3, pos := "ref.go:48", after := #[], guard := none }) (v := ?_) rfl (by kernel_rfl) (by kernel_rfl) (by kernel_rfl) (fun _ _ _ h => h) (Or.inl ⟨by rfl, ?_⟩) HS ?_
      rotate_left
      (intro W hW; go_simp; try with_reducible rfl)
      simp only [Act.put, List.setIfInBounds_toArray, List.set_cons_zero, List.set_cons_succ]
      refine wpAnyH_take (i := 7) (oi := { dst := some 60, op := Op.slice 28 (Operand.tmp 58) none (some (Operand.tmp 59)) none, type := 28, pos := "ref.go:48", after := #[{ on := 5, ground := Ground.data }, { on := 6, ground := Ground.data }], guard := none }) (v := ?_) rfl (by kernel_rfl) (by kernel_rfl) (by kernel_rfl) (fun _ _ _ h => h) (Or.inl ⟨by rfl, ?_⟩) HS ?_
      rotate_left
      (intro W hW; go_simp; try with_reducible rfl)
      simp only [Act.put, List.setIfInBounds_toArray, List.set_cons_zero, List.set_cons_succ]
      refine wpAnyH_take (i := 9) (oi := { dst := some 62, op := Op.move (Operand.tmp 5), type := 2, pos := "ref.go:48", after := #[], guard := none }) (v := ?_) rfl (by kernel_rfl) (by kernel_rfl) (by kernel_rfl) (fun _ _ _ h => h) (Or.inl ⟨by rfl, ?_⟩) HS ?_
      rotate_left
      (intro W hW; go_simp; try with_reducible rfl)
      simp only [Act.put, List.setIfInBounds_toArray, List.set_cons_zero, List.set_cons_succ]
      refine wpAnyH_take (i := 12) (oi := { dst := some 65, op := Op.move (Operand.tmp 0), type := 27, pos := "ref.go:48", after := #[], guard := none }) (v := ?_) rfl (by kernel_rfl) (by kernel_rfl) (by kernel_rfl) (fun _ _ _ h => h) (Or.inl ⟨by rfl, ?_⟩) HS ?_
      rotate_left
      (intro W hW; go_simp; try with_reducible rfl)
      simp only [Act.put, List.setIfInBounds_toArray, List.set_cons_zero, List.set_cons_succ]
      refine wpAnyH_take (i := 13) (oi := { dst := some 66, op := Op.nilCheck (Operand.tmp 65), type := 0, pos := "ref.go:48", after := #[{ on := 12, ground := Ground.data }], guard := none }) (v := ?_) rfl (by kernel_rfl) (by kernel_rfl) (by kernel_rfl) (fun _ _ _ h => h) (Or.inl ⟨by rfl, ?_⟩) HS ?_
      rotate_left
      (intro W hW; go_simp; try with_reducible rfl)
      simp only [Act.put, List.setIfInBounds_toArray, List.set_cons_zero, List.set_cons_succ]
      refine wpAnyH_take (i := 14) (oi := { dst := some 67, op := Op.fieldAddr 31 (Operand.tmp 66) 1, type := 0, pos := "ref.go:48", after := #[{ on := 13, ground := Ground.data }], guard := none }) (v := ?_) rfl (by kernel_rfl) (by kernel_rfl) (by kernel_rfl) (fun _ _ _ h => h) (Or.inl ⟨by rfl, ?_⟩) HS ?_
      rotate_left
      (intro W hW; go_simp; try with_reducible rfl)
      simp only [Act.put, List.setIfInBounds_toArray, List.set_cons_zero, List.set_cons_succ]
      refine wpAnyH_take (i := 15) (oi := { dst := some 68, op := Op.load 28 (Operand.tmp 67), type := 28, pos := "ref.go:48", after := #[{ on := 14, ground := Ground.data }], guard := none }) (v := ?_) rfl (by kernel_rfl) (by kernel_rfl) (by kernel_rfl) (fun _ _ _ h => h) (Or.inl ⟨by rfl, ?_⟩) HS ?_
      rotate_left
      (intro W hW; go_simp; try with_reducible rfl)
      simp only [Act.put, List.setIfInBounds_toArray, List.set_cons_zero, List.set_cons_succ]
      refine wpAnyH_take (i := 16) (oi := { dst := some 69, op := Op.move (Operand.tmp 6), type := 3, pos := "ref.go:48", after := #[], guard := none }) (v := ?_) rfl (by kernel_rfl) (by kernel_rfl) (by kernel_rfl) (fun _ _ _ h => h) (Or.inl ⟨by rfl, ?_⟩) HS ?_
      rotate_left
      (intro W hW; go_simp; try with_reducible rfl)
      simp only [Act.put, List.setIfInBounds_toArray, List.set_cons_zero, List.set_cons_succ]
      refine wpAnyH_take (i := 17) (oi := { dst := some 70, op := Op.slice 28 (Operand.tmp 68) (some (Operand.tmp 69)) none none, type := 28, pos := "ref.go:48", after := #[{ on := 15, ground := Ground.data }, { on := 16, ground := Ground.data }], guard := none }) (v := ?_) rfl (by kernel_rfl) (by kernel_rfl) (by kernel_rfl) (fun _ _ _ h => h) (Or.inl ⟨by rfl, ?_⟩) HS ?_
      rotate_left
      (intro W hW; go_simp; try with_reducible rfl)
      simp only [Act.put, List.setIfInBounds_toArray, List.set_cons_zero, List.set_cons_succ]
      refine wpAnyH_ready (rs := [1, 10]) (by kernel_rfl) (by simp) (AllReadyH.cons (o := { dst := some 54, op := Op.buildSlice 28 0 #[], type := 28, pos := "ref.go:48", after := #[], guard := none }) rfl (fun K hK => ?_) (AllReadyH.cons (o := { dst := some 63, op := Op.buildSlice 28 1 #[(0, Operand.tmp 62)], type := 28, pos := "ref.go:48", after := #[{ on := 9, ground := Ground.data }], guard := none }) rfl (fun K hK => ?_) (AllReadyH.nil)))
      · go_simp
        refine hK.out _ _ (((below1 w _).cell hgl).trans c1) (fun _ => ?_)
        clear hK K
        refine wpAnyH_ready (rs := [8, 10]) (by kernel_rfl) (by simp) (AllReadyH.cons (o := { dst := some 61, op := Op.call { callee := Callee.builtin Builtin.append, args := #[Operand.tmp 54, Operand.tmp 60], argTypes := #[28, 28] }, type := 28, pos := "ref.go:48", after := #[{ on := 1, ground := Ground.data }, { on := 7, ground := Ground.data }], guard := none }) rfl (fun K hK => ?_) (AllReadyH.cons (o := { dst := some 63, op := Op.buildSlice 28 1 #[(0, Operand.tmp 62)], type := 28, pos := "ref.go:48", after := #[{ on := 9, ground := Ground.data }], guard := none }) rfl (fun K hK => ?_) (AllReadyH.nil)))
        · skip
          refine step_i64 (by rfl) (.tmp 54) (.tmp 60) (by rfl) w.heap.size (.slice (some ⟨w.heap.size, 0, none⟩) 0 0) 0 [] (by rfl) (own_new1 w) _ k cap (s.ways.take k) (by rfl) (by first | (simp; done) | (simp; omega)) HZ1.out (HR1.out.below (below1 w _)) k (by omega) (by omega) (by first | (simp; done) | (simp; omega)) ?_
          intro a8 c8 w8 hown8 hgrow8 hloc8
          have hb8 : Below w.heap.size w w8 := (below1 w _).grown hgrow8 (by first | (simp; done) | (simp; omega)) (fun k hk => by simp [Value.ownBlock] at hk; omega)
          clear hgrow8 hloc8
          refine hK.out _ _ ((hb8.cell hgl).trans c1) (fun _ => ?_)
          clear hK K
          simp only [Act.put, List.setIfInBounds_toArray, List.set_cons_zero, List.set_cons_succ]
          refine wpAnyH_ready (rs := [10]) (by kernel_rfl) (by simp) (AllReadyH.cons (o := { dst := some 63, op := Op.buildSlice 28 1 #[(0, Operand.tmp 62)], type := 28, pos := "ref.go:48", after := #[{ on := 9, ground := Ground.data }], guard := none }) rfl (fun K hK => ?_) (AllReadyH.nil))
          go_simp
          refine hK.out _ _ (((hb8.alloc hb8.size _).cell hgl).trans c1) (fun _ => ?_)
          clear hK K
          refine wpAnyH_ready (rs := [11]) (by kernel_rfl) (by simp) (AllReadyH.cons (o := { dst := some 64, op := Op.call { callee := Callee.builtin Builtin.append, args := #[Operand.tmp 61, Operand.tmp 63], argTypes := #[28, 28] }, type := 28, pos := "ref.go:48", after := #[{ on := 8, ground := Ground.data }, { on := 10, ground := Ground.data }, { on := 8, ground := Ground.chain }], guard := none }) rfl (fun K hK => ?_) (AllReadyH.nil))
          refine step_i64 (by rfl) (.tmp 61) (.tmp 63) (by rfl) w.heap.size (.slice a8 k c8) k (s.ways.take k) (by rfl) (hown8.alloc _) (some ⟨w8.heap.size, 0, none⟩) 1 1 [wayN s.cum t] (by rfl) (by rfl) (fun e => by cases e) (Reads.one w8 _) (k + 1) (by omega) (by omega) (by first | exact hb8.size | (have := hb8.size; simp; omega)) ?_
          intro a11 c11 w11 hown11 hgrow11 hloc11
          have hb11 : Below w.heap.size w w11 := (hb8.alloc hb8.size _).grown hgrow11 (by first | exact hb8.size | (have := hb8.size; simp; omega)) (fun k hk => (hown8.lt k hk).1)
          clear hgrow11 hloc11
          refine hK.out _ _ ((hb11.cell hgl).trans c1) (fun _ => ?_)
          clear hK K
          simp only [Act.put, List.setIfInBounds_toArray, List.set_cons_zero, List.set_cons_succ]
          refine wpAnyH_ready (rs := [18]) (by kernel_rfl) (by simp) (AllReadyH.cons (o := { dst := some 71, op := Op.call { callee := Callee.builtin Builtin.append, args := #[Operand.tmp 64, Operand.tmp 70], argTypes := #[28, 28] }, type := 28, pos := "ref.go:48", after := #[{ on := 11, ground := Ground.data }, { on := 17, ground := Ground.data }, { on := 11, ground := Ground.chain }], guard := none }) rfl (fun K hK => ?_) (AllReadyH.nil))
          refine step_i64 (by rfl) (.tmp 64) (.tmp 70) (by rfl) w.heap.size (.slice a11 (k + 1) c11) (k + 1) (s.ways.take k ++ [wayN s.cum t]) (by rfl) hown11 _ (s.ways.length - k) (cap - k) (s.ways.drop k) (by rfl) (by simp) HZ2.out (HR2.out.below hb11) (s.ways.length + 1) (by omega) (by omega) hb11.size ?_
          intro a18 c18 w18 hown18 hgrow18 hloc18
          have hb18 : Below w.heap.size w w18 := hb11.grown hgrow18 hb11.size (fun k hk => (hown11.lt k hk).1)
          clear hgrow18 hloc18
          refine hK.out _ _ ((hb18.cell hgl).trans c1) (fun _ => ?_)
          clear hK K
          simp only [Act.put, List.setIfInBounds_toArray, List.set_cons_zero, List.set_cons_succ]
          refine wpAnyH_ready (rs := [19]) (by kernel_rfl) (by simp) (AllReadyH.cons (o := { dst := some 72, op := Op.nilCheck (Operand.tmp 53), type := 0, pos := "ref.go:48", after := #[{ on := 0, ground := Ground.data }, { on := 0, ground := Ground.phase }, { on := 1, ground := Ground.phase }, { on := 2, ground := Ground.phase }, { on := 3, ground := Ground.phase }, { on := 4, ground := Ground.phase }, { on := 5, ground := Ground.phase }, { on := 6, ground := Ground.phase }, { on := 7, ground := Ground.phase }, { on := 8, ground := Ground.phase }, { on := 9, ground := Ground.phase }, { on := 10, ground := Ground.phase }, { on := 11, ground := Ground.phase }, { on := 12, ground := Ground.phase }, { on := 13, ground := Ground.phase }, { on := 14, ground := Ground.phase }, { on := 15, ground := Ground.phase }, { on := 16, ground := Ground.phase }, { on := 17, ground := Ground.phase }, { on := 18, ground := Ground.phase }], guard := none }) rfl (fun K hK => ?_) (AllReadyH.nil))
          go_simp
          refine hK.out _ _ ((hb18.cell hgl).trans c1) (fun _ => ?_)
          clear hK K
          refine wpAnyH_ready (rs := [20]) (by kernel_rfl) (by simp) (AllReadyH.cons (o := { dst := some 73, op := Op.fieldAddr 31 (Operand.tmp 72) 1, type := 0, pos := "ref.go:48", after := #[{ on := 19, ground := Ground.data }, { on := 0, ground := Ground.phase }, { on := 1, ground := Ground.phase }, { on := 2, ground := Ground.phase }, { on := 3, ground := Ground.phase }, { on := 4, ground := Ground.phase }, { on := 5, ground := Ground.phase }, { on := 6, ground := Ground.phase }, { on := 7, ground := Ground.phase }, { on := 8, ground := Ground.phase }, { on := 9, ground := Ground.phase }, { on := 10, ground := Ground.phase }, { on := 11, ground := Ground.phase }, { on := 12, ground := Ground.phase }, { on := 13, ground := Ground.phase }, { on := 14, ground := Ground.phase }, { on := 15, ground := Ground.phase }, { on := 16, ground := Ground.phase }, { on := 17, ground := Ground.phase }, { on := 18, ground := Ground.phase }], guard := none }) rfl (fun K hK => ?_) (AllReadyH.nil))
          go_simp
          refine hK.out _ _ ((hb18.cell hgl).trans c1) (fun _ => ?_)
          clear hK K
          refine wpAnyH_done (by kernel_rfl) ?_ _
          have e18 : w18.cell? ⟨g, 1, none⟩ = _ := (hb18.cell hgl).trans c1
          have f18 : w18.frozen? ⟨g, 1, none⟩ = _ := (hb18.frozen hgl).trans hfree
          unfold lastPost
          go_simp
          go_wp2_with fail
          go_meet
          exact close_ins h hb18 hown18 (take_insW _ _ _ hk HA.out HX.out)
        · skip
          go_simp
          refine hK.out _ _ (((by first | exact below1 w _ | exact below2 w _ _ : Below w.heap.size w _).cell hgl).trans c1) (fun _ => ?_)
          clear hK K
          refine wpAnyH_ready (rs := [8]) (by kernel_rfl) (by simp) (AllReadyH.cons (o := { dst := some 61, op := Op.call { callee := Callee.builtin Builtin.append, args := #[Operand.tmp 54, Operand.tmp 60], argTypes := #[28, 28] }, type := 28, pos := "ref.go:48", after := #[{ on := 1, ground := Ground.data }, { on := 7, ground := Ground.data }], guard := none }) rfl (fun K hK => ?_) (AllReadyH.nil))
          refine step_i64 (by rfl) (.tmp 54) (.tmp 60) (by rfl) w.heap.size (.slice (some ⟨w.heap.size, 0, none⟩) 0 0) 0 [] (by rfl) (own_new2 w _) _ k cap (s.ways.take k) (by rfl) (by first | (simp; done) | (simp; omega)) HZ1.out (HR1.out.below (below2 w _ _)) k (by omega) (by omega) (by first | (simp; done) | (simp; omega)) ?_
          intro a8 c8 w8 hown8 hgrow8 hloc8
          have hb8 : Below w.heap.size w w8 := (below2 w _ _).grown hgrow8 (by first | (simp; done) | (simp; omega)) (fun k hk => by simp [Value.ownBlock] at hk; omega)
          have hn8 : Reads w8 (some ⟨w.heap.size + 1, 0, none⟩) [wayN s.cum t] := (reads_two w _ _).grown hgrow8 (fun ad e => by cases e; simp [Value.ownBlock])
          clear hgrow8 hloc8
          refine hK.out _ _ ((hb8.cell hgl).trans c1) (fun _ => ?_)
          clear hK K
          simp only [Act.put, List.setIfInBounds_toArray, List.set_cons_zero, List.set_cons_succ]
          refine wpAnyH_ready (rs := [11]) (by kernel_rfl) (by simp) (AllReadyH.cons (o := { dst := some 64, op := Op.call { callee := Callee.builtin Builtin.append, args := #[Operand.tmp 61, Operand.tmp 63], argTypes := #[28, 28] }, type := 28, pos := "ref.go:48", after := #[{ on := 8, ground := Ground.data }, { on := 10, ground := Ground.data }, { on := 8, ground := Ground.chain }], guard := none }) rfl (fun K hK => ?_) (AllReadyH.nil))
          refine step_i64 (by rfl) (.tmp 61) (.tmp 63) (by rfl) w.heap.size (.slice a8 k c8) k (s.ways.take k) (by rfl) (hown8) (some ⟨w.heap.size + 1, 0, none⟩) 1 1 [wayN s.cum t] (by rfl) (by rfl) (fun e => by cases e) (hn8) (k + 1) (by omega) (by omega) (by first | exact hb8.size | (have := hb8.size; simp; omega)) ?_
          intro a11 c11 w11 hown11 hgrow11 hloc11
          have hb11 : Below w.heap.size w w11 := (hb8).grown hgrow11 (by first | exact hb8.size | (have := hb8.size; simp; omega)) (fun k hk => (hown8.lt k hk).1)
          clear hgrow11 hloc11
          refine hK.out _ _ ((hb11.cell hgl).trans c1) (fun _ => ?_)
          clear hK K
          simp only [Act.put, List.setIfInBounds_toArray, List.set_cons_zero, List.set_cons_succ]
          refine wpAnyH_ready (rs := [18]) (by kernel_rfl) (by simp) (AllReadyH.cons (o := { dst := some 71, op := Op.call { callee := Callee.builtin Builtin.append, args := #[Operand.tmp 64, Operand.tmp 70], argTypes := #[28, 28] }, type := 28, pos := "ref.go:48", after := #[{ on := 11, ground := Ground.data }, { on := 17, ground := Ground.data }, { on := 11, ground := Ground.chain }], guard := none }) rfl (fun K hK => ?_) (AllReadyH.nil))
          refine step_i64 (by rfl) (.tmp 64) (.tmp 70) (by rfl) w.heap.size (.slice a11 (k + 1) c11) (k + 1) (s.ways.take k ++ [wayN s.cum t]) (by rfl) hown11 _ (s.ways.length - k) (cap - k) (s.ways.drop k) (by rfl) (by simp) HZ2.out (HR2.out.below hb11) (s.ways.length + 1) (by omega) (by omega) hb11.size ?_
          intro a18 c18 w18 hown18 hgrow18 hloc18
          have hb18 : Below w.heap.size w w18 := hb11.grown hgrow18 hb11.size (fun k hk => (hown11.lt k hk).1)
          clear hgrow18 hloc18
          refine hK.out _ _ ((hb18.cell hgl).trans c1) (fun _ => ?_)
          clear hK K
          simp only [Act.put, List.setIfInBounds_toArray, List.set_cons_zero, List.set_cons_succ]
          refine wpAnyH_ready (rs := [19]) (by kernel_rfl) (by simp) (AllReadyH.cons (o := { dst := some 72, op := Op.nilCheck (Operand.tmp 53), type := 0, pos := "ref.go:48", after := #[{ on := 0, ground := Ground.data }, { on := 0, ground := Ground.phase }, { on := 1, ground := Ground.phase }, { on := 2, ground := Ground.phase }, { on := 3, ground := Ground.phase }, { on := 4, ground := Ground.phase }, { on := 5, ground := Ground.phase }, { on := 6, ground := Ground.phase }, { on := 7, ground := Ground.phase }, { on := 8, ground := Ground.phase }, { on := 9, ground := Ground.phase }, { on := 10, ground := Ground.phase }, { on := 11, ground := Ground.phase }, { on := 12, ground := Ground.phase }, { on := 13, ground := Ground.phase }, { on := 14, ground := Ground.phase }, { on := 15, ground := Ground.phase }, { on := 16, ground := Ground.phase }, { on := 17, ground := Ground.phase }, { on := 18, ground := Ground.phase }], guard := none }) rfl (fun K hK => ?_) (AllReadyH.nil))
          go_simp
          refine hK.out _ _ ((hb18.cell hgl).trans c1) (fun _ => ?_)
          clear hK K
          refine wpAnyH_ready (rs := [20]) (by kernel_rfl) (by simp) (AllReadyH.cons (o := { dst := some 73, op := Op.fieldAddr 31 (Operand.tmp 72) 1, type := 0, pos := "ref.go:48", after := #[{ on := 19, ground := Ground.data }, { on := 0, ground := Ground.phase }, { on := 1, ground := Ground.phase }, { on := 2, ground := Ground.phase }, { on := 3, ground := Ground.phase }, { on := 4, ground := Ground.phase }, { on := 5, ground := Ground.phase }, { on := 6, ground := Ground.phase }, { on := 7, ground := Ground.phase }, { on := 8, ground := Ground.phase }, { on := 9, ground := Ground.phase }, { on := 10, ground := Ground.phase }, { on := 11, ground := Ground.phase }, { on := 12, ground := Ground.phase }, { on := 13, ground := Ground.phase }, { on := 14, ground := Ground.phase }, { on := 15, ground := Ground.phase }, { on := 16, ground := Ground.phase }, { on := 17, ground := Ground.phase }, { on := 18, ground := Ground.phase }], guard := none }) rfl (fun K hK => ?_) (AllReadyH.nil))
          go_simp
          refine hK.out _ _ ((hb18.cell hgl).trans c1) (fun _ => ?_)
          clear hK K
          refine wpAnyH_done (by kernel_rfl) ?_ _
          have e18 : w18.cell? ⟨g, 1, none⟩ = _ := (hb18.cell hgl).trans c1
          have f18 : w18.frozen? ⟨g, 1, none⟩ = _ := (hb18.frozen hgl).trans hfree
          unfold lastPost
          go_simp
          go_wp2_with fail
          go_meet
          exact close_ins h hb18 hown18 (take_insW _ _ _ hk HA.out HX.out)
      · go_simp
        refine hK.out _ _ (((below1 w _).cell hgl).trans c1) (fun _ => ?_)
        clear hK K
        refine wpAnyH_ready (rs := [1]) (by kernel_rfl) (by simp) (AllReadyH.cons (o := { dst := some 54, op := Op.buildSlice 28 0 #[], type := 28, pos := "ref.go:48", after := #[], guard := none }) rfl (fun K hK => ?_) (AllReadyH.nil))
        go_simp
        refine hK.out _ _ (((by first | exact below1 w _ | exact below2 w _ _ : Below w.heap.size w _).cell hgl).trans c1) (fun _ => ?_)
        clear hK K
        refine wpAnyH_ready (rs := [8]) (by kernel_rfl) (by simp) (AllReadyH.cons (o := { dst := some 61, op := Op.call { callee := Callee.builtin Builtin.append, args := #[Operand.tmp 54, Operand.tmp 60], argTypes := #[28, 28] }, type := 28, pos := "ref.go:48", after := #[{ on := 1, ground := Ground.data }, { on := 7, ground := Ground.data }], guard := none }) rfl (fun K hK => ?_) (AllReadyH.nil))
        refine step_i64 (by rfl) (.tmp 54) (.tmp 60) (by rfl) w.heap.size (.slice (some ⟨w.heap.size + 1, 0, none⟩) 0 0) 0 [] (by rfl) (own_new3 w _) _ k cap (s.ways.take k) (by rfl) (by first | (simp; done) | (simp; omega)) HZ1.out (HR1.out.below (below2 w _ _)) k (by omega) (by omega) (by first | (simp; done) | (simp; omega)) ?_
        intro a8 c8 w8 hown8 hgrow8 hloc8
        have hb8 : Below w.heap.size w w8 := (below2 w _ _).grown hgrow8 (by first | (simp; done) | (simp; omega)) (fun k hk => by simp [Value.ownBlock] at hk; omega)
        have hn8 : Reads w8 (some ⟨w.heap.size, 0, none⟩) [wayN s.cum t] := (reads_two' w _ _).grown hgrow8 (fun ad e => by cases e; simp [Value.ownBlock])
        clear hgrow8 hloc8
        refine hK.out _ _ ((hb8.cell hgl).trans c1) (fun _ => ?_)
        clear hK K
        simp only [Act.put, List.setIfInBounds_toArray, List.set_cons_zero, List.set_cons_succ]
        refine wpAnyH_ready (rs := [11]) (by kernel_rfl) (by simp) (AllReadyH.cons (o := { dst := some 64, op := Op.call { callee := Callee.builtin Builtin.append, args := #[Operand.tmp 61, Operand.tmp 63], argTypes := #[28, 28] }, type := 28, pos := "ref.go:48", after := #[{ on := 8, ground := Ground.data }, { on := 10, ground := Ground.data }, { on := 8, ground := Ground.chain }], guard := none }) rfl (fun K hK => ?_) (AllReadyH.nil))
        refine step_i64 (by rfl) (.tmp 61) (.tmp 63) (by rfl) w.heap.size (.slice a8 k c8) k (s.ways.take k) (by rfl) (hown8) (some ⟨w.heap.size, 0, none⟩) 1 1 [wayN s.cum t] (by rfl) (by rfl) (fun e => by cases e) (hn8) (k + 1) (by omega) (by omega) (by first | exact hb8.size | (have := hb8.size; simp; omega)) ?_
        intro a11 c11 w11 hown11 hgrow11 hloc11
        have hb11 : Below w.heap.size w w11 := (hb8).grown hgrow11 (by first | exact hb8.size | (have := hb8.size; simp; omega)) (fun k hk => (hown8.lt k hk).1)
        clear hgrow11 hloc11
        refine hK.out _ _ ((hb11.cell hgl).trans c1) (fun _ => ?_)
        clear hK K
        simp only [Act.put, List.setIfInBounds_toArray, List.set_cons_zero, List.set_cons_succ]
        refine wpAnyH_ready (rs := [18]) (by kernel_rfl) (by simp) (AllReadyH.cons (o := { dst := some 71, op := Op.call { callee := Callee.builtin Builtin.append, args := #[Operand.tmp 64, Operand.tmp 70], argTypes := #[28, 28] }, type := 28, pos := "ref.go:48", after := #[{ on := 11, ground := Ground.data }, { on := 17, ground := Ground.data }, { on := 11, ground := Ground.chain }], guard := none }) rfl (fun K hK => ?_) (AllReadyH.nil))
        refine step_i64 (by rfl) (.tmp 64) (.tmp 70) (by rfl) w.heap.size (.slice a11 (k + 1) c11) (k + 1) (s.ways.take k ++ [wayN s.cum t]) (by rfl) hown11 _ (s.ways.length - k) (cap - k) (s.ways.drop k) (by rfl) (by simp) HZ2.out (HR2.out.below hb11) (s.ways.length + 1) (by omega) (by omega) hb11.size ?_
        intro a18 c18 w18 hown18 hgrow18 hloc18
        have hb18 : Below w.heap.size w w18 := hb11.grown hgrow18 hb11.size (fun k hk => (hown11.lt k hk).1)
        clear hgrow18 hloc18
        refine hK.out _ _ ((hb18.cell hgl).trans c1) (fun _ => ?_)
        clear hK K
        simp only [Act.put, List.setIfInBounds_toArray, List.set_cons_zero, List.set_cons_succ]
        refine wpAnyH_ready (rs := [19]) (by kernel_rfl) (by simp) (AllReadyH.cons (o := { dst := some 72, op := Op.nilCheck (Operand.tmp 53), type := 0, pos := "ref.go:48", after := #[{ on := 0, ground := Ground.data }, { on := 0, ground := Ground.phase }, { on := 1, ground := Ground.phase }, { on := 2, ground := Ground.phase }, { on := 3, ground := Ground.phase }, { on := 4, ground := Ground.phase }, { on := 5, ground := Ground.phase }, { on := 6, ground := Ground.phase }, { on := 7, ground := Ground.phase }, { on := 8, ground := Ground.phase }, { on := 9, ground := Ground.phase }, { on := 10, ground := Ground.phase }, { on := 11, ground := Ground.phase }, { on := 12, ground := Ground.phase }, { on := 13, ground := Ground.phase }, { on := 14, ground := Ground.phase }, { on := 15, ground := Ground.phase }, { on := 16, ground := Ground.phase }, { on := 17, ground := Ground.phase }, { on := 18, ground := Ground.phase }], guard := none }) rfl (fun K hK => ?_) (AllReadyH.nil))
        go_simp
        refine hK.out _ _ ((hb18.cell hgl).trans c1) (fun _ => ?_)
        clear hK K
        refine wpAnyH_ready (rs := [20]) (by kernel_rfl) (by simp) (AllReadyH.cons (o := { dst := some 73, op := Op.fieldAddr 31 (Operand.tmp 72) 1, type := 0, pos := "ref.go:48", after := #[{ on := 19, ground := Ground.data }, { on := 0, ground := Ground.phase }, { on := 1, ground := Ground.phase }, { on := 2, ground := Ground.phase }, { on := 3, ground := Ground.phase }, { on := 4, ground := Ground.phase }, { on := 5, ground := Ground.phase }, { on := 6, ground := Ground.phase }, { on := 7, ground := Ground.phase }, { on := 8, ground := Ground.phase }, { on := 9, ground := Ground.phase }, { on := 10, ground := Ground.phase }, { on := 11, ground := Ground.phase }, { on := 12, ground := Ground.phase }, { on := 13, ground := Ground.phase }, { on := 14, ground := Ground.phase }, { on := 15, ground := Ground.phase }, { on := 16, ground := Ground.phase }, { on := 17, ground := Ground.phase }, { on := 18, ground := Ground.phase }], guard := none }) rfl (fun K hK => ?_) (AllReadyH.nil))
        go_simp
        refine hK.out _ _ ((hb18.cell hgl).trans c1) (fun _ => ?_)
        clear hK K
        refine wpAnyH_done (by kernel_rfl) ?_ _
        have e18 : w18.cell? ⟨g, 1, none⟩ = _ := (hb18.cell hgl).trans c1
        have f18 : w18.frozen? ⟨g, 1, none⟩ = _ := (hb18.frozen hgl).trans hfree
        unfold lastPost
        go_simp
        go_wp2_with fail
        go_meet
        exact close_ins h hb18 hown18 (take_insW _ _ _ hk HA.out HX.out)
    case rest =>
      obtain ⟨a3, c3, hblk, hrow, hfr⟩ := hcut
      go_wp2_with fail
      go_loopg [] ((insW (wayN s.cum t) s.ways).length + 1) (fun k wr => RefRel w g v s.cum (insW (wayN s.cum t) s.ways) k wr)
      case atStart => exact refRel_start ht hh hf h hblk hrow hfr
      case round =>
        obtain ⟨wo, rfl⟩ : ∃ wo : World, wo = wr := ⟨_, rfl⟩
        obtain ⟨⟨cum, l, n, a4, c4, hgk, hc, hbk, hrw, hp, h1l, hil, hcn, hrun⟩, hfr2⟩ := hrel
        have HD := Lib.hid hcn
        have HR := Lib.hid hrun
        have HK := Lib.hid hgk
        have HP := Lib.hid hp
        have HI := Lib.hid hil
        have H1 := Lib.hid h1l
        have HB := Lib.hid hbk
        have HW := Lib.hid hrw
        clear hcn hrun hgk hp hil h1l hrw hblk hrow hfr
        have e0 := cell_of_block hbk 0 rfl
        have e1 := cell_of_block hbk 1 rfl
        have f0 := free_of_block hbk 0
        clear hbk
        match l with
        | [] =>
          go_wp2
          go_ret
          exact ⟨rfl, refRel_end h ht hh hf (by simp) HB.out HW.out HD.out HR.out hfr2⟩
        | x :: r =>
          by_cases hx1 : x = 1
          · subst hx1
            obtain ⟨b4, hb4, hc4⟩ : ∃ b4, a4 = some ⟨b4, 0, none⟩ ∧ wo.cell? ⟨b4, 0, none⟩ = some (.int .i64 1) := by
              obtain ⟨a', cap', e, hcl⟩ := row_reads HW.out
              cases e
              obtain ⟨b4, e1, e2⟩ := hcl 0 _ (i64s_get _ 0 (by simp))
              exact ⟨b4, e1, e2⟩
            subst hb4
            have hgl2 := lt_of_heap HB.out
            obtain ⟨w1, hw1⟩ : ∃ w1, w1 = wo.setCell ⟨g, 0, none⟩ (.int .u32 (((cum + 1) % M32 : Nat) : Int)) := ⟨_, rfl⟩
            have hw1' : wo.setCell ⟨g, 0, none⟩ (.int .u32 (((cum : Int) + 1) % 4294967296)) = w1 := by rw [hw1]; unfold M32; congr 2
            have HW1 := Lib.hid hw1
            clear hw1
            have hb1 : w1.heap[g]? = some (.cells #[.int .u32 (((cum + 1) % M32 : Nat) : Int), .slice (some ⟨b4, 0, none⟩) (1 :: r).length c4, v] 31 (0, 0)) := by rw [HW1.out, setCell_block HB.out]; rfl
            have hb4g : b4 ≠ g := by have := (HW.out.lt b4 rfl).1; omega
            have hrow1 : w1.ownsRow w.heap.size 2 1 (.slice (some ⟨b4, 0, none⟩) (1 :: r).length c4) (1 :: r).length (i64s (1 :: r)) := by
              rw [HW1.out]
              exact ownsRow_kept HW.out (fun k hk => Below.heap_setCell _ _ _ _ (by cases hk; exact hb4g))
            have HB1 := Lib.hid hb1
            have HRW := Lib.hid hrow1
            clear hb1 hrow1
            have hil2 : (1 :: r).length ≤ 65535 := length_le_of_sorted (1 :: r) 1 65536 HP.out H1.out (fun y hy => by have := HI.out y hy; omega)
            have hrl : r.length ≤ 65534 := by simp at hil2; omega
            clear hil2
            go_wp2
            go_loopw [7, 8] (fun rv vi wr2 => ∃ j : Nat, j ≤ r.length ∧ vi = .int .i64 ((j + 1 : Nat) : Int) ∧ wr2.ownsRow w1.heap.size 2 1 rv j (i64s ((r.take j).map (· - 1))) ∧ Below w1.heap.size w1 wr2) (fun _ vi _ => r.length + 1 - (intOf vi).toNat)
            case atStart => exact ⟨0, Nat.zero_le _, rfl, by simpa [i64s] using World.ownsRow_nil w1 w1.heap.size 2 1, Below.refl _ _⟩
            case round =>
              obtain ⟨j, hj, rfl, hown, hbe⟩ := hrel
              obtain ⟨a7, c7, rfl⟩ := row_shape hown
              have d1 : wr.cell? ⟨g, 1, none⟩ = some (.slice (some ⟨b4, 0, none⟩) (1 :: r).length c4) := by
                rw [hbe.cell (by exact lt_of_heap HB1.out)]; exact cell_of_block HB1.out 1 rfl
              by_cases hjl : j < r.length
              · obtain ⟨y, hy⟩ : ∃ y, y = r.getD j 0 := ⟨_, rfl⟩
                have dk : wr.cell? ⟨b4, j + 1, none⟩ = some (.int .i64 y) := by
                  rw [hbe.cell (by exact (HRW.out.lt b4 rfl).2), hy]
                  obtain ⟨a', cap', e, hcl⟩ := row_reads HRW.out
                  cases e
                  obtain ⟨b5, e1, e2⟩ := hcl (j + 1) _ (i64s_get _ (j + 1) (by simp; omega))
                  cases e1
                  simpa using e2
                have hym : y ∈ 1 :: r := by rw [hy, List.getD_eq_getElem?_getD, List.getElem?_eq_getElem hjl]; exact List.mem_cons_of_mem _ (List.getElem_mem hjl)
                have hy1 := H1.out y hym
                have hy2 := HI.out y hym
                have HY := Lib.hid hy
                clear hy hym
                obtain ⟨i0, hi0, hq0, hq1, hq2⟩ := info_parts info2
                go_wp2_with (at_builtin; refine wp_app _ rfl _ _ 28 rfl w1.heap.size 2 i0 (.int .i64 0) 1 8 Try.underlying28 hi0 hq0 hq1 hq2 rfl (by decide) (.slice a7 j c7) j _ rfl (hown.alloc _) ⟨wr.heap.size, 0, none⟩ 1 1 [.int .i64 ((y : Int) - 1)] rfl rfl (cell_one_new _ _ _) (by simp [Value.oneCell']) (by unfold maxLen; omega) (by omega) (by have := hbe.size; simp; omega) ?_; intro a8 c8 w8 hown8 hgrow8 hloc8)
                go_roundw
                case rel =>
                  refine ⟨j + 1, by omega, by go_num, ?_, ?_⟩
                  · rw [← take_map_snoc r j hjl, ← HY.out]
                    rw [show ((y - 1 : Nat) : Int) = (y : Int) - 1 from by omega]
                    exact hown8
                  · exact (hbe.alloc hbe.size _).grown hgrow8 (by have := hbe.size; simp; omega) (fun k hk => (hown.lt k hk).1)
                case measure => simp [intOf]; omega
              · have f1 : wr.frozen? ⟨g, 1, none⟩ = false := by
                  rw [hbe.frozen (by exact lt_of_heap HB1.out)]; exact free_of_block HB1.out 1
                go_wp2
                go_roundg (gk - 1)
                case measure => have := HK.out; simp at this; omega
                case rel =>
                  obtain rfl : j = r.length := by omega
                  rw [List.take_length] at hown
                  exact refRel_step HK.out HP.out HI.out HB.out hfr2.size HD.out HR.out hfr2 HW1.out hbe hown
          · have hne : ((x : Int) == 1) = false := by simp; omega
            obtain ⟨b4, hb4, hc4⟩ : ∃ b4, a4 = some ⟨b4, 0, none⟩ ∧ wo.cell? ⟨b4, 0, none⟩ = some (.int .i64 x) := by
              obtain ⟨a', cap', e, hcl⟩ := row_reads HW.out
              cases e
              obtain ⟨b4, e1, e2⟩ := hcl 0 _ (i64s_get _ 0 (by simp))
              exact ⟨b4, e1, e2⟩
            subst hb4
            have HN := Lib.hid hx1
            clear hx1
            go_wp2
            go_ret
            exact ⟨rfl, refRel_end h ht hh hf (not_one HP.out H1.out HN.out) HB.out HW.out HD.out HR.out hfr2⟩

end Go.Proofs.Ythnmkcofbjgpaaa
