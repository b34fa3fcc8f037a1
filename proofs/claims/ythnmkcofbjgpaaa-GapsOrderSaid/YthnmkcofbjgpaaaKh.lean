/- Two sets that the call itself has made, and blocks beside them that stay; a map from TSNs to how often each came. -/
import Derived.Test.YthnmkcofbjgpaaaKd
import Derived.Test.YthnmkcofbjgpaaaWf
namespace Go.Proofs.Ythnmkcofbjgpaaa
open Go.RowKit Go.Maps

structure TwoX (X : Nat → Prop) (w1 : World) (B : Nat) (w0 w : World) (g1 bm1 : Nat) (s1 : GS) (g2 bm2 : Nat) (s2 : GS) : Prop where
  ex : ∃ v1 v2, IsSet w g1 bm1 v1 s1 ∧ IsSet w g2 bm2 v2 s2 ∧ (∀ k, feet g1 bm1 v1 k → B ≤ k) ∧ (∀ k, feet g2 bm2 v2 k → B ≤ k) ∧ (∀ k, feet g1 bm1 v1 k → ¬ feet g2 bm2 v2 k) ∧ (∀ k, X k → ¬ feet g1 bm1 v1 k ∧ ¬ feet g2 bm2 v2 k)
  be : Below B w0 w
  ge : ∀ k, X k → B ≤ k
  lt : ∀ k, X k → k < w1.heap.size
  size : w1.heap.size ≤ w.heap.size
  kept : ∀ k, X k → w.heap[k]? = w1.heap[k]?

section
variable {X : Nat → Prop} {w1 : World} {B : Nat} {w0 w w' : World} {g1 bm1 g2 bm2 : Nat} {s1 s2 : GS}

theorem TwoX.swap (h : TwoX X w1 B w0 w g1 bm1 s1 g2 bm2 s2) : TwoX X w1 B w0 w g2 bm2 s2 g1 bm1 s1 := by
  obtain ⟨⟨v1, v2, a, b, c, d, e, x⟩, f⟩ := h
  exact ⟨⟨v2, v1, b, a, d, c, fun k h1 h2 => e k h2 h1, fun k hk => (x k hk).symm⟩, f, by assumption, by assumption, by assumption, by assumption⟩

theorem TwoX.hsize (h : TwoX X w1 B w0 w g1 bm1 s1 g2 bm2 s2) : B ≤ w.heap.size := by
  obtain ⟨⟨v1, v2, a, b, c, d, e, x⟩, f⟩ := h
  have := lt_of_heap a.blk
  have := c g1 (Or.inl rfl)
  omega
theorem TwoX.wf1 (h : TwoX X w1 B w0 w g1 bm1 s1 g2 bm2 s2) : WF s1 := by
  obtain ⟨⟨v1, v2, a, b, c, d, e, x⟩, f⟩ := h
  exact a.wf

theorem TwoX.step (h : TwoX X w1 B w0 w g1 bm1 s1 g2 bm2 s2) (hb : Below w.heap.size w w') : TwoX X w1 B w0 w' g1 bm1 s1 g2 bm2 s2 := by
  have hB := h.hsize
  obtain ⟨⟨v1, v2, a, b, c, d, e, x⟩, f, q1, q2, q3, q4⟩ := h
  exact ⟨⟨v1, v2, a.below hb, b.below hb, c, d, e, x⟩, f.trans (hb.mono hB), q1, q2, Nat.le_trans q3 hb.size, fun k hk => (hb.block k (Nat.lt_of_lt_of_le (q2 k hk) q3)).trans (q4 k hk)⟩
theorem TwoX.alloc (h : TwoX X w1 B w0 w g1 bm1 s1 g2 bm2 s2) (o : Obj) : TwoX X w1 B w0 (w.alloc o) g1 bm1 s1 g2 bm2 s2 := h.step ((Below.refl _ _).alloc (Nat.le_refl _) _)
theorem TwoX.drewN (h : TwoX X w1 B w0 w g1 bm1 s1 g2 bm2 s2) (n : Nat) : TwoX X w1 B w0 (w.drewN n) g1 bm1 s1 g2 bm2 s2 := h.step ⟨rfl, rfl, rfl, Nat.le_refl _, fun _ _ => rfl⟩
theorem TwoX.drew (h : TwoX X w1 B w0 w g1 bm1 s1 g2 bm2 s2) : TwoX X w1 B w0 w.drew g1 bm1 s1 g2 bm2 s2 := h.step ⟨rfl, rfl, rfl, Nat.le_refl _, fun _ _ => rfl⟩
/-- From here on. -/
theorem TwoX.anew (h : TwoX X w1 B w0 w g1 bm1 s1 g2 bm2 s2) : TwoX X w B w0 w g1 bm1 s1 g2 bm2 s2 := by
  obtain ⟨a, f, q1, q2, q3, q4⟩ := h
  exact ⟨a, f, q1, fun k hk => Nat.lt_of_lt_of_le (q2 k hk) q3, Nat.le_refl _, fun _ _ => rfl⟩
/-- One of the blocks beside is written. -/
theorem TwoX.beside (h : TwoX X w1 B w0 w g1 bm1 s1 g2 bm2 s2) (hf : Fr X w w') : TwoX X w' B w0 w' g1 bm1 s1 g2 bm2 s2 := by
  have hB := h.hsize
  obtain ⟨⟨v1, v2, a, b, c, d, e, x⟩, f, q1, q2, q3, q4⟩ := h
  exact ⟨⟨v1, v2, a.kept hf (fun k h1 h2 => (x k h2).1 h1), b.kept hf (fun k h1 h2 => (x k h2).2 h1), c, d, e, x⟩, f.trans (hf.below hB fun k hk hx => by have := q1 k hx; omega), q1, fun k hk => Nat.lt_of_lt_of_le (Nat.lt_of_lt_of_le (q2 k hk) q3) hf.size, Nat.le_refl _, fun _ _ => rfl⟩

theorem TwoX.row {base : Nat} {e : TypeId} {size : Nat} {v : Value} {n : Nat} {xs : List Value} (h : TwoX X w1 B w0 w g1 bm1 s1 g2 bm2 s2) (hr : w1.ownsRow base e size v n xs) (hX : ∀ k, v.ownBlock = some k → X k) : w.ownsRow base e size v n xs :=
  ownsRow_kept hr (fun k hk => h.kept k (hX k hk))
theorem TwoX.map {H : Type} {P : Program} {kt : TypeId} {R : Value → Option (DataW H × List MemPlace)} {b n : Nat} {D : DataW H} (h : TwoX X w1 B w0 w g1 bm1 s1 g2 bm2 s2) (hm : w1.ownsMap P kt R b n D) (hX : X b) : w.ownsMap P kt R b n D :=
  ownsMap_kept hm (h.kept b hX)

/-- Out of two sets: what was laid behind them lies beside them. -/
theorem tx_of_two (h : Two B w0 w g1 bm1 s1 g2 bm2 s2) (hb : Below w.heap.size w w') (hX : ∀ k, X k → w.heap.size ≤ k ∧ k < w'.heap.size) : TwoX X w' B w0 w' g1 bm1 s1 g2 bm2 s2 := by
  have hB := h.size
  have h' := h.step hb
  obtain ⟨⟨v1, v2, a, b, c, d, e⟩, f⟩ := h
  refine ⟨⟨v1, v2, a.below hb, b.below hb, c, d, e, fun k hk => ⟨fun h1 => ?_, fun h1 => ?_⟩⟩, h'.be, fun k hk => Nat.le_trans hB (hX k hk).1, fun k hk => (hX k hk).2, Nat.le_refl _, fun _ _ => rfl⟩
  · have := a.lt k h1; have := (hX k hk).1; omega
  · have := b.lt k h1; have := (hX k hk).1; omega

theorem tx_add (h : TwoX X w1 B w0 w g1 bm1 s1 g2 bm2 s2) (T : Int) (t : Nat) (hT : T = t) (ht : t < M32) :
    Calls Try.prog 8 #[.pointer (some ⟨g1, 0, none⟩), .int .u32 T] w fun e w' => e = .returned (.int .u8 ((addG s1 t).1 : Nat)) ∧ TwoX X w1 B w0 w' g1 bm1 (addG s1 t).2 g2 bm2 s2 := by
  subst hT
  have hB := h.hsize
  obtain ⟨⟨v1, v2, a, b, c, d, e, x⟩, f, q1, q2, q3, q4⟩ := h
  refine (add_any g1 bm1 v1 s1 t ht w a).mono ?_
  rintro e' w' ⟨rfl, v', a1, a2, a3⟩
  have hn : ∀ k, feet g1 bm1 v' k → feet g1 bm1 v1 k ∨ w.heap.size ≤ k := by
    rintro k (rfl | rfl | hk)
    · exact Or.inl (Or.inl rfl)
    · exact Or.inl (Or.inr (Or.inl rfl))
    · rcases a3 k hk.symm with h | h
      · exact Or.inl (Or.inr (Or.inr h.symm))
      · exact Or.inr h
  refine ⟨rfl, ⟨v', v2, a1, b.kept a2 (fun k hk h1 => e k h1 hk), fun k hk => ?_, d, fun k hk h2 => ?_, fun k hk => ⟨fun h2 => ?_, (x k hk).2⟩⟩, f.trans (a2.below hB fun k hk hf => by have := c k hf; omega), q1, q2, Nat.le_trans q3 a2.size, fun k hk => (a2.block k (Nat.lt_of_lt_of_le (q2 k hk) q3) (x k hk).1).trans (q4 k hk)⟩
  · rcases hn k hk with h | h
    · exact c k h
    · omega
  · rcases hn k hk with h | h
    · exact e k h h2
    · have := b.lt k h2; omega
  · rcases hn k h2 with h | h
    · exact (x k hk).1 h
    · have := q2 k hk; omega

theorem tx_cum (h : TwoX X w1 B w0 w g1 bm1 s1 g2 bm2 s2) : Calls Try.prog 14 #[.pointer (some ⟨g1, 0, none⟩)] w fun e w' => e = .returned (.int .u32 (s1.cum : Nat)) ∧ w = w' := by
  obtain ⟨⟨v1, v2, a, r⟩, f⟩ := h
  exact cum_any g1 bm1 v1 s1 w a
theorem tx_len (h : TwoX X w1 B w0 w g1 bm1 s1 g2 bm2 s2) : Calls Try.prog 18 #[.pointer (some ⟨g1, 0, none⟩)] w fun e w' => e = .returned (.int .i64 (s1.ways.length : Nat)) ∧ w = w' := by
  obtain ⟨⟨v1, v2, a, r⟩, f⟩ := h
  exact len_any g1 bm1 v1 s1 w a
theorem tx_has (h : TwoX X w1 B w0 w g1 bm1 s1 g2 bm2 s2) (T : Int) (t : Nat) (hT : T = t) (ht : t < M32) :
    Calls Try.prog 19 #[.pointer (some ⟨g1, 0, none⟩), .int .u32 T] w fun e w' => e = .returned (.bool (hasG s1 t)) ∧ TwoX X w1 B w0 w' g1 bm1 s1 g2 bm2 s2 := by
  subst hT
  have h' := h
  obtain ⟨⟨v1, v2, a, r⟩, f⟩ := h
  refine (has_any g1 bm1 v1 s1 t ht w a).mono ?_
  rintro e' w' ⟨rfl, q⟩
  exact ⟨rfl, h'.step q⟩
theorem tx_gaps (h : TwoX X w1 B w0 w g1 bm1 s1 g2 bm2 s2) :
    Calls Try.prog 16 #[.pointer (some ⟨g1, 0, none⟩)] w fun e w' => ∃ z, e = .returned z ∧ TwoX X w1 B w0 w' g1 bm1 s1 g2 bm2 s2 ∧ w'.ownsRow w.heap.size 49 2 z (gapsG s1.ways).length (gaps (gapsG s1.ways)) ∧ Below w.heap.size w w' := by
  have h' := h
  obtain ⟨⟨v1, v2, a, r⟩, f⟩ := h
  refine (gaps_any g1 bm1 v1 s1 w a).mono ?_
  rintro e' w' ⟨z, rfl, q1, q2⟩
  exact ⟨z, rfl, h'.step q2, q1, q2⟩
end

/-! ### How often each came -/
theorem zero3 (w : World) : (zeroValue 3).run Try.prog w = .ok (.int .i64 0) w := by kernel_rfl

structure Cnt (D : DataW Unit) (c : Nat) (xs : List Nat) : Prop where
  val : ∀ x : Nat, x < M32 → ∃ n : Nat, D.atKey (.int .u32 x) (.lit (.int .i64 0)) = .lit (.int .i64 (n : Int)) ∧ (0 < n ↔ wayN c x ∈ xs) ∧ n ≤ xs.length
  has : ∀ x : Nat, x < M32 → Maps.has D (.int .u32 x) = decide (wayN c x ∈ xs)
  size : ∃ ks : List Nat, ks.Nodup ∧ (∀ y, y ∈ ks ↔ y ∈ xs) ∧ Maps.size D = ks.length

theorem Cnt.start (c : Nat) : Cnt (.map []) c [] :=
  ⟨fun x _ => ⟨0, rfl, by simp, Nat.le_refl _⟩, fun x _ => by simp [Maps.has], [], by simp, by simp, rfl⟩

theorem Cnt.put {D : DataW Unit} {c : Nat} {xs : List Nat} (h : Cnt D c xs) (ht : Maps.Tidy D) (hc : c < M32) {t n : Nat} (hlt : t < M32) (hn : D.atKey (.int .u32 t) (.lit (.int .i64 0)) = .lit (.int .i64 (n : Int))) :
    Cnt (D.put (.int .u32 t) (.lit (.int .i64 ((n : Int) + 1)))) c (xs ++ [wayN c t]) := by
  obtain ⟨n', hn', _, hnl⟩ := h.val t hlt
  have hnn : n = n' := by
    rw [hn] at hn'
    injection hn' with hn'
    injection hn' with _ hn'
    omega
  subst hnn
  refine ⟨fun x hx => ?_, fun x hx => ?_, ?_⟩
  · by_cases e : x = t
    · subst e
      refine ⟨n + 1, ?_, ?_, by simp; omega⟩
      · rw [atKey_put_same ht.isMap (isKey _)]; simp
      · simp
    · obtain ⟨m, h1, h2, h3⟩ := h.val x hx
      refine ⟨m, by rw [atKey_put_other (key_ne e)]; exact h1, ?_, by simp; omega⟩
      rw [h2, List.mem_append, List.mem_singleton]
      exact ⟨Or.inl, fun h' => h'.elim id (fun e' => absurd (wayN_inj hc hx hlt e') e)⟩
  · by_cases e : x = t
    · subst e
      rw [has_put_same ht.isMap (isKey _)]
      simp
    · rw [has_put_other (key_ne e), h.has x hx, Bool.eq_iff_iff, decide_eq_true_eq, decide_eq_true_eq, List.mem_append, List.mem_singleton]
      exact ⟨Or.inl, fun h' => h'.elim id (fun e' => absurd (wayN_inj hc hx hlt e') e)⟩
  · obtain ⟨ks, k1, k2, k3⟩ := h.size
    rw [size_put ht, h.has t hlt]
    by_cases hin : wayN c t ∈ xs
    · rw [decide_eq_true hin]
      refine ⟨ks, k1, fun y => ?_, by simpa using k3⟩
      rw [k2, List.mem_append, List.mem_singleton]
      exact ⟨Or.inl, fun h' => h'.elim id (fun e' => e' ▸ hin)⟩
    · rw [decide_eq_false hin]
      refine ⟨ks ++ [wayN c t], ?_, fun y => by rw [List.mem_append, List.mem_append, k2], by simp [k3]⟩
      rw [List.nodup_append]
      refine ⟨k1, by simp, ?_⟩
      intro a ha b hb e
      rw [List.mem_singleton] at hb
      subst e hb
      exact hin ((k2 _).1 ha)

/-- The look-up, at whatever world. -/
theorem look_came {w : World} {b n : Nat} {D : DataW Unit} (hown : w.ownsMap Try.prog 22 (plainElem Try.prog 3) b n D) {t m : Nat} (ht : t < M32) (T : Int) (hT : T = t) (hv : D.atKey (.int .u32 t) (.lit (.int .i64 0)) = .lit (.int .i64 (m : Int))) :
    (Instr.lookup 47 (.map (some b)) (.int .u32 T) false).run Try.prog w = .ok (.int .i64 (m : Int)) w := by
  subst hT
  obtain ⟨c, h1, h2, _⟩ := hown.lookup_int law22 Try.underlying47 Try.underlying3 (zero3 w) (keyU t ht)
  rw [hv] at h2
  injection h2 with h2
  injection h2 with _ h2
  rw [h1, h2]

/-- append of whatever a slice reads as, onto a row that is owned. -/
theorem wp_app_any {P : Program} (w : World) {ops : Array Oper} {rest : List Oper} {o : Oper} {a : Act} {Q : Exit → Act → World → Prop} (hgd : o.guard = none) (s x : Operand) (t : TypeId)
    (ho : o.op = .call { callee := .builtin .append, args := #[s, x], argTypes := #[t, t] })
    (base : Nat) (e : TypeId) (i : TypeInfo) (z : Value) (bytes : Nat) (ht : P.underlying t = some (.slice e)) (hi : P.info? e = some i) (hz : i.zero = some z)
    (hsize : i.size = 1) (hby : i.bytes = bytes) (hzs : z.cells.size = 1)
    (v : Value) (n : Nat) (xs : List Value) (hs : a.eval s = v) (hown : w.ownsRow base e 1 v n xs)
    (xa : Option Addr) (m c : Nat) (news : List Value) (hx : a.eval x = .slice xa m c) (hl : news.length = m) (hc : xa = none → c = 0) (hnews : ∀ ad, xa = some ad → ∀ j u, news[j]? = some u → w.cell? (ad.add j) = some u) (hnone : xa = none → m = 0) (h1 : ∀ u ∈ news, u.oneCell' = true)
    (h63 : n + m ≤ maxLen) (hbytes : (n + m) * bytes ≤ 140737488355328) (hbase : base ≤ w.heap.size)
    (h : ∀ a' c' w', w'.ownsRow base e 1 (.slice a' (n + m) c') (n + m) (xs ++ news) → w.grownBy w' v.ownBlock → ((Value.slice a' (n + m) c').ownBlock = v.ownBlock ∨ (Value.slice a' (n + m) c').ownBlock = some w.heap.size) → wpList P ops Q rest (a.put o.dst (.slice a' (n + m) c')) w') : wpList P ops Q (o :: rest) a w := by
  refine wpList_plain hgd fun K hK => ?_
  have := step_app (P := P) (w := w) (ops := ops) (o := o) (a := a) (K := K) (Q := Q) (E := False) hgd s x t ho base e i z bytes ht hi hz hsize hby hzs v n xs hs hown xa m c news hx hl hc hnews hnone h1 h63 hbytes hbase
    (fun a' c' w' q1 q2 q3 => hK _ _ (h a' c' w' q1 q2 q3))
  rwa [if_pos (by simp [Region.wanted, hgd])] at this

/-- All of them, one behind the other. -/
def addAll (c : Nat) (xs : List Nat) (s : GS) : GS := xs.foldl (fun s x => (addG s ((c + x) % M32)).2) s

theorem addAll_snoc (c : Nat) (xs : List Nat) (x : Nat) (s : GS) : addAll c (xs ++ [x]) s = (addG (addAll c xs s) ((c + x) % M32)).2 := by
  simp [addAll]

theorem came_all (c : Nat) (hc : c < M32) (xs : List Nat) (hx : ∀ x ∈ xs, 1 ≤ x ∧ x ≤ 30000) : ∃ m, Came c xs m (addAll c xs ⟨c, [], []⟩) := by
  suffices h : ∀ k, k ≤ xs.length → ∃ m, Came c (xs.take k) m (addAll c (xs.take k) ⟨c, [], []⟩) by
    have := h xs.length (Nat.le_refl _)
    rwa [List.take_length] at this
  intro k
  induction k with
  | zero => intro _; exact ⟨0, Came.start c hc []⟩
  | succ k ih =>
    intro hk
    obtain ⟨m, h⟩ := ih (by omega)
    have hkl : k < xs.length := by omega
    have e : xs.take (k + 1) = xs.take k ++ [xs[k]] := List.take_succ_eq_append_getElem hkl
    have hr := hx xs[k] (List.getElem_mem hkl)
    obtain ⟨-, m', h'⟩ := h.add hc (fun x hx' => (hx x (List.mem_of_mem_take hx')).2) hr.1 hr.2
    exact ⟨m', by rw [e, addAll_snoc]; exact h'⟩

end Go.Proofs.Ythnmkcofbjgpaaa
