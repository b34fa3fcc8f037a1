/- The reference's two comparisons of lists, walked. -/
import Derived.Test.YthnmkcofbjgpaaaWe
import Derived.Deep.QuietTactic
import Derived.BigQuiet
namespace Go.Proofs.Ythnmkcofbjgpaaa
open Go.RowKit Go.Maps

theorem ext_getD {l k : List Nat} (hl : l.length = k.length) (h : ∀ j, j < l.length → l.getD j 0 = k.getD j 0) : l = k := by
  refine List.ext_getElem hl fun j h1 h2 => ?_
  have := h j h1
  simpa [List.getD_eq_getElem?_getD, List.getElem?_eq_getElem h1, List.getElem?_eq_getElem h2] using this

theorem drewN_drewN (w : World) (a b : Nat) : (w.drewN a).drewN b = w.drewN (a + b) := by
  simp [World.drewN, Nat.add_assoc]

set_option maxHeartbeats 800000 in
theorem sameTsns_any (ba bb : Nat) (va vb : Value) (la lb : List Nat) (w : World) (ha : w.ownsRow ba 22 1 va la.length (u32s la)) (hb : w.ownsRow bb 22 1 vb lb.length (u32s lb)) (hl1 : la.length ≤ 1000) (hl2 : lb.length ≤ 1000) :
    Calls Try.prog 10 #[va, vb] w fun e w' => e = .returned (.bool (decide (la = lb))) ∧ ∃ n, w' = w.drewN n := by
  obtain ⟨a1, c1, rfl, hca⟩ := row_reads ha
  obtain ⟨a2, c2, rfl, hcb⟩ := row_reads hb
  have HA := Lib.hid hca
  have HB := Lib.hid hcb
  clear hca hcb ha hb
  by_cases hl : la.length = lb.length
  · rw [← hl]
    have HL := Lib.hid hl
    clear hl
    go_enter Try.func10, Try.ntmps10
    go_wp2
    go_loopw [5] (fun i wr => ∃ k q : Nat, k ≤ la.length ∧ i = .int .i64 k ∧ wr = w.drewN q ∧ ∀ j, j < k → la.getD j 0 = lb.getD j 0) (fun i _ => la.length - (intOf i).toNat)
    case atStart => exact ⟨0, 0, Nat.zero_le _, rfl, rfl, by intro j hj; omega⟩
    case round =>
      obtain ⟨k, q, hk, rfl, rfl, hall⟩ := hrel
      have HE := Lib.hid hall
      clear hall
      by_cases hlt : k < la.length
      · obtain ⟨b1, rfl, hk1⟩ := HA.out k _ (u32s_get _ _ hlt)
        obtain ⟨b2, rfl, hk2⟩ := HB.out k _ (u32s_get _ _ (by have := HL.out; omega))
        obtain ⟨x, hx⟩ : ∃ x, x = la.getD k 0 := ⟨_, rfl⟩
        obtain ⟨y, hy⟩ : ∃ y, y = lb.getD k 0 := ⟨_, rfl⟩
        rw [← hx] at hk1
        rw [← hy] at hk2
        have HX := Lib.hid hx
        have HY := Lib.hid hy
        clear hx hy
        have hlt' : (k : Int) < (la.length : Int) := by omega
        have h0 : (0 : Int) ≤ (k : Int) := by omega
        go_wp2
        go_quiet (fail)
        go_wp2
        · go_ret
          refine ⟨ret_bool ?_, q + nq, drewN_drewN _ _ _⟩
          have hne : ((x : Int) != (y : Int)) = true := by assumption
          symm
          rw [decide_eq_false_iff_not]
          intro e
          subst e
          rw [HX.out, HY.out] at hne
          simp at hne
        · have hne : ((x : Int) != (y : Int)) = false := by assumption
          go_roundw
          case rel =>
            refine ⟨k + 1, q + nq, by omega, by go_num, rfl, fun j hj => ?_⟩
            by_cases e : j = k
            · subst e
              rw [← HX.out, ← HY.out]
              simp at hne
              omega
            · exact HE.out j (by omega)
          case measure => simp [intOf]; omega
      · go_wp2
        go_ret
        refine ⟨ret_bool ?_, _, rfl⟩
        symm
        rw [decide_eq_true_iff]
        exact ext_getD HL.out (fun j hj => HE.out j (by omega))
  · go_enter Try.func10, Try.ntmps10
    have hne : ((la.length : Int) != lb.length) = true := by simp; omega
    go_wp2
    go_ret
    exact ⟨ret_bool (by symm; rw [decide_eq_false_iff_not]; intro e; exact hl (congrArg List.length e)), 0, rfl⟩

/-! ### Lists of gaps -/
def gapv (g : Nat × Nat) : List Value := [.int .u16 (g.1 : Int), .int .u16 (g.2 : Int)]
def gaps (l : List (Nat × Nat)) : List Value := l.flatMap gapv

theorem gaps_len (l : List (Nat × Nat)) : (gaps l).length = l.length * 2 := by
  unfold gaps
  rw [List.length_flatMap]
  induction l with
  | nil => rfl
  | cons x r ih => simp only [List.map_cons, List.sum_cons, ih, List.length_cons]; simp [gapv]; omega

theorem gaps_get : ∀ (l : List (Nat × Nat)) (i : Nat), i < l.length → (gaps l)[2 * i]? = some (.int .u16 ((l.getD i (0, 0)).1 : Int)) ∧ (gaps l)[2 * i + 1]? = some (.int .u16 ((l.getD i (0, 0)).2 : Int))
  | x :: r, 0, _ => by simp [gaps, gapv]
  | x :: r, i + 1, h => by
    have := gaps_get r i (by simpa using h)
    have e : gaps (x :: r) = .int .u16 (x.1 : Int) :: .int .u16 (x.2 : Int) :: gaps r := by simp [gaps, gapv]
    rw [e]
    constructor
    · rw [show 2 * (i + 1) = 2 * i + 1 + 1 from by omega]; simpa using this.1
    · rw [show 2 * (i + 1) + 1 = 2 * i + 1 + 1 + 1 from by omega]; simpa using this.2

/-- A row of gaps, nil or not. -/
theorem gap_reads {w : World} {base : Nat} {v : Value} {l : List (Nat × Nat)} (h : w.ownsRow base 49 2 v l.length (gaps l)) :
    ∃ a cap, v = .slice a l.length cap ∧ ∀ i, i < l.length → ∃ b, a = some ⟨b, 0, none⟩ ∧ w.cell? ⟨b, i * 2, none⟩ = some (.int .u16 ((l.getD i (0, 0)).1 : Int)) ∧ w.cell? ⟨b, i * 2 + 1, none⟩ = some (.int .u16 ((l.getD i (0, 0)).2 : Int)) := by
  rcases h.2 with ⟨rfl, hn⟩ | ⟨g, cap, cur, rfl, _⟩
  · refine ⟨none, 0, by rw [hn], fun i hi => by omega⟩
  · refine ⟨_, cap, rfl, fun i hi => ⟨g, rfl, ?_, ?_⟩⟩
    · have := h.cells (g := g) rfl _ _ (gaps_get l i hi).1
      rwa [show (⟨g, 0, none⟩ : Addr).add (2 * i) = ⟨g, i * 2, none⟩ from by unfold Addr.add; split <;> simp <;> omega] at this
    · have := h.cells (g := g) rfl _ _ (gaps_get l i hi).2
      rwa [show (⟨g, 0, none⟩ : Addr).add (2 * i + 1) = ⟨g, i * 2 + 1, none⟩ from by unfold Addr.add; split <;> simp <;> omega] at this

theorem ext_getD2 {l k : List (Nat × Nat)} (hl : l.length = k.length) (h : ∀ j, j < l.length → l.getD j (0, 0) = k.getD j (0, 0)) : l = k := by
  refine List.ext_getElem hl fun j h1 h2 => ?_
  have := h j h1
  simpa [List.getD_eq_getElem?_getD, List.getElem?_eq_getElem h1, List.getElem?_eq_getElem h2] using this

theorem und49 : Try.prog.underlying 49 = some (.struct (Try.prog.fieldsOf 49)) := by kernel_rfl
theorem held49 : Try.prog.stoodInHeld 49 = false := by kernel_rfl
theorem guard49 : Try.prog.eqGuardType Try.prog.depth 49 = false := by kernel_rfl
theorem fields49 : Try.prog.fieldsOf 49 = #[{ name := "Start", type := 46, offset := 0, embedded := false, tag := "", pkgPath := "", byteOffset := 0 }, { name := "End", type := 46, offset := 1, embedded := false, tag := "", pkgPath := "", byteOffset := 2 }] := by kernel_rfl
theorem run_neq49 (x y x' y' : Int) (W : World) : (binOp .neq 49 (.agg #[.int .u16 x, .int .u16 x']) (.agg #[.int .u16 y, .int .u16 y'])).run Try.prog W = .ok (.bool (!((x == y) && (x' == y')))) W := by
  have hu := Try.underlying46
  rw [run_neq_struct, run_equalIn_agg _ _ _ _ _ und49 held49, fields49]
  simp [Op.eqFields, part, run_equalIn_int, hu, go_sem]
  by_cases h1 : x = y <;> by_cases h2 : x' = y' <;> simp [h1, h2]

set_option maxHeartbeats 800000 in
theorem sameGaps_any (ba bb : Nat) (va vb : Value) (la lb : List (Nat × Nat)) (w : World) (ha : w.ownsRow ba 49 2 va la.length (gaps la)) (hb : w.ownsRow bb 49 2 vb lb.length (gaps lb)) (hl1 : la.length ≤ 1000) (hl2 : lb.length ≤ 1000) :
    Calls Try.prog 15 #[va, vb] w fun e w' => e = .returned (.bool (decide (la = lb))) ∧ ∃ n, w' = w.drewN n := by
  obtain ⟨a1, c1, rfl, hca⟩ := gap_reads ha
  obtain ⟨a2, c2, rfl, hcb⟩ := gap_reads hb
  have HA := Lib.hid hca
  have HB := Lib.hid hcb
  clear hca hcb ha hb
  by_cases hl : la.length = lb.length
  · rw [← hl]
    have HL := Lib.hid hl
    clear hl
    go_enter Try.func15, Try.ntmps15
    go_wp2
    go_loopw [5] (fun i wr => ∃ k q : Nat, k ≤ la.length ∧ i = .int .i64 k ∧ wr = w.drewN q ∧ ∀ j, j < k → la.getD j (0, 0) = lb.getD j (0, 0)) (fun i _ => la.length - (intOf i).toNat)
    case atStart => exact ⟨0, 0, Nat.zero_le _, rfl, rfl, by intro j hj; omega⟩
    case round =>
      obtain ⟨k, q, hk, rfl, rfl, hall⟩ := hrel
      have HE := Lib.hid hall
      clear hall
      by_cases hlt : k < la.length
      · obtain ⟨b1, rfl, hk1, hk1'⟩ := HA.out k hlt
        obtain ⟨b2, rfl, hk2, hk2'⟩ := HB.out k (by have := HL.out; omega)
        obtain ⟨x, hx⟩ : ∃ x, x = (la.getD k (0, 0)).1 := ⟨_, rfl⟩
        obtain ⟨y, hy⟩ : ∃ y, y = (lb.getD k (0, 0)).1 := ⟨_, rfl⟩
        obtain ⟨x', hx'⟩ : ∃ x', x' = (la.getD k (0, 0)).2 := ⟨_, rfl⟩
        obtain ⟨y', hy'⟩ : ∃ y', y' = (lb.getD k (0, 0)).2 := ⟨_, rfl⟩
        rw [← hx] at hk1
        rw [← hy] at hk2
        rw [← hx'] at hk1'
        rw [← hy'] at hk2'
        have HX := Lib.hid hx
        have HY := Lib.hid hy
        have HX' := Lib.hid hx'
        have HY' := Lib.hid hy'
        clear hx hy hx' hy'
        have hlt' : (k : Int) < (la.length : Int) := by omega
        have h0 : (0 : Int) ≤ (k : Int) := by omega
        obtain ⟨bb, hbb⟩ : ∃ bb, bb = ((x : Int) == y && (x' : Int) == y') := ⟨_, rfl⟩
        have hq : ∀ W, (binOp .neq 49 (.agg #[.int .u16 x, .int .u16 x']) (.agg #[.int .u16 y, .int .u16 y'])).run Try.prog W = .ok (.bool (!bb)) W := fun W => by rw [hbb]; exact run_neq49 _ _ _ _ W
        have HBB := Lib.hid hbb
        clear hbb
        have hg49 := guard49
        cases bb
        all_goals
          go_wp2
          go_quiet (fail)
          go_wp2
        · go_ret
          refine ⟨ret_bool ?_, q + nq, drewN_drewN _ _ _⟩
          symm
          rw [decide_eq_false_iff_not]
          intro e
          subst e
          have := HBB.out
          rw [HX.out, HY.out, HX'.out, HY'.out] at this
          simp at this
        · go_roundw
          case rel =>
            refine ⟨k + 1, q + nq, by omega, by go_num, by first | rfl | exact drewN_drewN _ _ _, fun j hj => ?_⟩
            by_cases e : j = k
            · subst e
              have := HBB.out
              have e1 := HX.out
              have e2 := HY.out
              have e3 := HX'.out
              have e4 := HY'.out
              simp only [Bool.true_eq, Bool.and_eq_true, beq_iff_eq] at this
              exact Prod.ext (by omega) (by omega)
            · exact HE.out j (by omega)
          case measure => simp [intOf]; omega
      · go_wp2
        go_ret
        refine ⟨ret_bool ?_, _, rfl⟩
        symm
        rw [decide_eq_true_iff]
        exact ext_getD2 HL.out (fun j hj => HE.out j (by omega))
  · go_enter Try.func15, Try.ntmps15
    have hne : ((la.length : Int) != lb.length) = true := by simp; omega
    go_wp2
    go_ret
    exact ⟨ret_bool (by symm; rw [decide_eq_false_iff_not]; intro e; exact hl (congrArg List.length e)), 0, rfl⟩

end Go.Proofs.Ythnmkcofbjgpaaa
