/- The reference's Gaps, walked. -/
import Derived.Test.YthnmkcofbjgpaaaWh
import Derived.Test.YthnmkcofbjgpaaaWc
namespace Go.Proofs.Ythnmkcofbjgpaaa
open Go.RowKit Go.Maps

/-! ### The runs, step by step -/
def gstep (acc : List (Nat × Nat)) (w : Nat) : List (Nat × Nat) :=
  match acc.getLast? with
  | some (a, b) => if b + 1 = w then acc.dropLast ++ [(a, w)] else acc ++ [(w, w)]
  | none => acc ++ [(w, w)]

theorem gapsFrom_fold : ∀ (ws : List Nat) (acc : List (Nat × Nat)), gapsFrom acc ws = ws.foldl gstep acc
  | [], _ => rfl
  | w :: r, acc => by
    rw [List.foldl_cons]
    unfold gapsFrom
    cases h : acc.getLast? with
    | none =>
      have e : gstep acc w = acc ++ [(w, w)] := by unfold gstep; rw [h]
      rw [e]; exact gapsFrom_fold r _
    | some p =>
      obtain ⟨a, b⟩ := p
      simp only []
      by_cases hb : b + 1 = w
      · have e : gstep acc w = acc.dropLast ++ [(a, w)] := by unfold gstep; rw [h]; simp [hb]
        rw [if_pos hb, e]; exact gapsFrom_fold r _
      · have e : gstep acc w = acc ++ [(w, w)] := by unfold gstep; rw [h]; simp [hb]
        rw [if_neg hb, e]; exact gapsFrom_fold r _

def runs (ws : List Nat) (k : Nat) : List (Nat × Nat) := (ws.take k).foldl gstep []

theorem runs_succ (ws : List Nat) (k : Nat) (h : k < ws.length) : runs ws (k + 1) = gstep (runs ws k) (ws.getD k 0) := by
  unfold runs
  rw [List.take_succ_eq_append_getElem h, List.foldl_append]
  simp [List.getD_eq_getElem?_getD, List.getElem?_eq_getElem h]

theorem gstep_len (acc : List (Nat × Nat)) (w : Nat) : (gstep acc w).length ≤ acc.length + 1 ∧ 0 < (gstep acc w).length := by
  unfold gstep
  split
  · split <;> simp
  · simp

theorem gstep_last (acc : List (Nat × Nat)) (w : Nat) : ∃ a, (gstep acc w).getLast? = some (a, w) := by
  unfold gstep
  split
  · rename_i a b h
    split
    · exact ⟨a, by simp⟩
    · exact ⟨w, by simp⟩
  · exact ⟨w, by simp⟩

theorem runs_len (ws : List Nat) : ∀ k, k ≤ ws.length → (runs ws k).length ≤ k
  | 0, _ => by simp [runs]
  | k + 1, h => by
    rw [runs_succ ws k (by omega)]
    have := (gstep_len (runs ws k) (ws.getD k 0)).1
    have := runs_len ws k (by omega)
    omega

/-- The last run ends where the last way is. -/
theorem runs_last (ws : List Nat) (k : Nat) (hk : 0 < k) (h : k ≤ ws.length) : ∃ a, (runs ws k).getLast? = some (a, ws.getD (k - 1) 0) := by
  obtain ⟨m, rfl⟩ : ∃ m, k = m + 1 := ⟨k - 1, by omega⟩
  rw [runs_succ ws m (by omega)]
  exact gstep_last _ _

theorem gstep_join {acc : List (Nat × Nat)} {a b w : Nat} (h : acc.getLast? = some (a, b)) (hw : b + 1 = w) : gstep acc w = acc.dropLast ++ [(a, w)] := by
  unfold gstep; rw [h]; simp [hw]
theorem gstep_new {acc : List (Nat × Nat)} {a b w : Nat} (h : acc.getLast? = some (a, b)) (hw : b + 1 ≠ w) : gstep acc w = acc ++ [(w, w)] := by
  unfold gstep; rw [h]; simp [hw]
theorem gstep_first (w : Nat) : gstep [] w = [(w, w)] := rfl

/-! ### A row of gaps, written -/
theorem gaps_take : ∀ (l : List (Nat × Nat)) (k : Nat), gaps (l.take k) = (gaps l).take (k * 2)
  | _, 0 => by simp [gaps]
  | [], k + 1 => by simp [gaps]
  | x :: r, k + 1 => by
    have e : ∀ q, gaps (x :: q) = .int .u16 (x.1 : Int) :: .int .u16 (x.2 : Int) :: gaps q := fun q => by simp [gaps, gapv]
    rw [List.take_succ_cons, e, e, gaps_take r k, show (k + 1) * 2 = k * 2 + 1 + 1 from by omega]
    rfl

theorem gaps_append (l k : List (Nat × Nat)) : gaps (l ++ k) = gaps l ++ gaps k := by simp [gaps]

theorem gaps_join {acc : List (Nat × Nat)} {a b w : Nat} (h : acc.getLast? = some (a, b)) : (gaps acc).set ((acc.length - 1) * 2 + 1) (.int .u16 (w : Int)) = gaps (acc.dropLast ++ [(a, w)]) := by
  have hne : acc ≠ [] := by intro e; subst e; simp at h
  have hacc : acc = acc.dropLast ++ [(a, b)] := by
    rw [List.getLast?_eq_some_getLast hne, Option.some.injEq] at h
    rw [← h]; exact (List.dropLast_concat_getLast hne).symm
  have hl : acc.length - 1 = acc.dropLast.length := by simp
  rw [hl]
  generalize acc.dropLast = r at *
  rw [hacc, gaps_append, gaps_append]
  have e : (gaps r).length = r.length * 2 := gaps_len r
  rw [List.set_append_right _ _ (by omega)]
  congr 1
  rw [show r.length * 2 + 1 - (gaps r).length = 1 from by omega]
  rfl

theorem ownsRow_set {w : World} {base : Nat} {e : TypeId} {size : Nat} {g n cap : Nat} {xs : List Value} (h : w.ownsRow base e size (.slice (some ⟨g, 0, none⟩) n cap) n xs) (i : Nat) (u : Value) :
    (w.setCell ⟨g, i, none⟩ u).ownsRow base e size (.slice (some ⟨g, 0, none⟩) n cap) n (xs.set i u) := by
  obtain ⟨h1, h2⟩ := h
  refine ⟨by simpa using h1, ?_⟩
  rcases h2 with ⟨h2, _⟩ | ⟨g', cap', cur, hv, r1, r2, r3, r4, r5, r6⟩
  · cases h2
  · cases hv
    refine Or.inr ⟨g, cap, cur.setIfInBounds i u, rfl, r1, setCell_block r2 i u, r3, r4, by simpa using r5, ?_⟩
    rw [← r6]
    simp [List.take_set]

theorem cell_two (w : World) (x y : Value) (t : TypeId) (j : Nat) (u : Value) (h : [x, y][j]? = some u) : (w.alloc (.cells #[x, y] t)).cell? ((⟨w.heap.size, 0, none⟩ : Addr).add j) = some u := by
  have hadd : (⟨w.heap.size, 0, none⟩ : Addr).add j = ⟨w.heap.size, j, none⟩ := by unfold Addr.add; split <;> simp_all
  rw [hadd]
  exact cell_of_block (heap_alloc_new w _) j (by simpa using h)

theorem addr_add0 (b i : Nat) : (⟨b, 0, none⟩ : Addr).add i = ⟨b, i, none⟩ := by
  unfold Addr.add; split
  · rename_i h; subst h; rfl
  · simp

theorem row_drawn {w : World} {base : Nat} {e : TypeId} {size : Nat} {v : Value} {n : Nat} {xs : List Value} (h : w.ownsRow base e size v n xs) (k : Nat) : (w.drewN k).ownsRow base e size v n xs := h
theorem below_drawn {B : Nat} {w w' : World} (h : Below B w w') (k : Nat) : Below B w (w'.drewN k) := ⟨h.os, h.tape, h.output, h.size, h.block⟩

theorem size49 (W : World) : (Go.sizeOf 49).run Try.prog W = .ok 2 W := by kernel_rfl
theorem run_take64 (W : World) (a : Option Addr) (n cap : Nat) (hc : 64 ≤ cap) : (Instr.slice 40 (.slice a n cap) none (some (.int .i64 64)) none).run Try.prog W = .ok (.slice a 64 cap) W := by
  rw [run_slice_h (P := Try.prog) W 40 a n cap (by kernel_rfl) .i64 64 (by omega) (by omega)]
  rw [show Try.prog.elem 40 = 49 from by kernel_rfl, size49]
  cases a <;> simp [Result.andThen, sliced, Addr.add]

theorem info49 : (Try.prog.info? 49).map (fun i => (i.zero, i.size, i.bytes)) = some (some (.agg #[.int .u16 0, .int .u16 0]), 2, 4) := by kernel_rfl

set_option maxRecDepth 100000 in
set_option maxHeartbeats 1600000 in
theorem refGaps_any (g : Nat) (u v : Value) (s : GS) (w : World) (h : IsRef w g u v s) :
    Calls Try.prog 17 #[.pointer (some ⟨g, 0, none⟩)] w fun e w' => ∃ z, e = .returned z ∧ w'.ownsRow w.heap.size 49 2 z (gapsG s.ways).length (gaps (gapsG s.ways)) ∧ Below w.heap.size w w' := by
  obtain ⟨a, cap, rfl, hcell⟩ := row_reads h.ways
  obtain ⟨c0, c1, c2⟩ := h.cells
  have hwl := h.wf.wlen
  have hgl := lt_of_heap h.blk
  have hlt : ∀ b, a = some ⟨b, 0, none⟩ → b < w.heap.size := fun b e => (h.ways.lt b (by rw [e]; rfl)).2
  have HC := Lib.hid hcell
  have HL := Lib.hid hlt
  clear hcell hlt
  go_enter Try.func17, Try.ntmps17
  go_wp2
  go_loopw [3, 4] (fun z i wr => ∃ k : Nat, k ≤ s.ways.length ∧ i = .int .i64 k ∧ wr.ownsRow w.heap.size 49 2 z (runs s.ways k).length (gaps (runs s.ways k)) ∧ Below w.heap.size w wr) (fun _ i _ => s.ways.length - (intOf i).toNat)
  case atStart => exact ⟨0, Nat.zero_le _, rfl, World.ownsRow_nil _ _ _ _, Below.refl _ _⟩
  case round =>
    obtain ⟨k, hk, rfl, hown, hbe⟩ := hrel
    have d1 : wr.cell? ⟨g, 1, none⟩ = some (.slice a s.ways.length cap) := by rw [hbe.cell (by exact hgl)]; exact c1
    obtain ⟨a3, c3, rfl⟩ := row_shape hown
    by_cases hkl : k < s.ways.length
    · obtain ⟨b, rfl, hkc⟩ := HC.out k _ (i64s_get _ _ hkl)
      obtain ⟨x, hx⟩ : ∃ x, x = s.ways.getD k 0 := ⟨_, rfl⟩
      have hxm : x ∈ s.ways := by rw [hx, List.getD_eq_getElem?_getD, List.getElem?_eq_getElem hkl]; exact List.getElem_mem hkl
      have hx1 := h.wf.lo x hxm
      have hx2 := h.wf.hi x hxm
      have dk : wr.cell? ⟨b, k, none⟩ = some (.int .i64 x) := by rw [hbe.cell (by exact HL.out b rfl), hx]; exact hkc
      have HX := Lib.hid hx
      clear hx hkc hxm
      by_cases hk0 : 0 < k
      · obtain ⟨b', e', hkc'⟩ := HC.out (k - 1) _ (i64s_get _ (k - 1) (by omega))
        cases e'
        obtain ⟨y, hy⟩ : ∃ y, y = s.ways.getD (k - 1) 0 := ⟨_, rfl⟩
        have hym : y ∈ s.ways := by rw [hy, List.getD_eq_getElem?_getD, List.getElem?_eq_getElem (by omega : k - 1 < s.ways.length)]; exact List.getElem_mem _
        have hy1 := h.wf.lo y hym
        have hy2 := h.wf.hi y hym
        have dk' : wr.cell? ⟨b, k - 1, none⟩ = some (.int .i64 y) := by rw [hbe.cell (by exact HL.out b rfl), hy]; exact hkc'
        have HY := Lib.hid hy
        clear hy hkc' hym
        have hk1 : (0 : Int) ≤ (k : Int) - 1 := by omega
        have hk2 : (k : Int) - 1 < (s.ways.length : Int) := by omega
        have hk3 : (0 : Int) ≤ (k : Int) := by omega
        have hk4 : (k : Int) < (s.ways.length : Int) := by omega
        have hk5 : (0 : Int) < (k : Int) := by omega
        obtain ⟨ra, hra⟩ := runs_last s.ways k hk0 hk
        rw [← HY.out] at hra
        by_cases hj : y + 1 = x
        · obtain ⟨m, hm⟩ : ∃ m, m = (runs s.ways k).length := ⟨_, rfl⟩
          have hm0 : 0 < m := by
            rw [hm]; cases e : runs s.ways k
            · rw [e] at hra; cases hra
            · simp
          have hml := runs_len s.ways k hk
          rw [← hm] at hml hown ⊢
          obtain ⟨b3, rfl⟩ : ∃ b3, a3 = some ⟨b3, 0, none⟩ := by
            rcases hown.2 with ⟨e, e'⟩ | ⟨g', cap', cur, e, _⟩
            · omega
            · cases e; exact ⟨_, rfl⟩
          have hrun := gstep_join hra hj
          have hrs := runs_succ s.ways k hkl
          rw [← HX.out, hrun] at hrs
          have hset := ownsRow_set hown ((m - 1) * 2 + 1) (.int .u16 (x : Int))
          have hcl : ∃ old, wr.cell? ⟨b3, (m - 1) * 2 + 1, none⟩ = some old := by
            have h1 := hown.cells (g := b3) rfl ((m - 1) * 2 + 1)
            rw [show (⟨b3, 0, none⟩ : Addr).add ((m - 1) * 2 + 1) = ⟨b3, (m - 1) * 2 + 1, none⟩ from addr_add0 _ _] at h1
            exact ⟨_, h1 _ (List.getElem?_eq_getElem (by rw [gaps_len, ← hm]; omega))⟩
          obtain ⟨old, hold⟩ := hcl
          have hfz : wr.frozen? ⟨b3, (m - 1) * 2 + 1, none⟩ = false := by
            rcases hown.2 with ⟨e, e'⟩ | ⟨g', cap', cur, e, _, hb3, _⟩
            · omega
            · cases e; exact free_of_block hb3 _
          rw [hm, gaps_join hra, ← hm] at hset
          have HS := Lib.hid hset
          have HRS := Lib.hid hrs
          have HRA := Lib.hid hra
          have HM := Lib.hid hm
          have HO := Lib.hid hown
          have hmi1 : (0 : Int) ≤ (m : Int) - 1 := by omega
          have hmi2 : (m : Int) - 1 < (m : Int) := by omega
          clear hset hrs hrun hra hm hown
          go_wp2
          go_quiet (fail)
          go_wp2
          go_roundw
          case rel =>
            have hb3 := (HO.out.lt b3 rfl).1
            refine ⟨k + 1, by omega, by go_num, ?_, below_drawn (hbe.setCell (p := ⟨b3, (m - 1) * 2 + 1, none⟩) hb3 _) _⟩
            have hl : (runs s.ways (k + 1)).length = m := by
              rw [HRS.out, List.length_append, List.length_dropLast, ← HM.out]; simp; omega
            rw [hl, HRS.out]
            exact HS.out
          case measure => simp [intOf]; omega
        · have hrun := gstep_new hra hj
          have hrs := runs_succ s.ways k hkl
          rw [← HX.out, hrun] at hrs
          have hml := runs_len s.ways k hk
          have HRS := Lib.hid hrs
          clear hrs hrun hra
          obtain ⟨i0, hi0, hq0, hq1, hq2⟩ := info_parts info49
          go_wp2
          go_quiet (fail)
          go_wp2_with (at_builtin; refine wp_app _ rfl _ _ 40 rfl w.heap.size 49 i0 (.agg #[.int .u16 0, .int .u16 0]) 2 4 Try.underlying40 hi0 hq0 hq1 hq2 rfl (by decide) (.slice a3 (runs s.ways k).length c3) _ _ rfl (row_drawn (hown.alloc _) _) ⟨wr.heap.size, 0, none⟩ 1 1 [.int .u16 x, .int .u16 x] rfl rfl (fun j u hu => cell_two wr _ _ _ j u hu) (by simp [Value.oneCell']) (by unfold maxLen; omega) (by omega) (by have := hbe.size; simp; omega) ?_; intro a8 c8 w8 hown8 hgrow8 hloc8)
          go_roundw
          case rel =>
            refine ⟨k + 1, by omega, by go_num, ?_, ?_⟩
            · rw [HRS.out, List.length_append, gaps_append]
              exact hown8
            · exact (below_drawn (hbe.alloc hbe.size _) _).grown hgrow8 (by have := hbe.size; simp; omega) (fun j hj => (hown.lt j hj).1)
          case measure => simp [intOf]; omega
      · obtain rfl : k = 0 := by omega
        have hrs := runs_succ s.ways 0 hkl
        rw [← HX.out, show runs s.ways 0 = [] from by simp [runs], gstep_first] at hrs
        rw [show runs s.ways 0 = [] from by simp [runs]] at hown ⊢
        have HRS := Lib.hid hrs
        clear hrs
        obtain ⟨i0, hi0, hq0, hq1, hq2⟩ := info_parts info49
        go_wp2
        go_quiet (fail)
        go_wp2_with (at_builtin; refine wp_app _ rfl _ _ 40 rfl w.heap.size 49 i0 (.agg #[.int .u16 0, .int .u16 0]) 2 4 Try.underlying40 hi0 hq0 hq1 hq2 rfl (by decide) (.slice a3 0 c3) 0 (gaps []) rfl (row_drawn (hown.alloc _) _) ⟨wr.heap.size, 0, none⟩ 1 1 [.int .u16 x, .int .u16 x] rfl rfl (fun j u hu => cell_two wr _ _ _ j u hu) (by simp [Value.oneCell']) (by unfold maxLen; omega) (by omega) (by have := hbe.size; simp; omega) ?_; intro a8 c8 w8 hown8 hgrow8 hloc8)
        go_roundw
        case rel =>
          refine ⟨1, by omega, rfl, ?_, ?_⟩
          · rw [HRS.out]
            exact hown8
          · exact (below_drawn (hbe.alloc hbe.size _) _).grown hgrow8 (by have := hbe.size; simp; omega) (fun j hj => (hown.lt j hj).1)
        case measure => simp [intOf]; omega
    · obtain rfl : k = s.ways.length := by omega
      have hml := runs_len s.ways _ (Nat.le_refl _)
      have hfin : runs s.ways s.ways.length = gapsFrom [] s.ways := by unfold runs; rw [List.take_length, gapsFrom_fold]
      obtain ⟨m, hm⟩ : ∃ m, m = (runs s.ways s.ways.length).length := ⟨_, rfl⟩
      rw [← hm] at hown hml ⊢
      have HM := Lib.hid hm
      have HF := Lib.hid hfin
      have HO := Lib.hid hown
      clear hm hfin
      by_cases h64 : 64 < m
      · obtain ⟨b3, rfl⟩ : ∃ b3, a3 = some ⟨b3, 0, none⟩ := by
          rcases hown.2 with ⟨e, e'⟩ | ⟨g', cap', cur, e, _⟩
          · omega
          · cases e; exact ⟨_, rfl⟩
        have hc3 : m ≤ c3 := by
          rcases hown.2 with ⟨e, e'⟩ | ⟨g', cap', cur, e, _, _, r3, _⟩
          · omega
          · cases e; exact r3
        have hsl := fun W => run_take64 W (some ⟨b3, 0, none⟩) m c3 (by omega)
        clear hown
        go_wp2
        go_ret
        refine ⟨_, rfl, ?_, hbe⟩
        have hg64 : gapsG s.ways = (runs s.ways s.ways.length).take 64 := by rw [HF.out]; rfl
        have hlen : (gapsG s.ways).length = 64 := by rw [hg64, List.length_take, ← HM.out]; omega
        rw [hlen, hg64]
        obtain ⟨q1, q2⟩ := HO.out
        refine ⟨by rw [gaps_len, List.length_take, ← HM.out]; omega, Or.inr ?_⟩
        rcases q2 with ⟨e, _⟩ | ⟨g', cap', cur, e, r1, r2, r3, r4, r5, r6⟩
        · cases e
        · cases e
          refine ⟨b3, c3, cur, rfl, r1, r2, by omega, r4, r5, ?_⟩
          rw [gaps_take, ← r6, List.take_take]
          congr 1; omega
      · clear hown
        go_wp2
        go_ret
        refine ⟨_, rfl, ?_, hbe⟩
        have hg64 : gapsG s.ways = runs s.ways s.ways.length := by
          show (gapsFrom [] s.ways).take 64 = _
          rw [← HF.out, List.take_of_length_le (by rw [← HM.out]; omega)]
        rw [hg64, ← HM.out]
        exact HO.out

end Go.Proofs.Ythnmkcofbjgpaaa
