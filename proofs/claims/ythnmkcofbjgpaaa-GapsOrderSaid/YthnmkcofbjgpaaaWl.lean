/- The program's Gaps, walked: the loop over the map. -/
import Derived.Test.YthnmkcofbjgpaaaWk
import Derived.ChangeBookTie2
namespace Go.Proofs.Ythnmkcofbjgpaaa
open Go.RowKit Go.Maps Go.Sort

theorem info46 : (Try.prog.info? 46).map (fun i => (i.zero, i.size, i.bytes)) = some (some (.int .u16 0), 1, 2) := by kernel_rfl

theorem keyU_inv {key : Value} {kl : Lit} (h : keyOf Try.prog 22 key = some kl) : ∃ n : Nat, key = Value.int .u32 (n : Int) ∧ kl = .int .u32 (n : Int) ∧ n < M32 := by
  obtain ⟨x, rfl, rfl, hw⟩ := Maps.keyOf_int_inv Try.underlying22 h
  have h1 : 0 ≤ x ∧ x < 4294967296 := by
    simp [Lit.wf, IntKind.min, IntKind.max, IntKind.bits, IntKind.signed] at hw
    omega
  exact ⟨x.toNat, by rw [Int.toNat_of_nonneg (by omega)], by rw [Int.toNat_of_nonneg (by omega)], by unfold M32; omega⟩

theorem Coll.short {left : Lit → Bool} {s : GS} {xs : List Nat} (h : Coll left s.cum s.ways xs) (hw : WF s) : xs.length ≤ 65536 :=
  nodup_lt_length _ _ h.nodup fun x hx => by have := hw.hi x (h.sub x hx); omega

theorem sort16 (base n c : Nat) (a : Option Addr) (xs : List Nat) (w : World) (hn : xs.length = n) (hb : base ≤ w.heap.size) (hrow : w.ownsRow base 46 1 (.slice a n c) n (u16s xs)) (hlen : n ≤ 65536) :
    Calls Try.prog 26 #[.slice a n c] w fun e w' => e = .returned (.tuple #[]) ∧ w'.ownsRow base 46 1 (.slice a n c) n (((i16s xs).mergeSort fun x y => decide (x ≤ y)).map (Value.int .u16)) ∧ w.grownBy w' (Value.slice a n c).ownBlock := by
  subst hn
  by_cases h0 : xs = []
  · subst h0
    refine (srt_Sort_int_nil a c w).mono ?_
    rintro e w' ⟨rfl, rfl⟩
    exact ⟨rfl, by simpa [u16s, i16s] using hrow, ⟨rfl, rfl, rfl, Nat.le_refl _, fun _ _ _ => rfl⟩⟩
  · have hl : xs.length ≠ 0 := fun e => h0 (List.eq_nil_of_length_eq_zero e)
    rcases hrow.2 with ⟨e, e'⟩ | ⟨g, cap, cur, e, hbase, hblk, r3, r4, r5, r6⟩
    · exact absurd e' hl
    · cases e
      have hi : (i16s xs).length = xs.length := by simp [i16s]
      have := srt_slices_Sort_int g 0 c (i16s xs) w (holds_u16 hblk (by rw [hi]; simpa [u16s] using r6)) (lt_of_heap hblk) (by rw [hi]; omega)
      rw [hi] at this
      refine this.mono ?_
      rintro e w' ⟨rfl, n, os, rfl⟩
      exact ⟨rfl, row_u16 (by simp [i16s]) hbase hblk r3 r4 r5, grown_u16 _⟩

theorem gaps_last {acc : List (Nat × Nat)} {a b : Nat} (h : acc.getLast? = some (a, b)) : (gaps acc)[(acc.length - 1) * 2 + 1]? = some (.int .u16 (b : Int)) := by
  have hne : acc ≠ [] := by intro e; subst e; simp at h
  have hacc : acc = acc.dropLast ++ [(a, b)] := by
    rw [List.getLast?_eq_some_getLast hne, Option.some.injEq] at h
    rw [← h]; exact (List.dropLast_concat_getLast hne).symm
  have hl : acc.length - 1 = acc.dropLast.length := by simp
  rw [hl]
  generalize acc.dropLast = r at *
  rw [hacc, gaps_append]
  have e : (gaps r).length = r.length * 2 := gaps_len r
  rw [List.getElem?_append_right (by omega), show r.length * 2 + 1 - (gaps r).length = 1 from by omega]
  rfl

set_option maxRecDepth 100000 in
set_option maxHeartbeats 1600000 in
theorem gaps_any (g bm : Nat) (v : Value) (s : GS) (w : World) (h : IsSet w g bm v s) :
    Calls Try.prog 16 #[.pointer (some ⟨g, 0, none⟩)] w fun e w' => ∃ z, e = .returned z ∧ w'.ownsRow w.heap.size 49 2 z (gapsG s.ways).length (gaps (gapsG s.ways)) ∧ Below w.heap.size w w' := by
  obtain ⟨c0, c1, c2⟩ := h.cells
  have hwl := h.wf.wlen
  have hgl := lt_of_heap h.blk
  have hcum : s.cum < 4294967296 := h.wf.cum
  obtain ⟨D, hown, hkeys⟩ := isMap_iff.1 h.map
  have hbl := hown.lt
  have HK := Lib.hid hkeys
  clear hkeys
  obtain ⟨i0, hi, hz0, hz1, hz2⟩ := info_parts info46
  go_enter Try.func16, Try.ntmps16
  go_wp2_with (first
    | (at_range; refine wpList_range_own _ rfl _ 52 rfl 22 56 law22 Try.underlying52 _ bm s.ways.length D rfl hown ?_; intro w0 hrg0 hg0 hs0)
    | fail)
  go_frame
  go_loopw [3] (fun z wr => ∃ (left : Lit → Bool) (cnt : Nat) (xs : List Nat), wr.ranges Try.prog 22 unitElem bm w.heap.size s.ways.length D left cnt ∧ wr.ownsRow (w.heap.size + 1) 46 1 z xs.length (u16s xs) ∧ Coll left s.cum s.ways xs ∧ Below w.heap.size w wr ∧ w.heap.size + 1 ≤ wr.heap.size)
    (fun _ wr => wr.rangeLeft bm w.heap.size)
  case atStart => exact ⟨_, _, [], hrg0, World.ownsRow_nil _ _ _ _, Coll.start HK.out, (Below.refl _ _).grown hg0 (Nat.le_refl _) (fun j hj => by cases hj), by omega⟩
  case round =>
    obtain ⟨left, cnt, xs, hrg, hrow, hcoll, hbe, hsz⟩ := hrel
    have hlen := hcoll.short h.wf
    have d0 : wr.cell? ⟨g, 0, none⟩ = some (.int .u32 (s.cum : Nat)) := by rw [hbe.cell (by exact hgl)]; exact c0
    obtain ⟨a3, c3, rfl⟩ := row_shape hrow
    go_wp2_with (first
      | (at_next; refine wpList_next_ranges _ rfl _ rfl 22 law22 unitElem (fun n : Nat => Value.int .u32 (n : Int)) (fun _ : Unit => Value.agg #[]) (fun key kl hk => by obtain ⟨n, hn, _⟩ := keyU_inv hk; exact ⟨n, hn⟩) (fun y z hv => ⟨(), (unitElem_inv hv).1⟩) bm w.heap.size s.ways.length _ _ _ rfl hrg ?_ ?_)
      | fail)
    · -- nothing is left
      intro hc0 hl0
      obtain ⟨hnl, hsort⟩ := hcoll.all h.wf hl0
      rw [hnl] at hrow hlen ⊢
      have HN := Lib.hid hnl
      have HSO := Lib.hid hsort
      have HH := Lib.hid h
      have hbsz := hbe.size
      clear hnl hsort hcoll hl0 hrg hrg0 hg0 hs0
      go_wp2_with (go_at_call 26; refine (sort16 (w.heap.size + 1) s.ways.length c3 a3 xs _ HN.out hsz hrow hlen).mono ?_; rintro e ws ⟨rfl, hrowS, hgS⟩)
      rw [HSO.out] at hrowS
      obtain ⟨a4, c4, e4, hcells⟩ := row_reads hrowS
      cases e4
      have hlt : ∀ b, a3 = some ⟨b, 0, none⟩ → b < ws.heap.size := fun b e => (hrowS.lt b (by rw [e]; rfl)).2
      have hgSz := hgS.size
      have hbeS : Below w.heap.size w ws := hbe.grown hgS hbe.size (fun j hj => by have := (hrow.lt j hj).1; omega)
      have HC := Lib.hid hcells
      have HL := Lib.hid hlt
      clear hcells hlt
      go_loopw [5, 34] (fun z i wr => ∃ k : Nat, k ≤ s.ways.length ∧ i = .int .i64 k ∧ wr.ownsRow ws.heap.size 49 2 z (runs s.ways k).length (gaps (runs s.ways k)) ∧ Below ws.heap.size ws wr ∧ (runs s.ways k).length ≤ 64) (fun _ i _ => s.ways.length - (intOf i).toNat)
      case atStart => exact ⟨0, Nat.zero_le _, rfl, World.ownsRow_nil _ _ _ _, Below.refl _ _, by simp [runs]⟩
      case round =>
        obtain ⟨k, hk, rfl, hout, hbq, h64⟩ := hrel
        obtain ⟨a5, c5, rfl⟩ := row_shape hout
        have hwm : w.heap.size ≤ ws.heap.size := by omega
        by_cases hkl : k < s.ways.length
        · obtain ⟨b, rfl, hkc⟩ := HC.out k _ (u16s_get _ _ hkl)
          obtain ⟨x, hx⟩ : ∃ x, x = s.ways.getD k 0 := ⟨_, rfl⟩
          have hxm : x ∈ s.ways := by rw [hx, List.getD_eq_getElem?_getD, List.getElem?_eq_getElem hkl]; exact List.getElem_mem hkl
          have hx2 := h.wf.hi x hxm
          have dk : wr.cell? ⟨b, k, none⟩ = some (.int .u16 x) := by rw [hbq.cell (by exact HL.out b rfl), hx]; exact hkc
          have HX := Lib.hid hx
          have hrs := runs_succ s.ways k hkl
          rw [← hx] at hrs
          have HRS := Lib.hid hrs
          clear hx hkc hxm hrs
          have hml := runs_len s.ways k hk
          have hk3 : (0 : Int) ≤ (k : Int) := by omega
          have hk4 : (k : Int) < (s.ways.length : Int) := by omega
          obtain ⟨m, hm⟩ : ∃ m, m = (runs s.ways k).length := ⟨_, rfl⟩
          rw [← hm] at hml hout h64 ⊢
          by_cases hm0 : 0 < m
          · have hk0 : 0 < k := by omega
            obtain ⟨y, hy⟩ : ∃ y, y = s.ways.getD (k - 1) 0 := ⟨_, rfl⟩
            obtain ⟨ra, hra⟩ := runs_last s.ways k hk0 hk
            rw [← hy] at hra
            have hyx : y < x := by
              rw [hy, HX.out, List.getD_eq_getElem?_getD, List.getD_eq_getElem?_getD, List.getElem?_eq_getElem hkl, List.getElem?_eq_getElem (by omega : k - 1 < s.ways.length)]
              exact List.pairwise_iff_getElem.1 h.wf.sorted _ _ _ _ (by omega)
            obtain ⟨b3, rfl⟩ : ∃ b3, a5 = some ⟨b3, 0, none⟩ := by
              rcases hout.2 with ⟨e, e'⟩ | ⟨g', cap', cur, e, _⟩
              · omega
              · cases e; exact ⟨_, rfl⟩
            have hold : wr.cell? ⟨b3, (m - 1) * 2 + 1, none⟩ = some (.int .u16 (y : Int)) := by
              have h1 := hout.cells (g := b3) rfl ((m - 1) * 2 + 1)
              rw [show (⟨b3, 0, none⟩ : Addr).add ((m - 1) * 2 + 1) = ⟨b3, (m - 1) * 2 + 1, none⟩ from addr_add0 _ _] at h1
              exact h1 _ (by rw [hm]; exact gaps_last hra)
            have hfz : wr.frozen? ⟨b3, (m - 1) * 2 + 1, none⟩ = false := by
              rcases hout.2 with ⟨e, e'⟩ | ⟨g', cap', cur, e, _, hb3, _⟩
              · omega
              · cases e; exact free_of_block hb3 _
            have hmi1 : (0 : Int) ≤ (m : Int) - 1 := by omega
            have hmi2 : (m : Int) - 1 < (m : Int) := by omega
            have hmi3 : (0 : Int) < (m : Int) := by omega
            have HRA := Lib.hid hra
            have HM := Lib.hid hm
            clear hy hra hm
            by_cases hj : y + 1 = x
            · have hset := ownsRow_set hout ((m - 1) * 2 + 1) (.int .u16 (x : Int))
              rw [HM.out, gaps_join HRA.out, ← HM.out] at hset
              have hr2 := HRS.out
              rw [gstep_join HRA.out hj] at hr2
              have HR2 := Lib.hid hr2
              have HS := Lib.hid hset
              have HO := Lib.hid hout
              clear hset hout hr2
              go_wp2
              go_roundw
              case rel =>
                have hb3 := (HO.out.lt b3 rfl).1
                have hl : (runs s.ways (k + 1)).length = m := by
                  rw [HR2.out, List.length_append, List.length_dropLast, ← HM.out]; simp; omega
                refine ⟨k + 1, by omega, by go_num, ?_, hbq.setCell (p := ⟨b3, (m - 1) * 2 + 1, none⟩) hb3 _, by rw [hl]; omega⟩
                rw [hl, HR2.out]
                exact HS.out
              case measure => simp [intOf]; omega
            · have hr2 := HRS.out
              rw [gstep_new HRA.out hj] at hr2
              have HR2 := Lib.hid hr2
              clear hr2
              have hne : ((y : Int) + 1 == (x : Int)) = false := by simp; omega
              by_cases hm64 : m = 64
              · have hst := runs_stop s.ways k hkl (by rw [← HM.out]; exact hm64) (by rw [← HX.out]; exact gstep_new HRA.out hj)
                have HST := Lib.hid hst
                have HO := Lib.hid hout
                clear hst hout
                subst hm64
                go_wp2
                go_ret
                refine ⟨_, rfl, ?_, hbeS.trans (hbq.mono hwm)⟩
                rw [HST.out, ← HM.out]
                exact ownsRow_base HO.out hwm
              · have hm65 : ((m : Int) == 64) = false := by simp; omega
                obtain ⟨i0, hi0, hq0, hq1, hq2⟩ := info_parts info49
                go_wp2_with (at_builtin; refine wp_app _ rfl _ _ 40 rfl ws.heap.size 49 i0 (.agg #[.int .u16 0, .int .u16 0]) 2 4 Try.underlying40 hi0 hq0 hq1 hq2 rfl (by decide) (.slice (some ⟨b3, 0, none⟩) m c5) _ _ rfl (hout.alloc _) ⟨wr.heap.size, 0, none⟩ 1 1 [.int .u16 x, .int .u16 x] rfl rfl (fun j u hu => cell_two wr _ _ _ j u hu) (by simp [Value.oneCell']) (by unfold maxLen; omega) (by omega) (by have := hbq.size; simp; omega) ?_; intro a8 c8 w8 hown8 hgrow8 hloc8)
                go_roundw
                case rel =>
                  refine ⟨k + 1, by omega, by go_num, ?_, ?_, by rw [HR2.out, List.length_append, ← HM.out]; simp; omega⟩
                  · rw [HR2.out, List.length_append, gaps_append, ← HM.out]
                    exact hown8
                  · exact (hbq.alloc hbq.size _).grown hgrow8 (by have := hbq.size; simp; omega) (fun j hj => (hout.lt j hj).1)
                case measure => simp [intOf]; omega
          · obtain rfl : m = 0 := by omega
            have hnil : runs s.ways k = [] := List.eq_nil_of_length_eq_zero hm.symm
            have hr2 := HRS.out
            rw [hnil, gstep_first] at hr2
            rw [hnil] at hout
            have HR2 := Lib.hid hr2
            clear hr2 hnil hm
            obtain ⟨i0, hi0, hq0, hq1, hq2⟩ := info_parts info49
            go_wp2_with (at_builtin; refine wp_app _ rfl _ _ 40 rfl ws.heap.size 49 i0 (.agg #[.int .u16 0, .int .u16 0]) 2 4 Try.underlying40 hi0 hq0 hq1 hq2 rfl (by decide) (.slice a5 0 c5) 0 (gaps []) rfl (hout.alloc _) ⟨wr.heap.size, 0, none⟩ 1 1 [.int .u16 x, .int .u16 x] rfl rfl (fun j u hu => cell_two wr _ _ _ j u hu) (by simp [Value.oneCell']) (by unfold maxLen; omega) (by omega) (by have := hbq.size; simp; omega) ?_; intro a8 c8 w8 hown8 hgrow8 hloc8)
            go_roundw
            case rel =>
              refine ⟨k + 1, by omega, by go_num, ?_, ?_, by rw [HR2.out]; simp⟩
              · rw [HR2.out]
                exact hown8
              · exact (hbq.alloc hbq.size _).grown hgrow8 (by have := hbq.size; simp; omega) (fun j hj => (hout.lt j hj).1)
            case measure => simp [intOf]; omega
        · obtain rfl : k = s.ways.length := by omega
          have hst := runs_le h64
          have HST := Lib.hid hst
          have HO := Lib.hid hout
          clear hst hout
          go_wp2
          go_ret
          refine ⟨_, rfl, ?_, hbeS.trans (hbq.mono hwm)⟩
          rw [HST.out]
          exact ownsRow_base HO.out hwm
    · intro t _ kl yd w2 cnt2 hkey hlk hv hat hrg2 hlt hg2 hs2 hen
      obtain ⟨t', ex, rfl, ht⟩ := keyU_inv hkey
      obtain rfl : t = t' := by injection ex with _ ex; omega
      obtain ⟨x, hx⟩ : ∃ x, x = wayN s.cum t := ⟨_, rfl⟩
      obtain ⟨hxm, hxn⟩ := (hcoll.rest t ht).1 hlk
      rw [← hx] at hxm hxn
      have hx1 := h.wf.hi x hxm
      have hstep := hcoll.step hcum ht hlk
      rw [← hx] at hstep
      have HS := Lib.hid hstep
      have HC := Lib.hid hcoll
      clear hstep hcoll hxm hxn
      have hrow2 := hrow.kept hg2 (Or.inr (row_ne_iter hrow hrg).symm)
      clear hs2
      have e0 : w2.cell? ⟨g, 0, none⟩ = some (.int .u32 (s.cum : Nat)) := by exact hg2.cell d0 (by simp; omega)
      have HW := Lib.hid hx
      clear hx
      go_wp2_with (first
        | (go_at_call 22; refine (span_any _ _ _ hcum ht).mono ?_; rintro e w' ⟨rfl, rfl⟩; rw [← HW.out])
        | (at_builtin; refine wp_app _ rfl _ _ 45 rfl (w.heap.size + 1) 46 i0 (.int .u16 0) 1 2 Try.underlying45 hi hz0 hz1 hz2 rfl (by decide) (.slice a3 xs.length c3) _ _ rfl (hrow2.alloc _) ⟨w2.heap.size, 0, none⟩ 1 1 [.int .u16 x] rfl rfl (cell_one_new _ _ _) (by simp [Value.oneCell']) (by unfold maxLen; omega) (by omega) (by have := hg2.size; simp; omega) ?_; intro a8 c8 w8 hown8 hgrow8 hloc8))
      have hrg3 := (hrg2.alloc (.cells #[.int .u16 (x : Int)] 46)).kept hgrow8 (row_ne_low hrow2 (by omega)) (row_ne_iter hrow2 hrg2)
      go_roundw
      case rel =>
        refine ⟨_, cnt2, xs ++ [x], hrg3, by rw [List.length_append, ← u16s_snoc]; exact hown8, HS.out, ?_, ?_⟩
        · exact ((hbe.grown hg2 hbe.size (fun j hj => by cases hj; exact Nat.le_refl _)).alloc (by have := hbe.size; have := hg2.size; omega) _).grown hgrow8 (by have := hbe.size; have := hg2.size; simp; omega) (fun j hj => by have := (hrow2.lt j hj).1; omega)
        · have := hgrow8.size; have := hg2.size; simp at *; omega
      case measure => rw [hrg3.left_eq, hrg.left_eq]; exact hlt

end Go.Proofs.Ythnmkcofbjgpaaa
