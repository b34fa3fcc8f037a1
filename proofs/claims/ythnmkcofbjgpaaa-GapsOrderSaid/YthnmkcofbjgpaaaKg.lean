/- GapsPlays, walked. -/
import Derived.Test.YthnmkcofbjgpaaaKf
import Derived.Test.YthnmkcofbjgpaaaKd
import Derived.Deep.RegionHeld3
import Derived.Deep.LoopGhost
import Derived.Deep.CutBlock
import Derived.Deep.DeepCutAuto
namespace Go.Proofs.Ythnmkcofbjgpaaa
open Go.RowKit Go.Maps

/-- A slice of doings that came in. -/
def CameDo (w : World) (pa : Option Addr) (xs : List (Int × Nat)) : Prop :=
  ∀ i, i < xs.length → ∃ a, pa = some a ∧ a.block < w.heap.size ∧ w.cell? (a.add (i * 2)) = some (.int .i64 (xs.getD i (0, 0)).1) ∧ w.cell? (a.add (i * 2 + 1)) = some (.int .u32 (((xs.getD i (0, 0)).2 : Nat) : Int)) ∧ (xs.getD i (0, 0)).2 < M32

theorem SR.xcell {b e : Nat} {v0 v1 : Value} {B : Nat} {w0 w : World} {g bm gr : Nat} {s r : GS} (h : SR (some (b, .cells #[v0, v1] e)) B w0 w g bm s gr r) : w.cell? ⟨b, 0, none⟩ = some v0 ∧ w.cell? ⟨b, 1, none⟩ = some v1 := by
  simp [World.cell?, h.held]

theorem SR.loads {X : Option (Nat × Obj)} {B : Nat} {w0 w : World} {g bm gr : Nat} {s r : GS} (h : SR X B w0 w g bm s gr r) : ∃ a cap, w.cell? ⟨gr, 0, none⟩ = some (.int .u32 (r.cum : Nat)) ∧ w.cell? ⟨gr, 1, none⟩ = some (.slice a r.ways.length cap) := by
  obtain ⟨u, x, hr⟩ := h.ref
  obtain ⟨c0, c1, c2⟩ := hr.cells
  obtain ⟨a, cap, rfl⟩ := row_shape hr.ways
  exact ⟨a, cap, c0, c1⟩

theorem wrap_u32 (x : Int) : IntKind.u32.wrap x = x % 4294967296 := by simp [IntKind.wrap, IntKind.signed, IntKind.bits]

theorem cell_below {w w' : World} {a : Addr} {v : Value} (hb : Below w.heap.size w w') (h : w.cell? a = some v) : w'.cell? a = some v := by
  rw [hb.cell (World.block_lt_of_cell? w a h)]; exact h

theorem three_below {w w' : World} {a b c : Addr} {v1 v2 v3 : Value} (hb : Below w.heap.size w w') (h : w.cell? a = some v1 ∧ w.cell? b = some v2 ∧ w.cell? c = some v3) : w'.cell? a = some v1 ∧ w'.cell? b = some v2 ∧ w'.cell? c = some v3 :=
  ⟨cell_below hb h.1, cell_below hb h.2.1, cell_below hb h.2.2⟩

theorem below_drewN (w : World) (n : Nat) : Below w.heap.size w (w.drewN n) := ⟨rfl, rfl, rfl, Nat.le_refl _, fun _ _ => rfl⟩

set_option maxRecDepth 100000 in
set_option maxHeartbeats 1600000 in
theorem gapsPlays_any (c b : Nat) (hc : c < M32) (hb : b < M32) (pa : Option Addr) (cap : Nat) (xs : List (Int × Nat)) (w : World) (hx : CameDo w pa xs) :
    Calls Try.prog 3 #[.int .u32 c, .slice pa xs.length cap, .int .u32 b] w fun e w' => e = .returned (.bool true) ∧ Below w.heap.size w w' := by
  have HX := Lib.hid hx
  clear hx
  have hc1 := hc
  unfold M32 at hc hb
  by_cases hl : (400 : Int) < xs.length
  · go_enter Try.func3, Try.ntmps3
    go_wp2_with (go_at_call 6; refine (known_any _).mono ?_; rintro e w1 ⟨rfl, hb1⟩)
    go_ret
    exact ⟨rfl, hb1⟩
  · go_enter Try.func3, Try.ntmps3
    go_wp2_with (first
      | (go_at_call 6; refine (known_any _).mono ?_; rintro e w1 ⟨rfl, hb1⟩)
      | (go_at_call 7; refine (mine_new w.heap.size w _ hb1.size hb1 _ c rfl hc1).mono ?_; rintro e w2 ⟨g1, bm1, rfl, m1, _, _⟩)
      | fail)
    have t0 := sr_new m1 (c : Int) c rfl hc1
    go_loopg [7, 24] (xs.length + 1) (fun m z i wr => ∃ (k : Nat) (g bm : Nat) (s : GS), m + k = xs.length + 1 ∧ k ≤ xs.length ∧ z = .pointer (some ⟨g, 0, none⟩) ∧ i = .int .i64 k ∧ SR none w.heap.size w wr g bm s w2.heap.size s)
    case atStart => exact ⟨0, g1, bm1, ⟨c, [], []⟩, rfl, Nat.zero_le _, rfl, rfl, t0⟩
    case round =>
      obtain ⟨k, g, bm, s, hmk, hk, rfl, rfl, t1⟩ := hrel
      by_cases hkl : k < xs.length
      · obtain ⟨a, rfl, hal, hc0, hc1, hlt⟩ := HX.out k hkl
        obtain ⟨kind, hkind⟩ : ∃ y, y = (xs.getD k (0, 0)).1 := ⟨_, rfl⟩
        obtain ⟨t, ht⟩ : ∃ y, y = (xs.getD k (0, 0)).2 := ⟨_, rfl⟩
        rw [← hkind] at hc0
        rw [← ht] at hc1 hlt
        have d0 : wr.cell? (a.add (k * 2)) = some (.int .i64 kind) := by
          rw [t1.be.cell (by unfold Addr.add; split <;> exact hal)]; exact hc0
        have d1 : wr.cell? ⟨(a.add (k * 2)).block, (a.add (k * 2)).off + 1, none⟩ = some (.int .u32 (t : Int)) := by
          have e1 : (⟨(a.add (k * 2)).block, (a.add (k * 2)).off + 1, none⟩ : Addr) = a.add (k * 2 + 1) := by rw [← Addr.add_add]; rfl
          rw [e1, t1.be.cell (by unfold Addr.add; split <;> exact hal)]; exact hc1
        have hk3 : (0 : Int) ≤ (k : Int) := by omega
        have hk4 : (k : Int) < (xs.length : Int) := by omega
        clear hkind ht hc0 hc1 hal
        have HK := Lib.hid hmk
        clear hmk t0 m1
        have t2 := t1.lay (.cells #[.int .i64 kind, .int .u32 (t : Int)] 33)
        go_upto_block 2 with fail
        go_cut [7] (fun v W => ∃ (g' bm' : Nat) (s' : GS), v = .pointer (some ⟨g', 0, none⟩) ∧ SR (some (wr.heap.size, .cells #[.int .i64 kind, .int .u32 (t : Int)] 33)) w.heap.size w W g' bm' s' w2.heap.size s')
        case first =>
          by_cases k0 : kind = 0
          · subst k0
            go_upto_region 11 with fail
            have t3 := t2.drew
            have x3 := t3.xcell.2
            go_region_held3 (fun w' => w'.cell? ⟨wr.heap.size, 1, none⟩ = some (.int .u32 (t : Int))) (first | exact x3 | exact x4 | exact x5) (first
              | (go_at_call 8; refine (sr_add t3 (t : Int) t rfl hlt).mono ?_; rintro e w4 ⟨rfl, t4⟩; have x4 := t4.xcell.2; clear x3)
              | (go_at_call 9; refine (sr_radd t4 (t : Int) t rfl hlt).mono ?_; rintro e w5 ⟨rfl, t5⟩; have x5 := t5.xcell.2; clear x4))
            go_wp2
            go_meet
            case rel => exact ⟨g, bm, (addG s t).2, rfl, t5⟩
          · have k0' : (kind == 0) = false := by simpa using k0
            by_cases k1 : kind = 1
            · subst k1
              go_wp2_with (first
                | (go_at_call 11; refine (sr_dups t2).mono ?_; rintro e w4 ⟨z1, rfl, t3, r1, l1⟩)
                | (go_at_call 12; refine (sr_take t3).mono ?_; rintro e w5 ⟨z2, rfl, t4, r2, f2⟩; have r1' := ownsRow_kept r1 (fun k hk => f2.block k (r1.lt k hk).2 (l1 k hk)); clear t3 r1 l1)
                | (go_at_call 10; refine (st_same s.dups _ r1' r2 (by have := t1.wf.dlen; omega)).mono ?_; rintro e w6 ⟨rfl, n6, rfl⟩; have t5 := t4.drewN n6; clear t4)
                | fail)
              go_meet
              case rel => exact ⟨g, bm, _, rfl, t5⟩
            · have k1' : (kind == 1) = false := by simpa using k1
              by_cases k2 : kind = 2
              · subst k2
                have hc := t1.wf.cum
                go_wp2_with (first
                  | (go_at_call 13; refine (dead_copy t2).mono ?_; rintro e w4 ⟨g2, bm2, rfl, t3⟩; clear t2)
                  | (go_at_call 14; refine (dead_cum t3).mono ?_; rintro e w5 ⟨rfl, rfl⟩; have t4 := t3; have c4 := t4.cumlt; clear t3)
                  | (go_at_call 8; refine (dead_add t4 _ ((s.cum + 1) % M32) (by unfold M32; omega) (Nat.mod_lt _ (by decide))).mono ?_; rintro e w6 ⟨n6, d6, rfl, t5⟩; clear t4)
                  | (go_at_call 14; refine (dead_cum t5).mono ?_; rintro e w7 ⟨rfl, rfl⟩; have t6 := t5; have c6 := t6.cumlt; clear t5)
                  | (go_at_call 8; refine (dead_add t6 _ ((d6.cum + 3) % M32) (by unfold M32; omega) (Nat.mod_lt _ (by decide))).mono ?_; rintro e w8 ⟨n8, d8, rfl, t7⟩; clear t6)
                  | (go_at_call 14; refine (dead_cum t7).mono ?_; rintro e w9 ⟨rfl, rfl⟩; have t8 := t7; have c8 := t8.cumlt; clear t7)
                  | (go_at_call 8; refine (dead_add t8 _ d8.cum rfl c8).mono ?_; rintro e w10 ⟨n10, d10, rfl, t9⟩; clear t8)
                  | (go_at_call 11; refine (dead_dups t9).mono ?_; rintro e w11 ⟨z11, rfl, t10⟩; clear t9)
                  | fail)
                go_meet
                case rel => exact ⟨g2, bm2, s, rfl, t10⟩
              · have k2' : (kind == 2) = false := by simpa using k2
                go_wp2
                go_meet
                case rel => exact ⟨g, bm, s, rfl, t2⟩
        case rest =>
          obtain ⟨g', bm', s', rfl, t3⟩ := hcut
          have hwf := t3.wf
          have hsc := hwf.cum
          unfold M32 at hsc
          have hnx : decide (b = (s'.cum + 1) % M32) = ((b : Int) == IntKind.u32.wrap ((s'.cum : Int) + 1)) := by
            rw [wrap_u32, Bool.eq_iff_iff]; unfold M32; simp; omega
          have HN := Lib.hid hnx
          have hgl := gapsG_len s'.ways
          have hwl := hwf.wlen
          have t4 := t3.drew
          obtain ⟨a1, c1, y0, y1⟩ := t4.loads
          have y4 : _ ∧ _ ∧ _ := ⟨y0, y1, t4.xcell.2⟩
          have hb1 : b < M32 := hb
          clear hnx t1 t2 t3 y0 y1 d0 d1 hwf
          go_upto_region 25 with fail
          go_region_held3 (fun w' => w'.cell? ⟨w2.heap.size, 0, none⟩ = some (.int .u32 (s'.cum : Nat)) ∧ w'.cell? ⟨w2.heap.size, 1, none⟩ = some (.slice a1 s'.ways.length c1) ∧ w'.cell? ⟨wr.heap.size, 1, none⟩ = some (.int .u32 (t : Int)))
            (first | exact y4 | exact y5 | exact y6 | exact y7 | exact y8 | exact y9 | exact y10 | exact y11 | exact y12 | exact y13) (first
            | (go_at_call 14; refine (sr_cum t4).mono ?_; rintro e w4 ⟨rfl, rfl⟩)
            | (go_at_call 16; refine (sr_gaps t4).mono ?_; rintro e w5 ⟨z5, rfl, t5, r5, b5⟩; have y5 := three_below b5 y4; clear t4 y4 b5)
            | (go_at_call 17; refine (sr_rgaps t5).mono ?_; rintro e w6 ⟨z6, rfl, t6, r6, b6⟩; have y6 := three_below b6 y5; have r5' := row_below r5 b6; clear t5 y5 b6 r5)
            | (go_at_call 15; refine (sg_same (gapsG s'.ways) _ r5' r6 (by omega)).mono ?_; rintro e w7 ⟨rfl, n7, rfl⟩; have t7 := t6.drewN n7; have y7 := three_below (below_drewN _ n7) y6; clear t6 y6 r5' r6)
            | (go_at_call 18; refine (sr_len t7).mono ?_; rintro e w8 ⟨rfl, rfl⟩)
            | (go_at_call 19; refine (sr_has t7 (t : Int) t rfl hlt).mono ?_; rintro e w9 ⟨rfl, t9, b9⟩; have y9 := three_below b9 y7; clear t7 y7 b9)
            | (go_at_call 20; refine (sr_rhas t9 (t : Int) t rfl hlt).mono ?_; rintro e w10 ⟨rfl, rfl⟩; have t10 := t9; have y10 := y9; clear t9 y9)
            | (go_at_call 19; refine (sr_has t10 (b : Int) b rfl hb1).mono ?_; rintro e w11 ⟨rfl, t11, b11⟩; have y11 := three_below b11 y10; clear t10 y10 b11)
            | (go_at_call 20; refine (sr_rhas t11 (b : Int) b rfl hb1).mono ?_; rintro e w12 ⟨rfl, rfl⟩; have t12 := t11; have y12 := y11; clear t11 y11)
            | (go_at_call 21; refine (sr_next t12 (b : Int) b rfl).mono ?_; rintro e w13 ⟨rfl, rfl⟩; rw [HN.out]))
          go_wp2
          go_roundg (gk - 1)
          case measure => have := HK.out; omega
          case rel => have := HK.out; exact ⟨k + 1, g', bm', s', by omega, by omega, rfl, by go_num, t12.bare⟩
      · obtain rfl : k = xs.length := by omega
        clear t0 m1 hmk
        go_wp2_with (first
          | (go_at_call 11; refine (sr_dups t1).mono ?_; rintro e w4 ⟨z1, rfl, t3, r1, l1⟩)
          | (go_at_call 12; refine (sr_take t3).mono ?_; rintro e w5 ⟨z2, rfl, t4, r2, f2⟩; have r1' := ownsRow_kept r1 (fun k hk => f2.block k (r1.lt k hk).2 (l1 k hk)); clear t3 r1 l1)
          | (go_at_call 10; refine (st_same s.dups _ r1' r2 (by have := t1.wf.dlen; omega)).mono ?_; rintro e w6 ⟨rfl, n6, rfl⟩; have t5 := t4.drewN n6; clear t4)
          | fail)
        go_ret
        exact ⟨rfl, t5.be⟩

end Go.Proofs.Ythnmkcofbjgpaaa
