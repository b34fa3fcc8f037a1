/- GapsTurns, walked. -/
import Derived.Test.YthnmkcofbjgpaaaKc
import Derived.Test.YthnmkcofbjgpaaaKb
import Derived.Test.YthnmkcofbjgpaaaOrder
namespace Go.Proofs.Ythnmkcofbjgpaaa
open Go.RowKit Go.Maps

/-- A slice of TSNs that came in. -/
def Came32 (w : World) (pa : Option Addr) (xs : List Nat) : Prop :=
  ∀ i, i < xs.length → ∃ a, pa = some a ∧ a.block < w.heap.size ∧ w.cell? (a.add i) = some (.int .u32 ((xs.getD i 0 : Nat) : Int)) ∧ xs.getD i 0 < M32

theorem row_below {w w' : World} {base : Nat} {e : TypeId} {size : Nat} {v : Value} {n : Nat} {xs : List Value} (h : w.ownsRow base e size v n xs) (hb : Below w.heap.size w w') : w'.ownsRow base e size v n xs :=
  ownsRow_kept h fun k hk => hb.block k (h.lt k hk).2

theorem gapsG_len (l : List Nat) : (gapsG l).length ≤ 64 := by unfold gapsG; rw [List.length_take]; omega

set_option maxRecDepth 100000 in
set_option maxHeartbeats 1600000 in
theorem gapsTurns_any (c b : Nat) (hc : c < M32) (hb : b < M32) (pa : Option Addr) (cap : Nat) (xs : List Nat) (w : World) (hx : Came32 w pa xs) :
    Calls Try.prog 5 #[.int .u32 c, .int .u32 b, .slice pa xs.length cap] w fun e w' => e = .returned (.bool true) ∧ Below w.heap.size w w' := by
  have HX := Lib.hid hx
  clear hx
  have hc1 := hc
  unfold M32 at hc hb
  by_cases hl : (300 : Int) < xs.length
  · go_enter Try.func5, Try.ntmps5
    go_wp2_with (go_at_call 6; refine (known_any _).mono ?_; rintro e w1 ⟨rfl, hb1⟩)
    go_ret
    exact ⟨rfl, hb1⟩
  · go_enter Try.func5, Try.ntmps5
    go_wp2_with (first
      | (go_at_call 6; refine (known_any _).mono ?_; rintro e w1 ⟨rfl, hb1⟩)
      | (go_at_call 7; refine (mine_new w.heap.size w _ hb1.size hb1 _ c rfl hc1).mono ?_; rintro e w2 ⟨g1, bm1, rfl, m1, _, _⟩; clear hc1)
      | (go_at_call 7; refine (two_new m1 _ ((c + b) % M32) (by unfold M32; omega) (Nat.mod_lt _ (by decide))).mono ?_; rintro e w3 ⟨g2, bm2, rfl, t0⟩; clear m1)
      | fail)
    go_loopw [28] (fun i wr => ∃ (k : Nat) (s : GS), k ≤ xs.length ∧ i = .int .i64 k ∧ Two w.heap.size w wr g1 bm1 s g2 bm2 (shG b s)) (fun i _ => xs.length - (intOf i).toNat)
    case atStart => exact ⟨0, ⟨c, [], []⟩, Nat.zero_le _, rfl, t0⟩
    case round =>
      obtain ⟨k, s, hk, rfl, t1⟩ := hrel
      by_cases hkl : k < xs.length
      · obtain ⟨a, rfl, hal, hcell, hlt⟩ := HX.out k hkl
        obtain ⟨x, hx⟩ : ∃ x, x = xs.getD k 0 := ⟨_, rfl⟩
        rw [← hx] at hcell hlt
        have hwf := t1.wf1
        have hsc := hwf.cum
        have dk : wr.cell? (a.add k) = some (.int .u32 (x : Int)) := by
          rw [t1.be.cell (by unfold Addr.add; split <;> exact hal)]; exact hcell
        have e1 := addG_shG s x b hsc hlt hb
        have hk3 : (0 : Int) ≤ (k : Int) := by omega
        have hk4 : (k : Int) < (xs.length : Int) := by omega
        clear hx hcell
        obtain ⟨q, hq⟩ : ∃ q, q = addG s x := ⟨_, rfl⟩
        have hqc : q.2.cum < M32 := by rw [hq]; exact (hwf.addG hlt).cum
        rw [← hq] at e1
        have HE1 := Lib.hid e1
        have HQ := Lib.hid hq
        have e2 := hasG_shG q.2 ((x + 1) % M32) b hqc (Nat.mod_lt _ (by decide)) hb
        have HE2 := Lib.hid e2
        unfold M32 at hlt
        clear e1 hq e2
        go_wp2_with (first
          | (go_at_call 8; refine (two_add t1 (x : Int) x rfl hlt).mono ?_; rintro e w4 ⟨rfl, t2⟩; clear t1; rw [← HQ.out] at t2 ⊢)
          | (go_at_call 8; refine (two_add t2.swap _ ((x + b) % M32) (by unfold M32; omega) (Nat.mod_lt _ (by decide))).mono ?_; rintro e w5 ⟨rfl, t3⟩; clear t2; rw [HE1.out] at t3 ⊢)
          | (go_at_call 19; refine (two_has t3.swap _ ((x + 1) % M32) (by unfold M32; omega) (Nat.mod_lt _ (by decide))).mono ?_; rintro e w6 ⟨rfl, t4⟩; clear t3)
          | (go_at_call 19; refine (two_has t4.swap _ (((x + 1) % M32 + b) % M32) (by unfold M32; omega) (Nat.mod_lt _ (by decide))).mono ?_; rintro e w7 ⟨rfl, t5⟩; clear t4; rw [HE2.out])
          | fail)
        go_roundw
        case rel => exact ⟨k + 1, q.2, by omega, by go_num, t5.swap⟩
        case measure => simp [intOf]; omega
      · obtain rfl : k = xs.length := by omega
        have hsc := t1.wf1.cum
        have hdl := t1.wf1.dlen
        have hdlt := t1.wf1.dlt
        have HD := Lib.hid hdlt
        clear hdlt
        unfold M32 at hsc
        have hd2 : (shG b s).dups.length = s.dups.length := by simp [shG]
        have HD2 := Lib.hid hd2
        clear hd2
        go_wp2_with (first
          | (go_at_call 11; refine (two_dups t1).mono ?_; rintro e w4 ⟨z1, rfl, t2, r1, l1, -⟩; clear t1)
          | (go_at_call 11; refine (two_dups t2.swap).mono ?_; rintro e w5 ⟨z2, rfl, t3', r2, -, f2⟩; have r1' := ownsRow_kept r1 (fun k hk => f2.block k (r1.lt k hk).2 (l1 k hk)); have t3 := t3'.swap; clear t3' t2 r1 l1 f2; rw [HD2.out] at r2; obtain ⟨a1, c1, rfl, k1⟩ := row_reads r1'; obtain ⟨a2, c2, rfl, k2⟩ := row_reads r2; have K1 := Lib.hid k1; have K2 := Lib.hid k2; clear k1 k2)
          | fail)
        go_loopw [66] (fun i wr => ∃ j : Nat, j ≤ s.dups.length ∧ i = .int .i64 j ∧ wr = w5) (fun i _ => s.dups.length - (intOf i).toNat)
        case atStart => exact ⟨0, Nat.zero_le _, rfl, rfl⟩
        case round =>
          obtain ⟨j, hj, rfl, rfl⟩ := hrel
          by_cases hjl : j < s.dups.length
          · obtain ⟨b1, rfl, q1⟩ := K1.out j _ (u32s_get _ _ hjl)
            obtain ⟨b2, rfl, q2⟩ := K2.out j _ (u32s_get _ _ (by rw [HD2.out]; exact hjl))
            obtain ⟨x, hx⟩ : ∃ x, x = s.dups.getD j 0 := ⟨_, rfl⟩
            have hxm : x ∈ s.dups := by rw [hx, List.getD_eq_getElem?_getD, List.getElem?_eq_getElem hjl]; exact List.getElem_mem hjl
            have hxl := HD.out x hxm
            have hy : (shG b s).dups.getD j 0 = (x + b) % M32 := by
              rw [hx]; simp [shG, List.getD_eq_getElem?_getD, List.getElem?_eq_getElem hjl]
            rw [← hx] at q1
            rw [hy] at q2
            unfold M32 at hxl q2
            have hj3 : (0 : Int) ≤ (j : Int) := by omega
            have hj4 : (j : Int) < (s.dups.length : Int) := by omega
            clear hx hxm hy
            go_wp2
            go_roundw
            case rel => exact ⟨j + 1, by omega, by go_num, trivial⟩
            case measure => simp [intOf]; omega
          · obtain rfl : j = s.dups.length := by omega
            have t6 := t3
            have e3 : ((s.cum : Int) + b) % 4294967296 = (((shG b s).cum : Nat) : Int) := by simp [shG, M32]
            have HE3 := Lib.hid e3
            clear e3 t3
            go_wp2_with (first
              | (go_at_call 14; refine (two_cum t6).mono ?_; rintro e w8 ⟨rfl, rfl⟩; have t7 := t6; clear t6)
              | (go_at_call 14; refine (two_cum t7.swap).mono ?_; rintro e w9 ⟨rfl, rfl⟩; rw [← HE3.out]; have t8 := t7; clear t7)
              | (go_at_call 16; refine (two_gaps t8).mono ?_; rintro e w10 ⟨z10, rfl, t9, r10, -⟩; clear t8)
              | (go_at_call 16; refine (two_gaps t9.swap).mono ?_; rintro e w11 ⟨z11, rfl, t10, r11, b11⟩; clear t9; have r10' := row_below r10 b11)
              | (go_at_call 15; refine (sg_same (gapsG s.ways) _ r10' r11 (by have := gapsG_len s.ways; omega)).mono ?_; rintro e w12 ⟨rfl, n12, rfl⟩; have t11 := t10.drewN n12; clear t10)
              | fail)
            go_ret
            exact ⟨rfl, t11.be⟩

end Go.Proofs.Ythnmkcofbjgpaaa
