/- known, walked: the set's fixed story. -/
import Derived.Test.YthnmkcofbjgpaaaKa
namespace Go.Proofs.Ythnmkcofbjgpaaa
open Go.RowKit Go.Maps

theorem sg_same {ba bb : Nat} {va vb : Value} (l : List (Nat × Nat)) (w : World) (ha : w.ownsRow ba 49 2 va l.length (gaps l)) (hb : w.ownsRow bb 49 2 vb l.length (gaps l)) (hl : l.length ≤ 1000) :
    Calls Try.prog 15 #[va, vb] w fun e w' => e = .returned (.bool true) ∧ ∃ n, w' = w.drewN n := by
  refine (sameGaps_any ba bb va vb l l w ha hb hl hl).mono ?_
  rintro e w' ⟨rfl, h⟩
  exact ⟨ret_bool (by simp), h⟩

theorem st_same {ba bb : Nat} {va vb : Value} (l : List Nat) (w : World) (ha : w.ownsRow ba 22 1 va l.length (u32s l)) (hb : w.ownsRow bb 22 1 vb l.length (u32s l)) (hl : l.length ≤ 1000) :
    Calls Try.prog 10 #[va, vb] w fun e w' => e = .returned (.bool true) ∧ ∃ n, w' = w.drewN n := by
  refine (sameTsns_any ba bb va vb l l w ha hb hl hl).mono ?_
  rintro e w' ⟨rfl, h⟩
  exact ⟨ret_bool (by simp), h⟩

def q1 : GS := ⟨10, [], []⟩
def q2 : GS := ⟨10, [2], []⟩
def q3 : GS := ⟨10, [2, 3], []⟩
def q4 : GS := ⟨10, [2, 3, 5], []⟩
theorem e2 : addG q1 12 = (0, q2) := by kernel_rfl
theorem e3 : addG q2 13 = (0, q3) := by kernel_rfl
theorem e4 : addG q3 15 = (0, q4) := by kernel_rfl
theorem g4 : gapsG q4.ways = [(2, 3), (5, 5)] := by kernel_rfl

def q5 : GS := ⟨13, [2], []⟩
def q6 : GS := ⟨13, [2], [12]⟩
def q7 : GS := ⟨13, [2], [12, 15]⟩
theorem e5 : addG q4 11 = (0, q5) := by kernel_rfl
theorem e6 : addG q5 12 = (1, q6) := by kernel_rfl
theorem e7 : addG q6 15 = (1, q7) := by kernel_rfl
theorem e8 : addG q5 65549 = (2, q5) := by kernel_rfl
theorem g5 : gapsG q5.ways = [(2, 2)] := by kernel_rfl
theorem h15 : hasG q5 15 = true := by kernel_rfl
theorem h14 : hasG q5 14 = false := by kernel_rfl
theorem n14 : decide (14 = (q5.cum + 1) % M32) = true := by kernel_rfl

theorem mine_put {B : Nat} {w0 w : World} {g bm : Nat} {s s' : GS} {t r : Nat} (h : Mine B w0 w g bm s) (e : addG s t = (r, s')) (ht : t < M32) (T R : Int) (hT : T = t) (hR : R = r) :
    Calls Try.prog 8 #[.pointer (some ⟨g, 0, none⟩), .int .u32 T] w fun e w' => e = .returned (.int .u8 R) ∧ Mine B w0 w' g bm s' :=
  mine_add h T t hT ht R s' (by rw [e]; exact hR) (by rw [e])

set_option maxRecDepth 100000 in
set_option maxHeartbeats 400000 in
theorem known_any (w : World) : Calls Try.prog 6 #[] w fun e w' => e = .returned (.bool true) ∧ Below w.heap.size w w' := by
  go_enter Try.func6, Try.ntmps6
  go_wp2_with (first
    | (go_at_call 7; refine (mine_new w.heap.size w _ (Nat.le_refl _) (Below.refl _ _) 10 10 rfl (by decide)).mono ?_; rintro e w1 ⟨g, bm, rfl, m1', _, _⟩; have m1 : Mine w.heap.size w w1 g bm q1 := m1'; clear m1')
    | (go_at_call 8; refine (mine_put m1 e2 (by decide) 12 0 rfl rfl).mono ?_; rintro e w2 ⟨rfl, m2⟩; clear m1)
    | (go_at_call 8; refine (mine_put m2 e3 (by decide) 13 0 rfl rfl).mono ?_; rintro e w3 ⟨rfl, m3⟩; clear m2)
    | (go_at_call 8; refine (mine_put m3 e4 (by decide) 15 0 rfl rfl).mono ?_; rintro e w4 ⟨rfl, m4⟩; clear m3)
    | (go_at_call 16; refine (mine_gaps m4 [(2, 3), (5, 5)] g4).mono ?_; rintro e w5 ⟨z5, rfl, m5, r5⟩; clear m4)
    | (go_at_call 15; refine (sg_same [(2, 3), (5, 5)] _ (r5.alloc _) (row_made _ 49 2 2 (gaps [(2, 3), (5, 5)]) rfl (by decide)) (by decide)).mono ?_; rintro e w6 ⟨rfl, n6, rfl⟩; have m6 := (m5.alloc (.cells #[.int .u16 2, .int .u16 3, .int .u16 5, .int .u16 5] 49)).drewN n6; clear m5 r5)
    | (go_at_call 14; refine (mine_cum m6 10 rfl).mono ?_; rintro e w7 ⟨rfl, rfl⟩; have m7 := m6; clear m6)
    | (go_at_call 8; refine (mine_put m7 e5 (by decide) 11 0 rfl rfl).mono ?_; rintro e w8 ⟨rfl, m8⟩; clear m7)
    | (go_at_call 14; refine (mine_cum m8 13 rfl).mono ?_; rintro e w9 ⟨rfl, rfl⟩; have m9 := m8; clear m8)
    | (go_at_call 16; refine (mine_gaps m9 [(2, 2)] g5).mono ?_; rintro e w10 ⟨z10, rfl, m10, r10⟩; clear m9)
    | (go_at_call 15; refine (sg_same [(2, 2)] _ (r10.alloc _) (row_made _ 49 2 1 (gaps [(2, 2)]) rfl (by decide)) (by decide)).mono ?_; rintro e w11 ⟨rfl, n11, rfl⟩; have m11 := (m10.alloc (.cells #[.int .u16 2, .int .u16 2] 49)).drewN n11; clear m10 r10)
    | (go_at_call 8; refine (mine_put m11 e6 (by decide) 12 1 rfl rfl).mono ?_; rintro e w12 ⟨rfl, m12⟩; clear m11)
    | (go_at_call 8; refine (mine_put m12 e7 (by decide) 15 1 rfl rfl).mono ?_; rintro e w13 ⟨rfl, m13⟩; clear m12)
    | (go_at_call 11; refine (mine_dups m13 q5 rfl [12, 15] rfl).mono ?_; rintro e w14 ⟨z14, rfl, m14, r14⟩; clear m13)
    | (go_at_call 10; refine (st_same [12, 15] _ (r14.alloc _) (row_made _ 22 1 2 (u32s [12, 15]) rfl (by decide)) (by decide)).mono ?_; rintro e w15 ⟨rfl, n15, rfl⟩; have m15 := (m14.alloc (.cells #[.int .u32 12, .int .u32 15] 22)).drewN n15; clear m14 r14)
    | (go_at_call 11; refine (mine_dups m15 q5 rfl [] rfl).mono ?_; rintro e w16 ⟨z16, rfl, m16, r16⟩; clear m15; obtain ⟨a16, c16, rfl⟩ := row_shape r16)
    | (go_at_call 8; refine (mine_put m16 e8 (by decide) 65549 2 rfl rfl).mono ?_; rintro e w17 ⟨rfl, m17⟩; clear m16)
    | (go_at_call 19; refine (mine_has m17 15 15 rfl (by decide) true h15).mono ?_; rintro e w18 ⟨rfl, m18⟩; clear m17)
    | (go_at_call 19; refine (mine_has m18 14 14 rfl (by decide) false h14).mono ?_; rintro e w19 ⟨rfl, m19⟩; clear m18)
    | (go_at_call 21; refine (mine_next m19 14 14 rfl true n14).mono ?_; rintro e w20 ⟨rfl, rfl⟩; have m20 := m19; clear m19)
    | (go_at_call 18; refine (mine_len m20 1 rfl).mono ?_; rintro e w21 ⟨rfl, rfl⟩; have m21 := m20; clear m20)
    | (have stage := m21; clear stage; first
       | (go_at_call 8; refine (nil_add _ _).mono ?_; rintro e w22 ⟨rfl, rfl⟩)
       | (go_at_call 14; refine (nil_cum _).mono ?_; rintro e w22 ⟨rfl, rfl⟩)
       | (go_at_call 16; refine (nil_gaps _).mono ?_; rintro e w22 ⟨rfl, rfl⟩)
       | (go_at_call 11; refine (nil_dups _).mono ?_; rintro e w22 ⟨rfl, rfl⟩)
       | (go_at_call 18; refine (nil_len _).mono ?_; rintro e w22 ⟨rfl, rfl⟩)
       | (go_at_call 19; refine (nil_has _ _).mono ?_; rintro e w22 ⟨rfl, rfl⟩)
       | (go_at_call 21; refine (nil_next _ _).mono ?_; rintro e w22 ⟨rfl, rfl⟩)
       | (go_at_call 13; refine (nil_copy _).mono ?_; rintro e w22 ⟨rfl, rfl⟩))
    | fail)
  go_ret
  exact ⟨rfl, m21.be⟩

end Go.Proofs.Ythnmkcofbjgpaaa
