/- The small functions of serial and of the reference's layer 7, walked. -/
import Derived.Test.YthnmkcofbjgpaaaChecked
import Derived.Test.YthnmkcofbjgpaaaModel
import Derived.WalkKit
import Derived.WalkSpells
import Derived.WalkLawsBesides
namespace Go.Proofs.Ythnmkcofbjgpaaa
open Go.RowKit

theorem ret_int {k : IntKind} {a b : Int} (h : a = b) : Ending.returned (.int k a) = .returned (.int k b) := by rw [h]
theorem ret_bool {a b : Bool} (h : a = b) : Ending.returned (.bool a) = .returned (.bool b) := by rw [h]

set_option maxHeartbeats 400000 in
theorem span_any (a b : Nat) (w : World) (ha : a < 4294967296) (hb : b < 4294967296) :
    Calls Try.prog 22 #[.int .u32 a, .int .u32 b] w fun e w' => e = .returned (.int .u32 (wayN a b : Nat)) ∧ w = w' := by
  go_enter Try.func22, Try.ntmps22
  go_wp2
  go_ret
  exact ⟨ret_int (by unfold wayN M32; omega), rfl⟩

theorem all_ones : bits BinOp.xor IntKind.u32 IntKind.u32.max 0 = 4294967295 := by decide +kernel

set_option maxHeartbeats 400000 in
theorem before_any (a b : Nat) (w : World) (ha : a < 4294967296) (hb : b < 4294967296) :
    Calls Try.prog 27 #[.int .u32 a, .int .u32 b] w fun e w' => e = .returned (.bool (decide (2147483648 < wayN b a))) ∧ w = w' := by
  by_cases h0 : ((b : Int) - a) % 4294967296 = 0
  · go_enter Try.func27, Try.ntmps27
    go_wp2
    go_ret
    exact ⟨ret_bool (by unfold wayN M32; simp; omega), rfl⟩
  · go_enter Try.func27, Try.ntmps27
    go_wp2
    go_ret
    refine ⟨ret_bool ?_, rfl⟩
    rw [all_ones, Bool.eq_iff_iff]
    unfold wayN M32
    simp
    omega

set_option maxHeartbeats 400000 in
theorem Way_any (a b : Nat) (w : World) (ha : a < 4294967296) (hb : b < 4294967296) :
    Calls Try.prog 29 #[.int .i64 a, .int .i64 b, .int .i64 4294967296] w fun e w' => e = .returned (.int .i64 (wayN a b : Nat)) ∧ w = w' := by
  go_enter Try.func29, Try.ntmps29
  go_wp2
  · go_ret
    exact ⟨ret_int (by unfold wayN M32; omega), rfl⟩
  · go_ret
    exact ⟨ret_int (by unfold wayN M32; omega), rfl⟩

theorem wayN_swap (a b : Nat) (ha : a < M32) (hb : b < M32) : (wayN a b = 0 ∧ wayN b a = 0) ∨ (0 < wayN a b ∧ wayN a b + wayN b a = M32) := by
  unfold wayN M32 at *; omega

set_option maxHeartbeats 400000 in
theorem before32_any (a b : Nat) (w : World) (ha : a < 4294967296) (hb : b < 4294967296) :
    Calls Try.prog 28 #[.int .u32 a, .int .u32 b] w fun e w' => e = .returned (.bool (decide (2147483648 < wayN b a))) ∧ w = w' := by
  have hs := wayN_swap a b ha hb
  have hl := wayN_lt a b
  have HS : Hid ((wayN a b = 0 ∧ wayN b a = 0) ∨ (0 < wayN a b ∧ wayN a b + wayN b a = M32)) := hs
  clear hs
  unfold M32 at hl
  by_cases h0 : (1 : Int) ≤ (wayN a b : Nat)
  · go_enter Try.func28, Try.ntmps28
    go_wp2_with (go_at_call 29; refine (Way_any _ _ _ ha hb).mono ?_; rintro e w' ⟨rfl, rfl⟩)
    go_ret
    refine ⟨ret_bool ?_, rfl⟩
    have := HS.out
    rw [Bool.eq_iff_iff]
    unfold M32 at this
    simp
    omega
  · have hd : decide ((1 : Int) ≤ (wayN a b : Nat)) = false := by simpa using h0
    go_enter Try.func28, Try.ntmps28
    go_wp2_with (go_at_call 29; refine (Way_any _ _ _ ha hb).mono ?_; rintro e w' ⟨rfl, rfl⟩)
    go_ret
    refine ⟨ret_bool ?_, rfl⟩
    have := HS.out
    simp
    omega

end Go.Proofs.Ythnmkcofbjgpaaa
