/- The program's set: New, Cum, Len, Next, Has, walked. -/
import Derived.Test.YthnmkcofbjgpaaaSt
import Derived.Deep.QuietTactic
import Derived.BigQuiet
import Derived.Lib.Hide
namespace Go.Proofs.Ythnmkcofbjgpaaa
open Go.RowKit Go.Maps

set_option maxHeartbeats 400000 in
theorem new_any (c : Nat) (w : World) (hc : c < M32) :
    Calls Try.prog 7 #[.int .u32 c] w fun e w' => e = .returned (.pointer (some ⟨w.heap.size + 1, 0, none⟩)) ∧ Below w.heap.size w w' ∧ w'.heap.size = w.heap.size + 2 ∧ IsSet w' (w.heap.size + 1) w.heap.size (.slice none 0 0) ⟨c, [], []⟩ := by
  have hmm := @run_makeMap Try.prog
  go_enter Try.func7, Try.ntmps7
  go_wp2
  go_ret
  refine ⟨rfl, ((Below.refl _ _).alloc (Nat.le_refl _) _).alloc (by simp) _, by simp, ?_⟩
  have hm := (World.ownsMap_made (H := Unit) w Try.prog 22 unitElem).alloc (.cells #[.int .u32 c, .map (some w.heap.size), .slice none 0 0] 54)
  refine ⟨?_, ⟨_, hm, ?_, rfl⟩, World.ownsRow_nil _ _ _ _, by simp [Value.ownBlock], ?_⟩
  · have := heap_alloc_new (w.alloc (.map #[] 0)) (.cells #[.int .u32 c, .map (some w.heap.size), .slice none 0 0] 54)
    simpa using this
  · intro x _; simp [Maps.has]
  · exact ⟨hc, by simp, by simp, by simp, by simp, by simp⟩

set_option maxHeartbeats 400000 in
theorem cum_any (g bm : Nat) (v : Value) (s : GS) (w : World) (h : IsSet w g bm v s) :
    Calls Try.prog 14 #[.pointer (some ⟨g, 0, none⟩)] w fun e w' => e = .returned (.int .u32 (s.cum : Nat)) ∧ w = w' := by
  obtain ⟨c0, c1, c2⟩ := h.cells
  go_enter Try.func14, Try.ntmps14
  go_wp2
  go_ret
  exact ⟨rfl, rfl⟩

set_option maxHeartbeats 400000 in
theorem next_any (g bm : Nat) (v : Value) (s : GS) (t : Nat) (w : World) (h : IsSet w g bm v s) :
    Calls Try.prog 21 #[.pointer (some ⟨g, 0, none⟩), .int .u32 t] w fun e w' => e = .returned (.bool (decide (t = (s.cum + 1) % M32))) ∧ w = w' := by
  obtain ⟨c0, c1, c2⟩ := h.cells
  go_enter Try.func21, Try.ntmps21
  go_wp2
  go_ret
  exact ⟨ret_bool (by rw [Bool.eq_iff_iff]; unfold M32; simp; omega), rfl⟩

set_option maxHeartbeats 400000 in
theorem len_any (g bm : Nat) (v : Value) (s : GS) (w : World) (h : IsSet w g bm v s) :
    Calls Try.prog 18 #[.pointer (some ⟨g, 0, none⟩)] w fun e w' => e = .returned (.int .i64 (s.ways.length : Nat)) ∧ w = w' := by
  obtain ⟨c0, c1, c2⟩ := h.cells
  obtain ⟨D, hown, hhas, hsz⟩ := h.map
  have HZ := Lib.hid hsz
  clear hsz
  go_enter Try.func18, Try.ntmps18
  go_wp2_with (at_len; refine wpList_len_own _ rfl _ 52 rfl 22 56 Try.underlying52 _ bm _ _ rfl hown ?_)
  go_ret
  exact ⟨ret_int (by rw [HZ.out]), rfl⟩


set_option maxHeartbeats 400000 in
theorem has_any (g bm : Nat) (v : Value) (s : GS) (t : Nat) (ht : t < 4294967296) (w : World) (h : IsSet w g bm v s) :
    Calls Try.prog 19 #[.pointer (some ⟨g, 0, none⟩), .int .u32 t] w fun e w' => e = .returned (.bool (hasG s t)) ∧ Below w.heap.size w w' := by
  obtain ⟨c0, c1, c2⟩ := h.cells
  have hcum : s.cum < 4294967296 := h.wf.cum
  obtain ⟨D, hown, hhas, hsz⟩ := h.map
  have hk := hhas t ht
  have HK := Lib.hid hk
  clear hk hhas hsz
  have hgl := lt_of_heap h.blk
  rcases Bool.eq_false_or_eq_true (Maps.has D (.int .u32 (t : Int))) with h1 | h1
  · go_enter Try.func19, Try.ntmps19
    go_wp2_with (at_lookup; refine wpList_lookup_own_unit _ rfl _ _ 52 rfl 22 56 law22 Try.underlying52 (zero56 _) bm _ _ rfl hown _ _ rfl (keyU t ht) ?_)
    go_ret
    exact ⟨ret_bool (by have := HK.out; rw [h1] at this; unfold hasG; simp [of_decide_eq_true this.symm]), (Below.refl _ _).alloc (Nat.le_refl _) _⟩
  · rcases Bool.eq_false_or_eq_true ((t : Int) == s.cum) with h2 | h2
    · go_enter Try.func19, Try.ntmps19
      go_wp2_with (at_lookup; refine wpList_lookup_own_unit _ rfl _ _ 52 rfl 22 56 law22 Try.underlying52 (zero56 _) bm _ _ rfl hown _ _ rfl (keyU t ht) ?_)
      go_ret
      exact ⟨ret_bool (by have e : t = s.cum := by simp at h2; omega
                          unfold hasG; simp [e]), (Below.refl _ _).alloc (Nat.le_refl _) _⟩
    · go_enter Try.func19, Try.ntmps19
      go_wp2_with (first | (at_lookup; refine wpList_lookup_own_unit _ rfl _ _ 52 rfl 22 56 law22 Try.underlying52 (zero56 _) bm _ _ rfl hown _ _ rfl (keyU t ht) ?_) | (go_at_call 27; refine (before_any _ _ _ ht hcum).mono ?_; rintro e w' ⟨rfl, rfl⟩))
      go_ret
      refine ⟨ret_bool ?_, (Below.refl _ _).alloc (Nat.le_refl _) _⟩
      have hn := HK.out
      rw [h1] at hn
      have e : ¬ t = s.cum := by simp at h2; omega
      unfold hasG
      simp [of_decide_eq_false hn.symm, e]

end Go.Proofs.Ythnmkcofbjgpaaa
