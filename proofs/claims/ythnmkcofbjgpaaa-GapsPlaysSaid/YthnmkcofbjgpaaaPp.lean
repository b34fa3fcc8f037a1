/- GapsPlays answers true at every input, and every argument reads behind the call as it read before. No condition. -/
import Derived.Test.YthnmkcofbjgpaaaRows
import Derived.Test.YthnmkcofbjgpaaaKg
import Derived.Test.YthnmkcofbjgpaaaPt
import Derived.Deep.SlicePairs
import Derived.ProofKit
namespace Go.Proofs.Ythnmkcofbjgpaaa
open Go.ChangeShapes Go.WideShapes Go.ChangeAt Go.RowKit

theorem Try.cells33 : Try.prog.cellsOf 33 = 2 := by kernel_rfl
theorem Try.cells3 : Try.prog.cellsOf 3 = 1 := by kernel_rfl

theorem cameDo_of {H : Type} {enc : TypeId × Value → H} {W : World} {pa : Option Addr} {len cap : Nat} {d : DataW H} {ps : List MemPlace} (h : DataW.Trod enc Try.prog W 0 (fun _ => true) true 23 (.slice pa len cap) d ps) :
    ∃ xs : List (Int × Nat), xs.length = len ∧ CameDo W pa xs := by
  obtain ⟨fuel, hd⟩ := h
  rcases Go.Deep.open_slice_pairs Try.underlying23 Try.underlying33 Try.cells33 rfl rfl Try.cells3 Try.cells22 hd with ⟨hcs, hx⟩ | ⟨a, len', cap', m, n, V0, V1, D0, D1, P0, P1, hcs, _, hl, _, hm, _, hcell⟩
  · simp [Value.cells] at hcs
    obtain ⟨rfl, rfl, rfl⟩ := hcs
    exact ⟨[], rfl, fun i hi => absurd hi (by simp)⟩
  · simp [Value.cells] at hcs
    obtain ⟨rfl, rfl, rfl⟩ := hcs
    simp at hm
    subst hm
    have each : ∀ i, i < len → ∃ q : Int × Nat, W.cell? (a.add (i * 2)) = some (.int .i64 q.1) ∧ W.cell? (a.add (i * 2 + 1)) = some (.int .u32 (q.2 : Int)) ∧ q.2 < M32 := by
      intro i hi
      obtain ⟨h0, h1, t0, t1⟩ := hcell i (by omega)
      obtain ⟨k, e0, _, _⟩ := DataW.trod_int Try.underlying3 t0
      obtain ⟨t, e1, _, w1⟩ := DataW.trod_int Try.underlying22 t1
      obtain ⟨t, rfl, ht⟩ := nat_of_u32 w1
      simp at e0 e1
      exact ⟨(k, t), by rw [h0, e0], by rw [h1, e1], ht⟩
    obtain ⟨q, hq⟩ := Go.Deep.choose_lt each
    refine ⟨(List.range len).map q, by simp, fun i hi => ?_⟩
    have hi' : i < len := by simpa using hi
    have hg : ((List.range len).map q).getD i (0, 0) = q i := by
      simp [List.getD_eq_getElem?_getD, hi']
    rw [hg]
    obtain ⟨h0, h1, h2⟩ := hq i hi'
    refine ⟨a, rfl, ?_, h0, h1, h2⟩
    have hb := World.block_lt_of_cell? W _ h0
    have : (a.add (i * 2)).block = a.block := by unfold Addr.add; split <;> rfl
    omega

set_option maxRecDepth 100000 in
theorem gapsPlays_lifted (os : Os) (started : os.Started) (H : Type) (enc : TypeId × Value → H) :
    ReturnsInHanded {} Try.checked os 3 .any (Rows.gapsPlaysSpec.pre6 enc Try.prog Try.f3 Rows.gapsPlaysRow.domain false) (Rows.gapsPlaysSpec.post enc Try.prog Try.f3 false true false false) := by
  refine returnsInHanded_of_change (C := Try.checked) Try.own started (by kernel_rfl) Try.func3
    (ChangeSpec.witness6 (enc := enc) (C := Try.checked) false ⟨#[], #[.int .u32 0, .slice none 0 0, .int .u32 0], []⟩ 8 (by kernel_rfl) (by kernel_rfl) (by kernel_rfl) (by kernel_rfl)) ?_
  intro W base args ds gs before hval0 hW hcnd _
  have hval : ∀ (j : Nat) t v, Try.f3.params[j]? = some t → args[j]? = some v → Value.okWide Try.prog W .any base t v := hval0
  have hW' := hW
  obtain ⟨p, q, hA0, hV, rfl, hfz, hnd⟩ := hW
  have hA : DataW.TrodAll enc Try.prog W 0 (fun _ => true) true Try.f3.params.toList args.toList ds p := hA0
  rw [Try.params3] at hA hval
  obtain ⟨v0, v1, v2, d0, d1, d2, p0, p1, p2, rfl, rfl, rfl, h0, h1, h2⟩ := trodAll_three hA
  obtain ⟨rfl, rfl⟩ := trodVars_none hV
  obtain ⟨a, rfl, rfl, rfl, wa⟩ := open_int Try.underlying22 (hval 0 22 v0 rfl rfl) h0
  obtain ⟨b, rfl, rfl, rfl, wb⟩ := open_int Try.underlying22 (hval 2 22 v2 rfl rfl) h2
  obtain ⟨pa, len, cap, rfl⟩ := okWide_slice Try.underlying23 (hval 1 23 v1 rfl rfl)
  clear hA0 hval0
  simp only [List.append_nil, List.nil_append] at hW'
  have hlt : ∀ x ∈ p1, x.block < W.heap.size := fun x hx => by simpa using hW'.lt x hx
  obtain ⟨a, rfl, ha⟩ := nat_of_u32 wa
  obtain ⟨b, rfl, hb⟩ := nat_of_u32 wb
  obtain ⟨xs, rfl, hxs⟩ := cameDo_of h1
  refine (gapsPlays_any a b ha hb pa cap xs W hxs).mono fun e W' ⟨he, bel⟩ => ?_
  subst he
  refine ⟨_, rfl, ?_⟩
  refine ⟨_, _, _, [], p1, [], hW', ?_, ?_, rfl, bel.frame _, fun h => by cases h⟩
  · exact trodAll_mk1 (shut_bool Try.underlying4 true)
  · have h3 := trodAll_mk3 (shut_int (enc := enc) (P := Try.prog) (w := W') (base := 0) (spare := fun b => decide (b < W.heap.size)) (held := true) Try.underlying22 wa) (Below.trod Try.laidOut (by kernel_rfl) (of_decide_eq_true (by kernel_rfl)) h1 bel hlt) (shut_int Try.underlying22 wb)
    simp only [List.nil_append, List.append_nil] at h3
    exact h3

theorem gapsPlays_holds : Rows.GapsPlaysSaid :=
  OpenClaim.holds_of_wide 3 Try.f3 rfl rfl rfl rfl rfl rfl rfl ⟨rfl, rfl, rfl, rfl, rfl⟩ rfl rfl rfl rfl rfl (by kernel_rfl) Try.func3 (by kernel_rfl)
    (of_decide_eq_true (by kernel_rfl)) (by unfold Func.isWrapper; first | (rw [if_pos (by decide +kernel)]; kernel_rfl) | (rw [if_neg (by decide +kernel)]; exact ⟨rfl, rfl⟩))
    (fun os started H enc _ => gapsPlays_lifted os started H enc)

end Go.Proofs.Ythnmkcofbjgpaaa
