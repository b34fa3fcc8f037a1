/- GapsOrder answers true at every input, and every argument reads behind the call as it read before. No condition. -/
import Derived.Test.YthnmkcofbjgpaaaRows
import Derived.Test.YthnmkcofbjgpaaaKi
import Derived.Test.YthnmkcofbjgpaaaPt
import Derived.ProofKit
namespace Go.Proofs.Ythnmkcofbjgpaaa
open Go.ChangeShapes Go.WideShapes Go.ChangeAt Go.RowKit

theorem Try.cells46 : Try.prog.cellsOf 46 = 1 := by kernel_rfl

theorem nat_of_u16 {x : Int} (hw : (Lit.int .u16 x).wf = true) : ∃ n : Nat, x = n ∧ n < 65536 := by
  have h1 : 0 ≤ x ∧ x < 65536 := by
    simp [Lit.wf, IntKind.min, IntKind.max, IntKind.bits, IntKind.signed] at hw
    omega
  exact ⟨x.toNat, by rw [Int.toNat_of_nonneg (by omega)], by omega⟩

theorem came16_of {H : Type} {enc : TypeId × Value → H} {W : World} {pa : Option Addr} {len cap : Nat} {d : DataW H} {ps : List MemPlace} (h : DataW.Trod enc Try.prog W 0 (fun _ => true) true 45 (.slice pa len cap) d ps) :
    ∃ xs : List Nat, xs.length = len ∧ Came16 W pa cap xs := by
  obtain ⟨fuel, hd⟩ := h
  rcases open_ints Try.underlying45 Try.underlying46 Try.cells46 hd with ⟨hcs, hx⟩ | ⟨a, len', cap', zs, hcs, _, hl, hm, hz, hx, hcell, hwz⟩
  · simp [Value.cells] at hcs
    obtain ⟨rfl, rfl, rfl⟩ := hcs
    exact ⟨[], rfl, fun i hi => absurd hi (by simp), fun _ => rfl, Nat.zero_le _⟩
  · simp [Value.cells] at hcs
    obtain ⟨rfl, rfl, rfl⟩ := hcs
    simp at hz
    refine ⟨(zs.take len).map Int.toNat, by simp; omega, fun i hi => ?_, fun e => (by cases e), (by simp; omega)⟩
    have hi' : i < len := by simp at hi; omega
    have hiz : i < zs.length := by omega
    have hc := hcell i hiz
    have hmem : zs.getD i 0 ∈ zs := by
      rw [List.getD_eq_getElem?_getD, List.getElem?_eq_getElem hiz]; exact List.getElem_mem hiz
    obtain ⟨n, hn, hlt⟩ := nat_of_u16 (hwz _ hmem)
    have hg : ((zs.take len).map Int.toNat).getD i 0 = n := by
      have : zs.getD i 0 = zs[i] := by rw [List.getD_eq_getElem?_getD, List.getElem?_eq_getElem hiz]; rfl
      rw [this] at hn
      simp [List.getD_eq_getElem?_getD, hi', List.getElem?_eq_getElem hiz, hn]
    rw [hn] at hc
    refine ⟨a, rfl, ?_, by rw [hg]; exact hc, by rw [hg]; exact hlt⟩
    have := World.block_lt_of_cell? W _ hc
    have e : (a.add i).block = a.block := by unfold Addr.add; split <;> rfl
    omega

set_option maxRecDepth 100000 in
theorem gapsOrder_lifted (os : Os) (started : os.Started) (H : Type) (enc : TypeId × Value → H) :
    ReturnsInHanded {} Try.checked os 4 .any (Rows.gapsOrderSpec.pre6 enc Try.prog Try.f4 Rows.gapsOrderRow.domain false) (Rows.gapsOrderSpec.post enc Try.prog Try.f4 false true false false) := by
  refine returnsInHanded_of_change (C := Try.checked) Try.own started (by kernel_rfl) Try.func4
    (ChangeSpec.witness6 (enc := enc) (C := Try.checked) false ⟨#[], #[.int .u32 0, .slice none 0 0, .slice none 0 0], []⟩ 8 (by kernel_rfl) (by kernel_rfl) (by kernel_rfl) (by kernel_rfl)) ?_
  intro W base args ds gs before hval0 hW hcnd _
  have hval : ∀ (j : Nat) t v, Try.f4.params[j]? = some t → args[j]? = some v → Value.okWide Try.prog W .any base t v := hval0
  have hW' := hW
  obtain ⟨p, q, hA0, hV, rfl, hfz, hnd⟩ := hW
  have hA : DataW.TrodAll enc Try.prog W 0 (fun _ => true) true Try.f4.params.toList args.toList ds p := hA0
  rw [Try.params4] at hA hval
  obtain ⟨v0, v1, v2, d0, d1, d2, p0, p1, p2, rfl, rfl, rfl, h0, h1, h2⟩ := trodAll_three hA
  obtain ⟨rfl, rfl⟩ := trodVars_none hV
  obtain ⟨a, rfl, rfl, rfl, wa⟩ := open_int Try.underlying22 (hval 0 22 v0 rfl rfl) h0
  obtain ⟨pa, len, cap, rfl⟩ := okWide_slice Try.underlying45 (hval 1 45 v1 rfl rfl)
  obtain ⟨pb, lenb, capb, rfl⟩ := okWide_slice Try.underlying45 (hval 2 45 v2 rfl rfl)
  clear hA0 hval0
  simp only [List.append_nil, List.nil_append] at hW'
  have hlt : ∀ x ∈ p1 ++ p2, x.block < W.heap.size := fun x hx => by simpa using hW'.lt x hx
  obtain ⟨a, rfl, ha⟩ := nat_of_u32 wa
  obtain ⟨xs, rfl, hxs⟩ := came16_of h1
  obtain ⟨ts, rfl, hts⟩ := came16_of h2
  refine (gapsOrder_any a ha pa pb cap capb xs ts W hxs hts).mono fun e W' ⟨he, bel⟩ => ?_
  subst he
  refine ⟨_, rfl, ?_⟩
  refine ⟨_, _, _, [], p1 ++ p2, [], hW', ?_, ?_, rfl, bel.frame _, fun h => by cases h⟩
  · exact trodAll_mk1 (shut_bool Try.underlying4 true)
  · have h3 := trodAll_mk3 (shut_int (enc := enc) (P := Try.prog) (w := W') (base := 0) (spare := fun b => decide (b < W.heap.size)) (held := true) Try.underlying22 wa)
      (Below.trod Try.laidOut (by kernel_rfl) (of_decide_eq_true (by kernel_rfl)) h1 bel (fun x hx => hlt x (List.mem_append_left _ hx)))
      (Below.trod Try.laidOut (by kernel_rfl) (of_decide_eq_true (by kernel_rfl)) h2 bel (fun x hx => hlt x (List.mem_append_right _ hx)))
    rw [List.nil_append] at h3
    exact h3

theorem gapsOrder_holds : Rows.GapsOrderSaid :=
  OpenClaim.holds_of_wide 4 Try.f4 rfl rfl rfl rfl rfl rfl rfl ⟨rfl, rfl, rfl, rfl, rfl⟩ rfl rfl rfl rfl rfl (by kernel_rfl) Try.func4 (by kernel_rfl)
    (of_decide_eq_true (by kernel_rfl)) (by unfold Func.isWrapper; first | (rw [if_pos (by decide +kernel)]; kernel_rfl) | (rw [if_neg (by decide +kernel)]; exact ⟨rfl, rfl⟩))
    (fun os started H enc _ => gapsOrder_lifted os started H enc)

end Go.Proofs.Ythnmkcofbjgpaaa
