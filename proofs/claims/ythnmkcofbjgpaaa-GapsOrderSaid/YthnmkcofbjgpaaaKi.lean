/- GapsOrder, walked. -/
import Derived.Test.YthnmkcofbjgpaaaKh
import Derived.Test.YthnmkcofbjgpaaaKg
import Derived.Deep.RegionHeld3
import Derived.Deep.LoopGhost
import Derived.Deep.CutBlock
import Derived.Deep.DeepCutAuto
import Derived.BigRegion
namespace Go.Proofs.Ythnmkcofbjgpaaa
open Go.RowKit Go.Maps

/-- A slice of ways that came in. -/
structure Came16 (w : World) (pa : Option Addr) (cap : Nat) (xs : List Nat) : Prop where
  at_ : ∀ i, i < xs.length → ∃ a, pa = some a ∧ a.block < w.heap.size ∧ w.cell? (a.add i) = some (.int .u16 ((xs.getD i 0 : Nat) : Int)) ∧ xs.getD i 0 < 65536
  nil : pa = none → cap = 0
  len : xs.length ≤ maxLen

theorem Came16.cells {w : World} {pa : Option Addr} {cap : Nat} {xs : List Nat} (h : Came16 w pa cap xs) : (pa = none → xs.length = 0) ∧ ∀ ad, pa = some ad → ∀ j u, (u16s xs)[j]? = some u → w.cell? (ad.add j) = some u := by
  refine ⟨fun e => ?_, fun ad e j u hu => ?_⟩
  · rcases Nat.eq_zero_or_pos xs.length with h0 | h0
    · exact h0
    · obtain ⟨a, h1, _⟩ := h.at_ 0 h0
      rw [e] at h1; cases h1
  · have hj : j < xs.length := by
      rcases Nat.lt_or_ge j xs.length with h1 | h1
      · exact h1
      · rw [List.getElem?_eq_none (by simpa [u16s, i16s] using h1)] at hu; cases hu
    obtain ⟨a, h1, _, h2, _⟩ := h.at_ j hj
    rw [e] at h1
    cases h1
    rw [u16s_get _ _ hj] at hu
    rw [h2, hu]

theorem wp_copy16 (w : World) {ops : Array Oper} {rest : List Oper} {o : Oper} {a : Act} {Q : Exit → Act → World → Prop} (hgd : o.guard = none) (s x : Operand)
    (ho : o.op = .call { callee := .builtin .append, args := #[s, x], argTypes := #[45, 45] })
    (base : Nat) (v : Value) (hs : a.eval s = v) (hown : w.ownsRow base 46 1 v 0 [])
    (xa : Option Addr) (m c : Nat) (xs : List Nat) (hx : a.eval x = .slice xa m c) (hl : xs.length = m) (hc : xa = none → c = 0) (hnews : ∀ ad, xa = some ad → ∀ j u, (u16s xs)[j]? = some u → w.cell? (ad.add j) = some u) (hnone : xa = none → m = 0)
    (hm : m ≤ 300) (hbase : base ≤ w.heap.size)
    (h : ∀ a' c' w', w'.ownsRow base 46 1 (.slice a' m c') m (u16s xs) → w.grownBy w' v.ownBlock → ((Value.slice a' m c').ownBlock = v.ownBlock ∨ (Value.slice a' m c').ownBlock = some w.heap.size) → wpList Try.prog ops Q rest (a.put o.dst (.slice a' m c')) w') : wpList Try.prog ops Q (o :: rest) a w := by
  obtain ⟨i0, hi0, hq0, hq1, hq2⟩ := info_parts info46
  refine wp_app_any w hgd s x 45 ho base 46 i0 (.int .u16 0) 2 Try.underlying45 hi0 hq0 hq1 hq2 rfl v 0 [] hs hown xa m c (u16s xs) hx (by simpa [u16s, i16s] using hl) hc hnews hnone ?_ (by unfold maxLen; omega) (by omega) hbase ?_
  · intro u hu
    simp [u16s, i16s] at hu
    obtain ⟨y, _, rfl⟩ := hu
    simp [Value.oneCell']
  · intro a' c' w' q1 q2 q3
    rw [Nat.zero_add] at q1 q3 ⊢
    rw [List.nil_append] at q1
    exact h a' c' w' q1 q2 q3

theorem Two.cellb {B : Nat} {w : World} {g1 bm1 : Nat} {s1 : GS} {g2 bm2 : Nat} {s2 : GS} {w0 : World} (h : Two B w0 w g1 bm1 s1 g2 bm2 s2) {a : Addr} {v : Value} (hB : B = w0.heap.size) (hc : w0.cell? a = some v) : w.cell? a = some v := by
  subst hB
  exact cell_below h.be hc

theorem row_free {w : World} {base : Nat} {e : TypeId} {size g n cap : Nat} {xs : List Value} (h : w.ownsRow base e size (.slice (some ⟨g, 0, none⟩) n cap) n xs) (i : Nat) : w.frozen? ⟨g, i, none⟩ = false := by
  rcases h.2 with ⟨h2, _⟩ | ⟨g', cap', cur, hv, r1, r2, r3⟩
  · cases h2
  · cases hv
    exact free_of_block r2 i

theorem cell_set_some {w : World} {p q : Addr} {x v : Value} (h : w.cell? q = some v) : ∃ v', (w.setCell p x).cell? q = some v' := by
  by_cases e : p = q
  · subst e; exact ⟨x, World.cell?_setCell_same w p x h⟩
  · exact ⟨v, (World.cell?_setCell_other w p q x e).trans h⟩

theorem swap_row {w w3 : World} {bo n cap : Nat} {ys : List Nat} (h : w.ownsRow w3.heap.size 46 1 (.slice (some ⟨bo, 0, none⟩) n cap) n (u16s ys)) (hb : Below w3.heap.size w3 w) {k j x1 x2 : Nat} (hk : k < ys.length) (hj : j < ys.length) (h1 : x1 = ys.getD k 0) (h2 : x2 = ys.getD j 0) :
    ((w.setCell ⟨bo, k, none⟩ (.int .u16 (x2 : Int))).setCell ⟨bo, j, none⟩ (.int .u16 (x1 : Int))).drew.ownsRow w3.heap.size 46 1 (.slice (some ⟨bo, 0, none⟩) n cap) n (u16s ((ys.set k x2).set j x1)) ∧
    Below w3.heap.size w3 ((w.setCell ⟨bo, k, none⟩ (.int .u16 (x2 : Int))).setCell ⟨bo, j, none⟩ (.int .u16 (x1 : Int))).drew ∧ ((ys.set k x2).set j x1).Perm ys := by
  have hlt := (h.lt bo rfl).1
  refine ⟨?_, ((hb.setCell hlt _).setCell hlt _).drew, ?_⟩
  · have := ownsRow_set (ownsRow_set h k (.int .u16 (x2 : Int))) j (.int .u16 (x1 : Int))
    have e : u16s ((ys.set k x2).set j x1) = ((u16s ys).set k (.int .u16 (x2 : Int))).set j (.int .u16 (x1 : Int)) := by simp [u16s, i16s, List.map_set]
    rw [e]
    exact this
  · subst h1 h2
    rw [List.getD_eq_getElem?_getD, List.getD_eq_getElem?_getD, List.getElem?_eq_getElem hk, List.getElem?_eq_getElem hj]
    exact List.set_set_perm hk hj

theorem Came16.all_lt {w : World} {pa : Option Addr} {cap : Nat} {xs : List Nat} (h : Came16 w pa cap xs) : ∀ x ∈ xs, x < 65536 := by
  intro x hx
  obtain ⟨i, hi, rfl⟩ := List.getElem_of_mem hx
  obtain ⟨a, _, _, _, h1⟩ := h.at_ i hi
  rwa [List.getD_eq_getElem?_getD, List.getElem?_eq_getElem hi] at h1

theorem gapsFrom_hi (N : Nat) : ∀ (ws : List Nat) (acc : List (Nat × Nat)), (∀ w ∈ ws, w ≤ N) → (∀ g ∈ acc, g.1 ≤ N ∧ g.2 ≤ N) → ∀ g ∈ gapsFrom acc ws, g.1 ≤ N ∧ g.2 ≤ N
  | [], acc, _, h, g, hg => h g hg
  | w :: r, acc, hw, h, g, hg => by
    have h1 := hw w List.mem_cons_self
    have hr : ∀ x ∈ r, x ≤ N := fun x hx => hw x (List.mem_cons_of_mem _ hx)
    have step : ∀ g ∈ gapsFrom (acc ++ [(w, w)]) r, g.1 ≤ N ∧ g.2 ≤ N := gapsFrom_hi N r _ hr (fun g hg => by
      rcases List.mem_append.1 hg with hg | hg
      · exact h g hg
      · rw [List.mem_singleton.1 hg]; exact ⟨h1, h1⟩)
    unfold gapsFrom at hg
    split at hg
    · rename_i a b hl
      split at hg
      · refine gapsFrom_hi N r _ hr (fun g hg => ?_) g hg
        rcases List.mem_append.1 hg with hg | hg
        · exact h g ((List.dropLast_sublist _).subset hg)
        · rw [List.mem_singleton.1 hg]
          exact ⟨(h (a, b) (List.mem_of_getLast? hl)).1, h1⟩
      · exact step g hg
    · exact step g hg

theorem gapsG_hi (l : List Nat) (N : Nat) (h : ∀ x ∈ l, x ≤ N) : ∀ g ∈ gapsG l, g.1 ≤ N ∧ g.2 ≤ N := fun g hg =>
  gapsFrom_hi N l [] h (by simp) g (List.mem_of_mem_take hg)

def endOf (l : List (Nat × Nat)) (j : Nat) : Nat := if j = 0 then 0 else (l.getD (j - 1) (0, 0)).2

theorem gap_end {l : List (Nat × Nat)} (h : GapsOk l) {j : Nat} (hj : j < l.length) : endOf l j + 2 ≤ (l.getD j (0, 0)).1 ∧ (l.getD j (0, 0)).1 ≤ (l.getD j (0, 0)).2 := by
  have e : l.getD j (0, 0) = l[j] := by simp [List.getD_eq_getElem?_getD, List.getElem?_eq_getElem hj]
  have h1 := h.le l[j] (List.getElem_mem hj)
  rw [e]
  refine ⟨?_, h1.2⟩
  unfold endOf
  split
  · omega
  · have hj' : j - 1 < l.length := by omega
    have e' : l.getD (j - 1) (0, 0) = l[j - 1] := by simp [List.getD_eq_getElem?_getD, List.getElem?_eq_getElem hj']
    rw [e']
    exact List.pairwise_iff_getElem.1 h.apart (j - 1) j hj' hj (by omega)

theorem row_empty (w : World) (e : TypeId) : (w.alloc (.cells #[] e)).ownsRow w.heap.size e 1 (.slice (some ⟨w.heap.size, 0, none⟩) 0 0) 0 [] :=
  row_made w e 1 0 [] rfl (by decide)

set_option maxRecDepth 100000 in
set_option maxHeartbeats 1600000 in
theorem gapsOrder_any (c : Nat) (hc : c < M32) (pa pb : Option Addr) (cap capb : Nat) (xs ts : List Nat) (w : World) (hx : Came16 w pa cap xs) (ht : Came16 w pb capb ts) :
    Calls Try.prog 4 #[.int .u32 c, .slice pa xs.length cap, .slice pb ts.length capb] w fun e w' => e = .returned (.bool true) ∧ Below w.heap.size w w' := by
  have hmm := @run_makeMap Try.prog
  have HX := Lib.hid hx
  have HT := Lib.hid ht
  clear hx ht
  have hc1 := hc
  unfold M32 at hc
  by_cases hl : (300 : Int) < xs.length
  · go_enter Try.func4, Try.ntmps4
    go_wp2_with (go_at_call 6; refine (known_any _).mono ?_; rintro e w1 ⟨rfl, hb1⟩)
    go_ret
    exact ⟨rfl, hb1⟩
  · have hl3 : xs.length ≤ 300 := by omega
    go_enter Try.func4, Try.ntmps4
    go_wp2_with (first
      | (go_at_call 6; refine (known_any _).mono ?_; rintro e w1 ⟨rfl, hb1⟩)
      | (go_at_call 7; refine (mine_new w.heap.size w _ hb1.size hb1 _ c rfl hc1).mono ?_; rintro e w2 ⟨g1, bm1, rfl, m1, _, _⟩; clear hb1)
      | (go_at_call 7; refine (two_new m1 _ c rfl hc1).mono ?_; rintro e w3 ⟨g2, bm2, rfl, t0⟩; clear m1)
      | (at_builtin; refine wp_copy16 _ rfl _ _ rfl w3.heap.size (.slice (some ⟨w3.heap.size, 0, none⟩) 0 0) rfl (row_empty w3 46) pa xs.length cap xs rfl rfl HX.out.nil (fun ad e j u hu => cell_below ((Below.refl _ _).alloc (Nat.le_refl _) _) (t0.cellb rfl (HX.out.cells.2 ad e j u hu))) HX.out.cells.1 hl3 (by simp) ?_; intro a9 c9 w9 hown9 hgrow9 hloc9)
      | fail)
    have be9 : Below w3.heap.size w3 w9 := ((Below.refl w3.heap.size w3).alloc (Nat.le_refl _) (.cells #[] 46)).grown hgrow9 (by simp) (fun k hk => by cases hk; exact Nat.le_refl _)
    clear hgrow9 hloc9
    have htl := HT.out.len
    unfold maxLen at htl
    go_loopw [36] (fun i wr => ∃ (k : Nat) (ys : List Nat), k ≤ ts.length ∧ i = .int .i64 k ∧ ys.Perm xs ∧ wr.ownsRow w3.heap.size 46 1 (.slice a9 xs.length c9) xs.length (u16s ys) ∧ Below w3.heap.size w3 wr) (fun i _ => ts.length - (intOf i).toNat)
    case atStart => exact ⟨0, xs, Nat.zero_le _, rfl, List.Perm.refl _, hown9, be9⟩
    case round =>
      obtain ⟨k, ys, hk, rfl, hperm, hown, hbe⟩ := hrel
      have hyl := hperm.length_eq
      have HP := Lib.hid hperm
      clear hperm
      by_cases hkl : k < ts.length
      · obtain ⟨a, rfl, hal, hcell, hlt⟩ := HT.out.at_ k hkl
        obtain ⟨n, hn⟩ : ∃ n, n = ts.getD k 0 := ⟨_, rfl⟩
        rw [← hn] at hcell hlt
        have dk : wr.cell? (a.add k) = some (.int .u16 (n : Int)) := cell_below hbe (t0.cellb rfl hcell)
        have hk3 : (0 : Int) ≤ (k : Int) := by omega
        have hk4 : (k : Int) < (ts.length : Int) := by omega
        clear hn hcell
        by_cases hkx : (k : Int) < (xs.length : Int)
        · have hne : ((xs.length : Int) == 0) = false := by rw [beq_eq_false_iff_ne]; omega
          obtain ⟨j, hj⟩ : ∃ j, j = n % xs.length := ⟨_, rfl⟩
          have hjl : j < xs.length := by rw [hj]; exact Nat.mod_lt _ (by omega)
          have hjt : (n : Int).tmod (xs.length : Int) = (j : Int) := by rw [hj, Int.ofNat_tmod]
          have hj0 : (0 : Int) ≤ (j : Int) := by omega
          have hj1 : (j : Int) < (xs.length : Int) := by omega
          obtain ⟨a', cap', e, hcl⟩ := row_reads hown
          cases e
          obtain ⟨bo, e1, d1⟩ := hcl k _ (u16s_get ys k (by omega))
          subst e1
          obtain ⟨bo', e1, d2⟩ := hcl j _ (u16s_get ys j (by omega))
          cases e1
          obtain ⟨x1, hx1⟩ : ∃ x1, x1 = ys.getD k 0 := ⟨_, rfl⟩
          obtain ⟨x2, hx2⟩ : ∃ x2, x2 = ys.getD j 0 := ⟨_, rfl⟩
          rw [← hx1] at d1
          rw [← hx2] at d2
          have f1 := row_free hown k
          have f2 := row_free hown j
          obtain ⟨v', d3⟩ := cell_set_some (w := wr) (p := ⟨bo, k, none⟩) (x := .int .u16 (x2 : Int)) d2
          have X1 := Lib.hid hx1
          have X2 := Lib.hid hx2
          have HO := Lib.hid hown
          have HB := Lib.hid hbe
          clear hj hcl hown hbe hx1 hx2
          go_upto_region 12 with fail
          go_region
          go_wp2
          go_roundw
          case rel =>
            have hp := HP.out
            obtain ⟨q1, q2, q3⟩ := swap_row HO.out HB.out (by rw [hyl]; omega) (by rw [hyl]; exact hjl) X1.out X2.out
            exact ⟨k + 1, _, by omega, by go_num, q3.trans hp, q1, q2⟩
          case measure => simp [intOf]; omega
        · go_wp2
          go_roundw
          case rel => exact ⟨k + 1, ys, by omega, by go_num, HP.out, hown, hbe⟩
          case measure => simp [intOf]; omega
      · obtain rfl : k = ts.length := by omega
        have HW := Lib.hid hown
        clear hown
        go_wp2
        have hown := HW.out
        have t1 : TwoX (fun k => (Value.slice a9 xs.length c9).ownBlock = some k ∨ k = wr.heap.size) (wr.alloc (.map #[] 0)) w.heap.size w (wr.alloc (.map #[] 0)) g1 bm1 ⟨c, [], []⟩ g2 bm2 ⟨c, [], []⟩ := by
          refine tx_of_two t0 (hbe.alloc hbe.size _) ?_
          rintro k (hk | rfl)
          · have := hown.lt k hk
            simp
            omega
          · have := hbe.size
            simp
            omega
        have hown1 := hown.alloc (.map #[] 0)
        have hmap := World.ownsMap_made (H := Unit) wr Try.prog 22 (plainElem Try.prog 3)
        obtain ⟨bc, hbc⟩ : ∃ bc, bc = wr.heap.size := ⟨_, rfl⟩
        obtain ⟨X, hX⟩ : ∃ X : Nat → Prop, X = fun k => (Value.slice a9 xs.length c9).ownBlock = some k ∨ k = wr.heap.size := ⟨_, rfl⟩
        rw [← hX] at t1
        have hXc : X bc := by rw [hX]; exact Or.inr hbc
        have hne9 : (Value.slice a9 xs.length c9).ownBlock ≠ some bc := by
          intro e
          have := (hown.lt bc e).2
          omega
        have hXr : ∀ k, (Value.slice a9 xs.length c9).ownBlock = some k → X k := fun k hk => by rw [hX]; exact Or.inl hk
        rw [← hbc] at hmap ⊢
        clear hX HW
        go_loopw [68] (fun i wr => ∃ (k : Nat) (s1 s2 : GS) (m : Nat) (D : DataW Unit), k ≤ xs.length ∧ i = .int .i64 k ∧ (∀ x ∈ xs.take k, 1 ≤ x ∧ x ≤ 30000) ∧ Came c (xs.take k) m s1 ∧ s2 = addAll c (ys.take k) ⟨c, [], []⟩ ∧
          TwoX X wr w.heap.size w wr g1 bm1 s1 g2 bm2 s2 ∧ wr.ownsRow w3.heap.size 46 1 (.slice a9 xs.length c9) xs.length (u16s ys) ∧ wr.ownsMap Try.prog 22 (plainElem Try.prog 3) bc k D ∧ Cnt D c (xs.take k)) (fun i _ => xs.length - (intOf i).toNat)
        case atStart => exact ⟨0, _, _, 0, _, Nat.zero_le _, rfl, by simp, by simpa using Came.start c hc1 [], rfl, t1, hown1, hmap, by simpa using Cnt.start c⟩
        case round =>
          clear t1 hown1 hmap t0 hown be9 hown9
          obtain ⟨k, s1, s2, m, D, hk, rfl, hrg, hcm, hs2, t2, hown, hmap, hcnt⟩ := hrel
          have HRG := Lib.hid hrg
          have HCM := Lib.hid hcm
          have HS2 := Lib.hid hs2
          clear hbe hbc hkl hrg hcm hs2
          by_cases hkx : k < xs.length
          · obtain ⟨a, rfl, hal, hcell, hlt⟩ := HX.out.at_ k hkx
            obtain ⟨x, hx⟩ : ∃ x, x = xs.getD k 0 := ⟨_, rfl⟩
            rw [← hx] at hcell hlt
            have dk : wr.cell? (a.add k) = some (.int .u16 (x : Int)) := cell_below t2.be hcell
            have hk3 : (0 : Int) ≤ (k : Int) := by omega
            have hk4 : (k : Int) < (xs.length : Int) := by omega
            have htk : xs.take (k + 1) = xs.take k ++ [x] := by
              rw [hx, List.getD_eq_getElem?_getD, List.getElem?_eq_getElem hkx]
              exact List.take_succ_eq_append_getElem hkx
            have HTK := Lib.hid htk
            clear hx hcell htk
            by_cases h1 : (x : Int) < 1
            · go_wp2
              go_ret
              exact ⟨rfl, t2.be⟩
            · by_cases h2 : (30000 : Int) < (x : Int)
              · go_wp2
                go_ret
                exact ⟨rfl, t2.be⟩
              · obtain ⟨e1, m', hcm'⟩ := HCM.out.add hc1 (fun y hy => (HRG.out y hy).2) (w := x) (by omega) (by omega)
                have hth : (c + x) % M32 < M32 := Nat.mod_lt _ (by decide)
                obtain ⟨n, hn, hpos, hnl⟩ := hcnt.val _ hth
                have ew : wayN c ((c + x) % M32) = x := by unfold wayN M32; omega
                rw [ew] at hpos
                obtain ⟨r, hr⟩ : ∃ r : Int, r = ((addG s1 ((c + x) % M32)).1 : Nat) := ⟨_, rfl⟩
                have hrn : (r == 0) = ((n : Int) == 0) := by
                  rw [hr, e1, Bool.eq_iff_iff, beq_iff_eq, beq_iff_eq]
                  by_cases hin : x ∈ xs.take k
                  · rw [if_pos hin]; have := hpos.2 hin; omega
                  · rw [if_neg hin]
                    have : ¬ 0 < n := fun h => hin (hpos.1 h)
                    omega
                have hn3 : n ≤ 300 := by rw [List.length_take] at hnl; omega
                have t3 := t2.drew
                have l3 := look_came (t3.map hmap hXc) hth (((c : Int) + x) % 4294967296) (by unfold M32; omega) hn
                have HR := Lib.hid hr
                have HM := Lib.hid hmap
                have HC := Lib.hid hcnt
                have HE := Lib.hid hcm'
                have HN := Lib.hid hn
                have HO := Lib.hid hown
                have HW := Lib.hid ew
                clear e1 hpos hnl hr hmap hcnt hcm' hn ew hown
                go_upto_region 21 with fail
                go_region_held3 (fun w' => (Instr.lookup 47 (.map (some bc)) (.int .u32 (((c : Int) + x) % 4294967296)) false).run Try.prog w' = .ok (.int .i64 (n : Int)) w') (first | exact l3 | exact l4)
                  (first | (go_at_call 8; refine (tx_add t3 _ ((c + x) % M32) (by unfold M32; omega) hth).mono ?_; rintro e w4 ⟨rfl, t4⟩; rw [← HR.out]; have l4 := look_came (t4.map HM.out hXc) hth (((c : Int) + x) % 4294967296) (by unfold M32; omega) HN.out; clear t3))
                all_goals
                  have hm4 := t4.map HM.out hXc
                  have ho4 := t4.row HO.out hXr
                  have hkey : keyOf Try.prog 22 (.int .u32 (((c : Int) + x) % 4294967296)) = some (.int .u32 (((c + x) % M32 : Nat) : Int)) := by
                    have := keyU _ hth
                    rwa [show (((c + x) % M32 : Nat) : Int) = ((c : Int) + x) % 4294967296 from by unfold M32; omega] at this ⊢
                  have hwf : (Lit.int .i64 ((n : Int) + 1)).wf = true := by
                    simp [Lit.wf, IntKind.min, IntKind.max, IntKind.bits, IntKind.signed]; omega
                  obtain ⟨y, hy⟩ : ∃ y, y = ys.getD k 0 := ⟨_, rfl⟩
                  have hyb : y < 65536 := by
                    have hym : y ∈ ys := by rw [hy, List.getD_eq_getElem?_getD, List.getElem?_eq_getElem (by omega)]; exact List.getElem_mem _
                    exact HX.out.all_lt y (HP.out.mem_iff.1 hym)
                  have hyt : ys.take (k + 1) = ys.take k ++ [y] := by
                    rw [hy, List.getD_eq_getElem?_getD, List.getElem?_eq_getElem (by omega)]
                    exact List.take_succ_eq_append_getElem (by omega)
                  obtain ⟨a', cap', e, hcl⟩ := row_reads ho4
                  cases e
                  obtain ⟨bo, e1, d4⟩ := hcl k _ (u16s_get ys k (by omega))
                  subst e1
                  rw [← hy] at d4
                  have hbo : bo ≠ bc := fun e => hne9 (by rw [e]; rfl)
                  have HO4 := Lib.hid ho4
                  have HY := Lib.hid hyt
                  have HF := Lib.hid hwf
                  have HK := Lib.hid hkey
                  have hk300 : k ≤ 300 := by omega
                  clear t2 l3 hy hyt hcl ho4 hwf hkey
                  go_wp2_with (first
                    | (at_mapUpdate; refine wpList_mapUpdate_own _ rfl _ _ _ 47 rfl 22 3 law22 Try.underlying47 (plainElem Try.prog 3) bc k _ rfl hm4 (by unfold maxLen; omega) _ _ _ rfl rfl HK.out _ [] (plainElem_int Try.underlying3 HF.out) ?_; intro w5 hown5 hgrow5; have t5 := t4.beside (Fr.of_grown hgrow5 (fun k hk _ => by cases hk; exact hXc)); have hb5 := hgrow5.block bo ((HO4.out.lt bo rfl).2) (fun e => hbo (Option.some.inj e)); have d5 : w5.cell? ⟨bo, k, none⟩ = some (.int .u16 (y : Int)) := by (rw [World.cell?_of_block hb5]; exact d4))
                    | (go_at_call 8; refine (tx_add t5.swap _ ((c + y) % M32) (by unfold M32; omega) (Nat.mod_lt _ (by decide))).mono ?_; rintro e w6 ⟨rfl, t6⟩)
                    | fail)
                  go_roundw
                  case rel =>
                    have e1 := HTK.out
                    refine ⟨k + 1, _, _, m', _, by omega, by go_num, ?_, by rw [e1]; exact HE.out, ?_, t6.swap.anew, t6.row (ownsRow_kept HO4.out (fun q hq => by cases hq; exact hb5)) hXr, t6.map hown5 hXc, ?_⟩
                    · intro z hz
                      rw [e1] at hz
                      rcases List.mem_append.1 hz with hz | hz
                      · exact HRG.out z hz
                      · rw [List.mem_singleton.1 hz]; omega
                    · rw [HY.out, addAll_snoc, ← HS2.out]
                    · have := HC.out.put (hm4.tidy law22) hc1 hth HN.out
                      rw [HW.out] at this
                      rw [e1]
                      exact this
                  case measure => simp [intOf]; omega
          · obtain rfl : k = xs.length := by omega
            have hcm := HCM.out
            have hrg := HRG.out
            have hs2 := HS2.out
            rw [List.take_length] at hcm hrg hcnt
            rw [← hyl, List.take_length] at hs2
            have hwf := t2.wf1
            obtain ⟨m2, hcm2⟩ := came_all c hc1 ys (fun y hy => hrg y (HP.out.mem_iff.1 hy))
            rw [← hs2] at hcm2
            obtain ⟨-, ec, ew⟩ := hcm.same hcm2 (fun y => (HP.out.mem_iff).symm)
            have hm := hcm.m_le (fun y hy => (hrg y hy).2)
            have hnx : hasG s1 ((s1.cum + 1) % M32) = false := by
              have h1 := hcm.has hc1 (fun y hy => (hrg y hy).2) (w := m + 1) (by omega) (by omega)
              rw [decide_eq_false hcm.next] at h1
              rw [hcm.cum, show ((c + m) % M32 + 1) % M32 = (c + (m + 1)) % M32 from by unfold M32; omega]
              exact h1
            have hok := gapsG_ok s1.ways hwf.sorted hwf.lo
            have hgl := gapsG_len s1.ways
            have hgb := gapsG_hi s1.ways 65535 hwf.hi
            have hwl := hwf.wlen
            have hsc := hwf.cum
            unfold M32 at hsc
            have EC := Lib.hid ec
            have EW := Lib.hid ew
            have NX := Lib.hid hnx
            have OK := Lib.hid hok
            have GB := Lib.hid hgb
            have CM := Lib.hid hcm
            have RG := Lib.hid hrg
            have CT := Lib.hid hcnt
            have HM := Lib.hid hmap
            clear hs2 hcm2 ec ew hnx hok hgb hcm hrg hcnt hwf hmap hown HRG HCM HS2 hkx
            go_wp2_with (first
              | (go_at_call 14; refine (tx_cum t2).mono ?_; rintro e w4 ⟨rfl, rfl⟩; have t3 := t2; clear t2)
              | (go_at_call 14; refine (tx_cum t3.swap).mono ?_; rintro e w5 ⟨rfl, rfl⟩; rw [← EC.out]; have t4 := t3; clear t3)
              | (go_at_call 16; refine (tx_gaps t4).mono ?_; rintro e w6 ⟨z6, rfl, t5, r6, -⟩; clear t4)
              | (go_at_call 16; refine (tx_gaps t5.swap).mono ?_; rintro e w7 ⟨z7, rfl, t6', r7, b7⟩; have t6 := t6'.swap; have r6' := row_below r6 b7; rw [← EW.out] at r7; clear t5 t6' r6 b7)
              | (go_at_call 15; refine (sg_same (gapsG s1.ways) _ r6' r7 (by omega)).mono ?_; rintro e w8 ⟨rfl, n8, rfl⟩; have t7 := t6.drewN n8; clear t6 r6' r7)
              | (go_at_call 18; refine (tx_len t7).mono ?_; rintro e w9 ⟨rfl, rfl⟩; have t8 := t7; clear t7)
              | (go_at_call 18; refine (tx_len t8.swap).mono ?_; rintro e w10 ⟨rfl, rfl⟩; rw [← EW.out]; have t9 := t8; clear t8)
              | (go_at_call 14; refine (tx_cum t9).mono ?_; rintro e w11 ⟨rfl, rfl⟩; have t10 := t9; clear t9)
              | (go_at_call 19; refine (tx_has t10 _ ((s1.cum + 1) % M32) (by unfold M32; omega) (Nat.mod_lt _ (by decide))).mono ?_; rintro e w12 ⟨rfl, t11⟩; rw [NX.out]; clear t10)
              | (go_at_call 16; refine (tx_gaps t11).mono ?_; rintro e w13 ⟨z13, rfl, t12, r13, -⟩; clear t11; obtain ⟨a13, c13, rfl, k13⟩ := gap_reads r13; have K13 := Lib.hid k13; clear k13 r13)
              | fail)
            go_loopw [17, 136] (fun en i wq => ∃ j : Nat, j ≤ (gapsG s1.ways).length ∧ i = .int .i64 j ∧ en = .int .u16 (endOf (gapsG s1.ways) j : Nat) ∧ TwoX X wr w.heap.size w wq g1 bm1 s1 g2 bm2 s2 ∧ Below w13.heap.size w13 wq) (fun _ i _ => (gapsG s1.ways).length - (intOf i).toNat)
            case atStart => exact ⟨0, Nat.zero_le _, rfl, rfl, t12, Below.refl _ _⟩
            case round =>
              obtain ⟨wq, rfl⟩ : ∃ wq : World, wq = wr := ⟨_, rfl⟩
              obtain ⟨j, hj, rfl, rfl, t13, hbe⟩ := hrel
              by_cases hjl : j < (gapsG s1.ways).length
              · obtain ⟨b, rfl, d1, d2⟩ := K13.out j hjl
                obtain ⟨hen, hpq⟩ := gap_end OK.out hjl
                obtain ⟨p, hp⟩ : ∃ p, p = ((gapsG s1.ways).getD j (0, 0)).1 := ⟨_, rfl⟩
                obtain ⟨q, hq⟩ : ∃ q, q = ((gapsG s1.ways).getD j (0, 0)).2 := ⟨_, rfl⟩
                obtain ⟨en, he⟩ : ∃ en, en = endOf (gapsG s1.ways) j := ⟨_, rfl⟩
                have hbd := GB.out _ (List.getElem_mem hjl)
                have e0 : (gapsG s1.ways).getD j (0, 0) = (gapsG s1.ways)[j] := by simp [List.getD_eq_getElem?_getD, List.getElem?_eq_getElem hjl]
                have he2 : endOf (gapsG s1.ways) (j + 1) = q := by simp [endOf, hq]
                rw [← e0, ← hp, ← hq] at hbd
                rw [← hp] at d1 hen hpq
                rw [← hq] at d2 hpq
                rw [← he] at hen ⊢
                have d3 := cell_below hbe d1
                have d4 := cell_below hbe d2
                have hj3 : (0 : Int) ≤ (j : Int) := by omega
                have hj4 : (j : Int) < ((gapsG s1.ways).length : Int) := by omega
                have hI1 : (p : Int) ≤ (q : Int) := by omega
                have hI2 : (en : Int) + 2 ≤ (p : Int) := by omega
                have hI3 : (2 : Int) ≤ (p : Int) := by omega
                have hI4 : (p : Int) ≤ 65535 := by omega
                have HE := Lib.hid he2
                have t14 := t13.alloc (.cells #[.int .u16 (p : Int), .int .u16 (q : Int)] 49)
                have be14 := hbe.alloc hbe.size (.cells #[.int .u16 (p : Int), .int .u16 (q : Int)] 49)
                have T14 := Lib.hid t14
                have B14 := Lib.hid be14
                clear hp hq he hbd e0 he2 hen hpq d1 d2 t14 be14 t13 hbe t12
                go_wp2
                go_roundw
                case rel => exact ⟨j + 1, by omega, by go_num, by rw [HE.out], T14.out, B14.out⟩
                case measure => simp [intOf]; omega
              · obtain rfl : j = (gapsG s1.ways).length := by omega
                clear hbe t12 K13 hj hjl
                obtain ⟨wo, rfl⟩ : ∃ wo : World, wo = wq := ⟨_, rfl⟩
                have T13 := Lib.hid t13
                go_wp2
                go_loopw [20] (fun v wz => ∃ q : Nat, 1 ≤ q ∧ q ≤ 31000 ∧ v = .int .u32 q ∧ TwoX X wr w.heap.size w wz g1 bm1 s1 g2 bm2 s2) (fun v _ => 40000 - (intOf v).toNat)
                case atStart => exact ⟨1, by omega, by omega, rfl, t13⟩
                case round =>
                  clear t13
                  obtain ⟨wz, rfl⟩ : ∃ wz : World, wz = wr := ⟨_, rfl⟩
                  obtain ⟨q, hq1, hq2, rfl, t14⟩ := hrel
                  by_cases hq3 : (q : Int) ≤ 30001
                  · have hh := CM.out.has hc1 (fun y hy => (RG.out y hy).2) (w := q) (by omega) (by omega)
                    have hth : (c + q) % M32 < M32 := Nat.mod_lt _ (by decide)
                    obtain ⟨n, hn, hpos, hnl⟩ := CT.out.val _ hth
                    have ew : wayN c ((c + q) % M32) = q := by unfold wayN M32; omega
                    rw [ew] at hpos
                    have hv : hasG s1 ((c + q) % M32) = decide ((0 : Int) < (n : Int)) := by
                      rw [hh, Bool.eq_iff_iff, decide_eq_true_eq, decide_eq_true_eq, ← hpos]; omega
                    obtain ⟨d, hd⟩ : ∃ d, d = q / 40 := ⟨_, rfl⟩
                    have hdq : (q : Int).tdiv 40 = (d : Int) := by rw [hd]; exact (Int.ofNat_tdiv q 40).symm
                    have hd2 : d ≤ 775 := by omega
                    have t15 := t14.drew
                    have l3 := look_came (t15.map HM.out hXc) hth (IntKind.u32.wrap ((c : Int) + q)) (by rw [wrap_u32]; unfold M32; omega) hn
                    have HV := Lib.hid hv
                    have HN := Lib.hid hn
                    have HD := Lib.hid hd
                    clear hh hpos hnl ew hv hn hd t14
                    go_upto_region 39 with fail
                    go_region_held3 (fun w' => (Instr.lookup 47 (.map (some bc)) (.int .u32 (IntKind.u32.wrap ((c : Int) + q))) false).run Try.prog w' = .ok (.int .i64 (n : Int)) w') (first | exact l3 | exact l4)
                      (first | (go_at_call 19; refine (tx_has t15 _ ((c + q) % M32) (by rw [wrap_u32]; unfold M32; omega) hth).mono ?_; rintro e w4 ⟨rfl, t16⟩; rw [HV.out]; have l4 := look_came (t16.map HM.out hXc) hth (IntKind.u32.wrap ((c : Int) + q)) (by rw [wrap_u32]; unfold M32; omega) HN.out; clear t15))
                    all_goals
                      go_wp2
                      go_roundw
                      case rel => have := HD.out; exact ⟨q + (1 + d), by omega, by omega, by go_num, t16⟩
                      case measure => simp [intOf]; omega
                  · have hsub : ((s1.cum : Int) - c) % 4294967296 = (m : Int) := by
                      rw [CM.out.cum]; unfold M32; omega
                    have hsz : (m : Int) + (s1.ways.length : Int) = (Maps.size D : Int) := by
                      obtain ⟨ks, k1, k2, k3⟩ := CT.out.size
                      have := CM.out.count (fun y hy => (RG.out y hy).1) ks k1 k2
                      rw [k3]; omega
                    go_wp2_with (first
                      | (go_at_call 14; refine (tx_cum t14).mono ?_; rintro e w4 ⟨rfl, rfl⟩; have t15 := t14; clear t14)
                      | (go_at_call 18; refine (tx_len t15).mono ?_; rintro e w5 ⟨rfl, rfl⟩; have t16 := t15; clear t15)
                      | (at_len; refine wpList_len_own _ rfl _ 47 rfl 22 3 Try.underlying47 _ bc _ _ rfl (t16.map HM.out hXc) ?_)
                      | (go_at_call 16; refine (tx_gaps t16).mono ?_; rintro e w6 ⟨z6, rfl, t17, r6, -⟩; clear t16; obtain ⟨a6, c6, rfl⟩ := row_shape r6)
                      | fail)
                    go_ret
                    exact ⟨ret_bool (by simp; omega), t17.be⟩

end Go.Proofs.Ythnmkcofbjgpaaa
