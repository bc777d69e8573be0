/- slices.Insert of one live block: where there is no room; and all its ways. Conditions: the row is the heap's own. -/
import Derived.Test.YtdaklffbfadghaaGreatHpG
namespace Go.Proofs.YtdaklffbfadghaaGreat
open Go.RowKit HP
set_option linter.unusedVariables false
def GrowsTo (g n k : Nat) (xs : List Value) (w : World) (G : Nat) (ROW : List Value) (W1 : World) : Prop :=
  W1.heap[w.heap.size]? = some (.cells ROW.toArray 111 (0, 0)) ∧ ROW.length = G * 2 ∧ ROW.take (k * 2) = xs.take (k * 2) ∧ Q w W1
set_option maxRecDepth 100000 in
theorem grow_run (g n k : Nat) (xs : List Value) (w : World) (h : w.ownsRow 0 111 2 (.slice (some ⟨g, 0, none⟩) n n) n xs) (hn : n ≤ 100) (hk : k < n) :
    ∃ G ROW W1, n + 1 ≤ G ∧ G ≤ 9223372036854775807 ∧ Hid (GrowsTo g n k xs w G ROW W1) ∧ (∀ ty, (Builtin.append_ #[81, 3] ty #[.slice (some ⟨g, 0, none⟩) k n, .int .i64 ((n : Int) + 1 - (k : Int))]).run Tryz.prog w = .ok (.slice (some ⟨w.heap.size, 0, none⟩) (n + 1) G) W1) := by
  obtain ⟨i, z, hi, hz, hsz, hby, hzs⟩ := El_bk.inf
  have hxl := h.1
  have hold : (Builtin.firstCells i.size k (.slice (some ⟨g, 0, none⟩) k n)).run Tryz.prog w.drew = .ok (xs.take (k * 2)).toArray w.drew := by
    rw [hsz]
    refine run_firstCells_some w.drew 2 k ⟨g, 0, none⟩ k n (xs.take (k * 2)) (by rw [List.length_take, hxl]; omega) (fun j v hj => ?_)
    have := h.cells (g := g) rfl j v (by
      rw [List.getElem?_take] at hj
      split at hj
      · exact hj
      · cases hj)
    exact this
  have hkk : (n : Int) + 1 - (k : Int) = ((n + 1 - k : Nat) : Int) := by omega
  have hik : k + (n + 1 - k) = n + 1 := by omega
  have hr := fun ty => Lib.run_append_grow_zeros (P := Tryz.prog) w 81 3 ty 111 i z .i64 .i64 Tryz.underlying81 Tryz.underlying3 hi hz (some ⟨g, 0, none⟩) k n (xs.take (k * 2)) hold (n + 1 - k) (by omega) (by omega) (by omega) (by omega) (by rw [hby]; omega) (by rw [hby, hik]; exact growslice_fits (by omega) (by omega))
  rw [hik] at hr
  refine ⟨grownCap w (n + 1) n 111, xs.take (k * 2) ++ ((Builtin.zeroCells z.cells (n + 1 - k)).toList ++ (Builtin.zeroCells z.cells (grownCap w (n + 1) n 111 - (n + 1))).toList), _, grownCap_ge _ _ _ _, ?_, ?_, fun ty => by rw [hkk]; exact hr ty⟩
  · have := grownCap_le_maxLen w (n + 1) n 111 (by unfold maxLen; omega)
    unfold maxLen at this
    omega
  · refine hide ⟨?_, ?_, ?_, ((Q.refl w).drew).alloc _⟩
    · rw [show w.heap.size = w.drew.heap.size from rfl, heap_alloc_new]
      congr 2
      apply Array.ext'
      simp
    · have := grownCap_ge w (n + 1) n 111
      simp only [List.length_append, List.length_take, Array.length_toList, size_zeroCells, hzs, hxl]
      omega
    · rw [List.take_left' (by rw [List.length_take, hxl]; omega)]
set_option maxHeartbeats 4000000 in
set_option maxRecDepth 100000 in
/-- before one of them, where there is no room: a new row -/
theorem insert_grow (g n k vb : Nat) (xs : List Value) (p q : Value) (w : World) (h : w.ownsRow 0 111 2 (.slice (some ⟨g, 0, none⟩) n n) n xs) (hn : n ≤ 100) (hk : k < n) (hv : w.heap[vb]? = some (.cells #[p, q] 111 (0, 0))) (hp : p.oneCell' = true) (hq : q.oneCell' = true) (hx1 : ∀ u ∈ xs, u.oneCell' = true) :
    Calls Tryz.prog 97 #[.slice (some ⟨g, 0, none⟩) n n, .int .i64 (k : Int), .slice (some ⟨vb, 0, none⟩) 1 1] w (InsPost (.slice (some ⟨g, 0, none⟩) n n) n k xs [p, q] w) := by
  have hni : (n : Int) ≤ 100 := by omega
  have hki : (k : Int) < (n : Int) := by omega
  obtain ⟨G, ROW, W1, hG1, hG2, HGT, hrz⟩ := grow_run g n k xs w h hn hk
  have HRZ := hide hrz
  have hxl := h.1
  have hgl : g < w.heap.size := (h.lt g rfl).2
  have hvl := blk_lt hv
  have hxd : (xs.drop (k * 2)).length = (n - k) * 2 := by rw [List.length_drop, hxl]; omega
  have HXD := hide hxd
  have HXL := hide hxl
  have HRL := hide HGT.out.2.1
  have HMV : Hid (∀ W : World, (∀ b, b < w.heap.size → W.heap[b]? = w.heap[b]?) → ∀ j v, (xs.drop (k * 2))[j]? = some v → W.cell? ((⟨g, k * 2, none⟩ : Addr).add j) = some v) := fun W hW j v hj => by
    rw [addr_add]
    rw [List.getElem?_drop] at hj
    have := h.cells (g := g) rfl (k * 2 + j) v hj
    rw [addr_add, Nat.zero_add] at this
    rw [← this]
    exact World.cell?_of_block (w := w) (hW g hgl)
  have HM1 : Hid (∀ v ∈ xs.drop (k * 2), v.oneCell' = true) := fun v hv => hx1 v (List.mem_of_mem_drop hv)
  have HV1 : Hid (∀ v ∈ [p, q], v.oneCell' = true) := fun u hu => by
    simp at hu
    rcases hu with rfl | rfl
    · exact hp
    · exact hq
  have HVS : Hid (∀ W : World, (∀ b, b < w.heap.size → W.heap[b]? = w.heap[b]?) → ∀ j v, [p, q][j]? = some v → W.cell? ((⟨vb, 0, none⟩ : Addr).add j) = some v) := fun W hW j v hj => by
    rw [addr_add, cell_of_row _ _ _ _ _ _ ((hW vb hvl).trans hv), Nat.zero_add, ← hj]
    simp
  have HW1 : Hid (∀ b, b < w.heap.size → W1.heap[b]? = w.heap[b]?) := fun b hb => HGT.out.2.2.2.below.block b hb
  have HROW := hide (ins_row' ROW xs [p, q] (k * 2) HGT.out.2.2.1 (by rw [hxl]; omega) (by rw [hxl, HRL.out]; simp; omega))
  have HQ := hide HGT.out.2.2.2
  have HH := hide HGT.out.1
  have hb1 : (0 : Int) ≤ (k : Int) + 1 := by omega
  have hb2 : ¬ (G = k + 1) := by omega
  have hb3 : ¬ (G = k) := by omega
  have hb4 : ¬ (n = k) := by omega
  have hkn : k ≤ n := by omega
  have hb5 : (k : Int) + 1 ≤ (n : Int) + 1 := by omega
  have hb6 : (k : Int) ≤ (n : Int) + 1 := by omega
  have hz2 : ¬ ((k : Int) = (n : Int)) := by omega
  have htn : ((k : Int) + 1).toNat = k + 1 := by omega
  have hw1 : IntKind.i64.wrap ((k : Int) + 1) = (k : Int) + 1 := by rw [IntKind.wrap_i64]; omega
  clear h hxl hxd hx1 hv hp hq hrz HGT
  go_enter Tryz.func97, Tryz.ntmps97
  go_wp2_with (first | (at_builtin; refine Lib.wpList_append_run _ rfl _ _ _ _ rfl _ _ rfl rfl _ _ (HRZ.out _) ?_) | ((with_reducible show wpList _ _ _ _ _ _); (refine wpList_copyk rfl (.tmp 43) (.tmp 44) El_bk rfl w.heap.size (k * 2) (n + 1 - k) (G - k) 1 1 1 (some ⟨w.heap.size, k * 2, none⟩) _ rfl rfl ROW 111 [p, q] HH.out (by simp only [Nat.min_def]; split <;> omega) rfl (fun _ => ⟨rfl, _, rfl, HVS.out _ HW1.out⟩) (by rw [HRL.out]; simp; omega) HV1.out ?_); intro w7 HG7 hgr7 hs7; have HGR7 := hide hgr7; have HW7 : Hid (∀ b, b < w.heap.size → w7.heap[b]? = w.heap[b]?) := (fun b hb => (hgr7.block b (by have := HQ.out.size; omega) (fun e => by have := Option.some.inj e; omega)).trans (HW1.out b hb)); clear hgr7))
  go_region_law (refine step_copyk rfl (.tmp 50) (.tmp 53) El_bk rfl w.heap.size (k * 2 + 2) (n + 1 - (k + 1)) (G - (k + 1)) (n - k) (n - k) (n - k) (some ⟨w.heap.size, (k + 1) * 2, none⟩) (some ⟨g, k * 2, none⟩) (by simp [Act.eval, Act.put]) (by simp [Act.eval, Act.put]) _ 111 (xs.drop (k * 2)) HG7.out (by simp only [Nat.min_def]; split <;> omega) HXD.out (fun _ => ⟨by rw [show (k + 1) * 2 = k * 2 + 2 by omega], _, rfl, HMV.out _ HW7.out⟩) (by rw [HXD.out, splice_len _ _ _ (by rw [HRL.out]; simp; omega), HRL.out]; omega) HM1.out ?_; intro w6 HG6 hgr6 hs6; have HGR6 := hide hgr6; clear hgr6)
  go_wp2_with fail
  go_ret
  have HQ6 : Q w w6 := by
    have h1 := HQ.out.size
    refine q_below (B := w.heap.size) (q_below (B := w.heap.size) HQ.out ⟨HGR7.out.os, HGR7.out.tape, HGR7.out.output, HGR7.out.size, fun i hi => HGR7.out.block i (by omega) (fun e => by have := Option.some.inj e; omega)⟩ (Nat.le_refl _)) (w' := w6) ⟨HGR6.out.os, HGR6.out.tape, HGR6.out.output, HGR6.out.size, fun i hi => HGR6.out.block i (by have h2 : w7.drew.heap.size = w7.heap.size := rfl; omega) (fun e => by have := Option.some.inj e; omega)⟩ (Nat.le_refl _)
  refine ⟨_, rfl, ⟨?_, .inr ⟨w.heap.size, G, _, rfl, Nat.zero_le _, HG6.out, by omega, by unfold maxLen; omega, ?_, ?_⟩⟩, grown_of_q HQ6, fun b hb => .inr (by cases hb; exact Nat.le_refl _)⟩
  · rw [insAt_len _ _ _ (by rw [HXL.out]; omega), HXL.out]
    simp
    omega
  · rw [List.size_toArray, splice_len, splice_len, HRL.out]
    · rw [HRL.out]; simp; omega
    · rw [splice_len, HRL.out]
      · rw [HXD.out]; omega
      · rw [HRL.out]; simp; omega
  · rw [← HROW.out, HXL.out]
    simp
    congr 1
    omega
theorem insert_any (A : Option Addr) (n c k vb : Nat) (xs : List Value) (p q : Value) (w : World) (h : w.ownsRow 0 111 2 (.slice A n c) n xs) (hn : n ≤ 100) (hk : k ≤ n) (hv : w.heap[vb]? = some (.cells #[p, q] 111 (0, 0))) (hne : (Value.slice A n c).ownBlock ≠ some vb) (hp : p.oneCell' = true) (hq : q.oneCell' = true) (hx1 : ∀ u ∈ xs, u.oneCell' = true) :
    Calls Tryz.prog 97 #[.slice A n c, .int .i64 (k : Int), .slice (some ⟨vb, 0, none⟩) 1 1] w (InsPost (.slice A n c) n k xs [p, q] w) := by
  have hcA : A = none → c = 0 ∧ n = 0 := fun e => by
    subst e
    rcases h.2 with ⟨h1, h2⟩ | ⟨g, cap, cur, h1, _⟩
    · cases h1; exact ⟨rfl, h2⟩
    · cases h1
  by_cases hkn : k = n
  · subst hkn
    exact insert_end A k c vb xs p q w h hn (fun e => (hcA e).1) hv hp hq
  · cases A with
    | none => have := (hcA rfl).2; omega
    | some ad =>
      have hA : ∃ g, ad = ⟨g, 0, none⟩ := by
        rcases h.2 with ⟨h1, _⟩ | ⟨g, cap, cur, h1, _⟩
        · cases h1
        · cases h1; exact ⟨g, rfl⟩
      obtain ⟨g, rfl⟩ := hA
      obtain ⟨_, _, e, hnc, _⟩ := own_form h
      cases e
      by_cases hc : n = c
      · subst hc
        exact insert_grow g n k vb xs p q w h hn (by omega) hv hp hq hx1
      · exact insert_room g n c k vb xs p q w h hn (by omega) (by omega) hv (fun e => hne (by rw [e]; rfl)) hp hq hx1
end Go.Proofs.YtdaklffbfadghaaGreat
