/- slices.Delete of one live block. Conditions: the row is the heap's own. -/
import Derived.Test.YtdaklffbfadghaaGreatHpH
namespace Go.Proofs.YtdaklffbfadghaaGreat
open Go.RowKit HP
set_option linter.unusedVariables false
/-- a list without m from place i on -/
def delAt {α : Type} (xs : List α) (i m : Nat) : List α := xs.take i ++ xs.drop (i + m)
theorem delAt_get {α : Type} (xs : List α) (i m : Nat) (h : i ≤ xs.length) (j : Nat) : (delAt xs i m)[j]? = if j < i then xs[j]? else xs[j + m]? := by
  unfold delAt
  have h1 : (xs.take i).length = i := by rw [List.length_take]; omega
  by_cases c1 : j < i
  · rw [if_pos c1, List.getElem?_append_left (by omega), List.getElem?_take, if_pos c1]
  · rw [if_neg c1, List.getElem?_append_right (by omega), h1, List.getElem?_drop]
    congr 1
    omega
theorem delAt_len {α : Type} (xs : List α) (i m : Nat) (h : i + m ≤ xs.length) : (delAt xs i m).length = xs.length - m := by
  unfold delAt
  simp only [List.length_append, List.length_take, List.length_drop]
  omega
theorem del_row {α : Type} (cur xs zs : List α) (i m : Nat) (hx : cur.take xs.length = xs) (hi : i + m ≤ xs.length) (hl : xs.length ≤ cur.length) (hz : zs.length = m) :
    (splice (splice cur i (xs.drop (i + m))) (xs.length - m) zs).take (xs.length - m) = delAt xs i m := by
  have hd : (xs.drop (i + m)).length = xs.length - (i + m) := List.length_drop
  have f1 : i + (xs.drop (i + m)).length ≤ cur.length := by omega
  have f2 : xs.length - m + zs.length ≤ (splice cur i (xs.drop (i + m))).length := by rw [splice_len _ _ _ f1]; omega
  have hcx : ∀ j, j < xs.length → cur[j]? = xs[j]? := fun j hj => by
    conv => rhs; rw [← hx]
    rw [List.getElem?_take, if_pos hj]
  apply List.ext_getElem?
  intro j
  rw [delAt_get xs i m (by omega), List.getElem?_take]
  by_cases c0 : j < xs.length - m
  · rw [if_pos c0, splice_get _ _ _ f2, if_pos c0, splice_get _ _ _ f1]
    by_cases c1 : j < i
    · rw [if_pos c1, if_pos c1, hcx j (by omega)]
    · rw [if_neg c1, if_neg c1, if_pos (by omega), List.getElem?_drop]
      congr 1
      omega
  · rw [if_neg c0, if_neg (by omega), List.getElem?_eq_none (by omega)]
def DelPost (v : Value) (n k : Nat) (xs : List Value) (w : World) (e : Ending) (w' : World) : Prop :=
  ∃ v', e = .returned v' ∧ v'.ownBlock = v.ownBlock ∧ w'.ownsRow 0 111 2 v' (n - 1) (delAt xs (k * 2) 2) ∧ w.grownBy w' v.ownBlock
set_option maxHeartbeats 4000000 in
set_option maxRecDepth 100000 in
theorem delete_any (A : Option Addr) (n c k : Nat) (xs : List Value) (w : World) (h : w.ownsRow 0 111 2 (.slice A n c) n xs) (hn : n ≤ 100) (hk : k < n) (hx1 : ∀ u ∈ xs, u.oneCell' = true) :
    Calls Tryz.prog 139 #[.slice A n c, .int .i64 (k : Int), .int .i64 ((k : Int) + 1)] w (DelPost (.slice A n c) n k xs w) := by
  have hni : (n : Int) ≤ 100 := by omega
  have hki : (k : Int) < (n : Int) := by omega
  obtain ⟨g, cap, cur, he, -, hh, hnc, hcm, hcs, htk⟩ : ∃ g' cap cur, Value.slice A n c = .slice (some ⟨g', 0, none⟩) n cap ∧ 0 ≤ g' ∧ w.heap[g']? = some (.cells cur 111 (0, 0)) ∧ n ≤ cap ∧ cap ≤ maxLen ∧ cur.size = cap * 2 ∧ cur.toList.take (n * 2) = xs := by
    rcases h.2 with ⟨h1, h2⟩ | h1
    · omega
    · exact h1
  cases he
  have hxl := h.1
  have hcm' := hcm
  unfold maxLen at hcm'
  have HH : Hid (w.drew.heap[g]? = some (.cells cur.toList.toArray 111 (0, 0))) := by rw [Array.toArray_toList]; exact hh
  have hcl : cur.toList.length = c * 2 := by simpa using hcs
  have hxd : (xs.drop ((k + 1) * 2)).length = (n - (k + 1)) * 2 := by rw [List.length_drop, hxl]; omega
  have HXD := hide hxd
  have HCL := hide hcl
  have HXL := hide hxl
  have HTK := hide htk
  obtain ⟨ad, had, HMV⟩ : ∃ ad : Addr, (if c = k + 1 then some (⟨g, 0, none⟩ : Addr) else some ⟨g, (k + 1) * 2, none⟩) = some ad ∧ Hid (∀ j v, (xs.drop ((k + 1) * 2))[j]? = some v → w.drew.cell? (ad.add j) = some v) := by
    by_cases h1 : c = k + 1
    · refine ⟨⟨g, 0, none⟩, by rw [if_pos h1], fun j v hj => ?_⟩
      have := (List.getElem?_eq_some_iff.1 hj).1
      rw [hxd] at this
      omega
    · refine ⟨⟨g, (k + 1) * 2, none⟩, by rw [if_neg h1], fun j v hj => ?_⟩
      rw [addr_add]
      show w.cell? _ = _
      rw [cell_of_row _ _ _ _ _ _ hh, ← hj, List.getElem?_drop, ← htk, List.getElem?_take, Array.getElem?_toList, if_pos]
      have := (List.getElem?_eq_some_iff.1 hj).1
      rw [hxd] at this
      omega
  have HM1 : Hid (∀ v ∈ xs.drop ((k + 1) * 2), v.oneCell' = true) := fun v hv => hx1 v (List.mem_of_mem_drop hv)
  have HCM := hide hcm
  have hb1 : (0 : Int) ≤ (k : Int) + 1 := by omega
  have hb3 : (k : Int) + 1 ≤ (n : Int) := by omega
  have hb4 : (k : Int) ≤ (k : Int) + 1 := by omega
  have hb5 : (n : Int) ≤ (c : Int) := by omega
  have hb6 : (k : Int) + 1 ≤ (c : Int) := by omega
  have hb7 : k ≤ c := by omega
  have hz2 : ¬ ((k : Int) = (k : Int) + 1) := by omega
  have hz3 : ((k : Int) == (k : Int) + 1) = false := by simpa using hz2
  have htn : ((k : Int) + 1).toNat = k + 1 := by omega
  have hkn : k + (n - (k + 1)) = n - 1 := by omega
  clear h hh hcs htk hcl hxl hxd hx1 hcm
  go_enter Tryz.func139, Tryz.ntmps139
  go_wp2_with fail
  go_region_law (refine step_appk rfl (.tmp 22) (.tmp 25) El_bk rfl g 0 k c (n - (k + 1)) (c - (k + 1)) ad (by simp [Act.eval, Act.put]) (by simp [Act.eval, Act.put]) cur.toList 111 (xs.drop ((k + 1) * 2)) HH.out HXD.out HMV.out HM1.out (by omega) (by rw [HXD.out, HCL.out]; omega) ?_; intro w6 HG6 hgr6 hs6; rw [hkn]; have HGR6 := hide hgr6; clear hgr6)
  have hcl : ∀ ty, (Builtin.clear_ #[81] ty #[.slice (some ⟨g, (n - 1) * 2, none⟩) 1 (c - (n - 1))]).run Tryz.prog w6 = .ok (.tuple #[]) (w6.setRow g (splice (splice cur.toList (0 + k * 2) (xs.drop ((k + 1) * 2))).toArray.toList ((n - 1) * 2) (Builtin.zeroCells (Value.agg #[.int .i64 0, .slice none 0 0]).cells 1).toList).toArray) := fun ty =>
    run_cleark El_bk Tryz.zeroValue111 rfl (by intro v hv; simp [Value.cells] at hv; rcases hv with rfl | rfl <;> simp [Value.oneCell']) ty g ((n - 1) * 2) 1 (c - (n - 1)) (by omega) _ _ HG6.out (by rw [List.size_toArray, splice_len, HCL.out] <;> (try rw [HXD.out, HCL.out]) <;> omega)
  obtain ⟨w7, hw7⟩ : ∃ w7, w6.setRow g (splice (splice cur.toList (0 + k * 2) (xs.drop ((k + 1) * 2))).toArray.toList ((n - 1) * 2) (Builtin.zeroCells (Value.agg #[.int .i64 0, .slice none 0 0]).cells 1).toList).toArray = w7 := ⟨_, rfl⟩
  rw [hw7] at hcl
  have HW7 := hide hw7
  clear hw7
  have hb8 : ¬ (c = n - 1) := by omega
  have hb9 : n - (n - 1) = 1 := by omega
  have hb10 : (((n - 1 : Nat) : Int)) ≤ (n : Int) := by omega
  have hb11 : n - 1 ≤ n := by omega
  go_wp2_with fail
  go_ret
  have hz : (Builtin.zeroCells (Value.agg #[.int .i64 0, .slice none 0 0]).cells 1).toList.length = 2 := by rw [Array.length_toList, size_zeroCells]; rfl
  refine ⟨_, rfl, rfl, ⟨?_, .inr ⟨g, c, _, rfl, Nat.zero_le _, by rw [← HW7.out]; exact setRow_heap w6 g _ _ _ _ HG6.out, by omega, HCM.out, ?_, ?_⟩⟩, grown_trans (grown_trans (grown_drew (grown_refl _ _)) HGR6.out) (by rw [← HW7.out]; exact grown_setRow _ _ _)⟩
  · rw [delAt_len _ _ _ (by rw [HXL.out]; omega), HXL.out]
    omega
  · rw [List.size_toArray, splice_len]
    · show (splice cur.toList (0 + k * 2) (xs.drop ((k + 1) * 2))).length = _
      rw [splice_len, HCL.out]
      rw [HXD.out, HCL.out]
      omega
    · rw [hz]
      show _ ≤ (splice cur.toList (0 + k * 2) (xs.drop ((k + 1) * 2))).length
      rw [splice_len, HCL.out]
      · omega
      · rw [HXD.out, HCL.out]
        omega
  · have := del_row cur.toList xs (Builtin.zeroCells (Value.agg #[.int .i64 0, .slice none 0 0]).cells 1).toList (k * 2) 2 (by rw [HXL.out]; exact HTK.out) (by rw [HXL.out]; omega) (by rw [HXL.out, HCL.out]; omega) hz
    rw [HXL.out] at this
    rw [← this, Nat.zero_add, show (n - 1) * 2 = n * 2 - 2 by omega, show (k + 1) * 2 = k * 2 + 2 by omega]
end Go.Proofs.YtdaklffbfadghaaGreat
