/- The walks of slices.IsSorted, slices.Concat of two lists, and of the reference's rises. Conditions: the slices read as lists. -/
import Derived.Test.YtfiopjgpokdnoaaPackOk
import Derived.Lib.AppendZeros
namespace Go.Proofs.Ytfiopjgpokdnoaa
open Go.RowKit PO
set_option linter.unusedVariables false
/-- no element stands before a smaller one -/
def adjB (ls : List Int) : Bool := (List.range (ls.length - 1)).all fun i => decide (ls.getD i 0 ≤ ls.getD (i + 1) 0)
theorem adjB_false {ls : List Int} {i : Nat} (h : i + 1 < ls.length) (hl : ls.getD (i + 1) 0 < ls.getD i 0) : adjB ls = false := by
  unfold adjB
  rw [List.all_eq_false]
  exact ⟨i, by simp; omega, by simp [-List.getD_eq_getElem?_getD]; omega⟩
theorem adjB_true {ls : List Int} (h : ∀ i, i + 1 < ls.length → ls.getD i 0 ≤ ls.getD (i + 1) 0) : adjB ls = true := by
  unfold adjB
  rw [List.all_eq_true]
  intro i hi
  simp at hi
  exact decide_eq_true (h i (by omega))
theorem adjB_pair {ls : List Int} (h : adjB ls = true) : ls.Pairwise (· ≤ ·) := by
  unfold adjB at h
  rw [List.all_eq_true] at h
  have h1 : ∀ i, i + 1 < ls.length → ls.getD i 0 ≤ ls.getD (i + 1) 0 := fun i hi => of_decide_eq_true (h i (by simp; omega))
  have h2 : ∀ j i, i < j → j < ls.length → ls.getD i 0 ≤ ls.getD j 0 := by
    intro j
    induction j with
    | zero => intro i hi; omega
    | succ j ih =>
      intro i hi hj
      have h3 := h1 j hj
      by_cases e : i = j
      · subst e; exact h3
      · exact Int.le_trans (ih i (by omega) (by omega)) h3
  rw [List.pairwise_iff_getElem]
  intro i j hi hj hij
  have := h2 j i hij hj
  simpa [List.getD, List.getElem?_eq_getElem hi, List.getElem?_eq_getElem hj] using this
set_option maxHeartbeats 1000000 in
theorem isSorted_any (A : Option Addr) (n c : Nat) (ls : List Int) (w : World) (h : Sl 1 (encI .i64) w A n c ls) (hn : n ≤ 100000) :
    Calls Try.prog 60 #[.slice A n c] w fun e w' => e = .returned (.bool (adjB ls)) ∧ Q w w' := by
  have hl := h.len
  have H := hide h
  have HL := hide hl
  have hni : (n : Int) ≤ 100000 := by omega
  clear h hl
  go_enter Try.func60, Try.ntmps60
  go_wp2_with fail
  go_loopw [3] (fun vi wr => ∃ m : Nat, m ≤ n ∧ vi = .int .i64 ((m : Int) - 1) ∧ (∀ j, m ≤ j + 1 → j + 1 < n → ls.getD j 0 ≤ ls.getD (j + 1) 0) ∧ Q w wr) (fun vi _ => (intOf vi).toNat)
  case atStart => exact ⟨n, by omega, rfl, fun j h1 h2 => by omega, Q.refl _⟩
  case round =>
    obtain ⟨m, hm, rfl, hall, hq⟩ := hrel
    have HALL := hide hall
    clear hall
    have hsz := hq.size
    by_cases h2 : 2 ≤ m
    · obtain ⟨p, rfl⟩ : ∃ p, m = p + 2 := ⟨m - 2, by omega⟩
      rw [show (((p + 2 : Nat) : Int) - 1) = (p : Int) + 1 by omega]
      have d1 : decide ((0 : Int) < (p : Int) + 1) = true := by simp <;> omega
      have hp1 : (p : Int) + 1 < (n : Int) := by omega
      have hp2 : (p : Int) < (n : Int) := by omega
      have hp3 : p + 1 < n := by omega
      obtain ⟨b1, o1, x, rfl, hb1, g1, k1⟩ := (H.out.up hq).get1 encI_one p (by omega)
      obtain ⟨b2, o2, y, e2, hb2, g2, k2⟩ := (H.out.up hq).get1 encI_one (p + 1) (by omega)
      cases e2
      have g1 : ls.getD p 0 = x := by simp [List.getD, g1]
      have g2 : ls.getD (p + 1) 0 = y := by simp [List.getD, g2]
      have G1 := hide g1
      have G2 := hide g2
      clear g1 g2
      cases hl : ltI y x
      · have HLT := hide hl
        have LE := hide (fun W => hl ▸ lessI y x W)
        clear hl
        go_wp2_with fail
        have hxc := ext_cell
        refine wp_region_ext (by kernel_rfl) (by kernel_rfl) ?_
        repeat (go_big_quiet_step (((go_at_call 50; exact ext_call' (LE.out _)))))
        clear hxc
        refine wpQuiet_nil ?_
        intro wz hwwz
        have hqwz := q_of_ext hwwz
        clear hwwz
        obtain ⟨hcwz, hfwz, hzwz⟩ := hqwz.facts
        try simp at hzwz
        try have hs0wz : w.heap.size < wz.heap.size := by omega
        try have hs1wz : w.heap.size + 1 < wz.heap.size := by omega
        clear hcwz hfwz k1 k2
        go_wp2_with fail
        refine ⟨⟨p + 1, by omega, by show Value.int _ _ = Value.int _ _; congr 1; omega, fun j h1 h3 => ?_, hq.trans hqwz⟩, by simp only [intOf]; omega⟩
        by_cases e : j = p
        · subst e
          rw [G1.out, G2.out]
          have := HLT.out
          simp [ltI] at this
          exact this
        · exact HALL.out j (by omega) h3
      · have hf : adjB ls = false := adjB_false (i := p) (by have := HL.out; omega) (by rw [G1.out, G2.out]; simpa [ltI] using hl)
        have HF := hide hf
        have LE := hide (fun W => hl ▸ lessI y x W)
        clear hf hl
        go_wp2_with fail
        have hxc := ext_cell
        refine wp_region_ext (by kernel_rfl) (by kernel_rfl) ?_
        repeat (go_big_quiet_step (((go_at_call 50; exact ext_call' (LE.out _)))))
        clear hxc
        refine wpQuiet_nil ?_
        intro wz hwwz
        have hqwz := q_of_ext hwwz
        clear hwwz
        obtain ⟨hcwz, hfwz, hzwz⟩ := hqwz.facts
        try simp at hzwz
        try have hs0wz : w.heap.size < wz.heap.size := by omega
        try have hs1wz : w.heap.size + 1 < wz.heap.size := by omega
        clear hcwz hfwz k1 k2
        go_wp2_with fail
        go_ret
        exact ⟨ret_bool HF.out.symm, hq.trans hqwz⟩
    · have d1 : decide ((0 : Int) < (m : Int) - 1) = false := by simp <;> omega
      have hf : adjB ls = true := adjB_true (fun i hi => HALL.out i (by omega) (by have := HL.out; omega))
      have HF := hide hf
      have d2 : decide ((1 : Int) < (m : Int)) = false := by simp <;> omega
      have d3 : decide (1 < m) = false := by simp <;> omega
      clear hf
      go_wp2_with fail
      go_ret
      exact ⟨ret_bool HF.out.symm, hq⟩
set_option maxHeartbeats 1000000 in
theorem rises_any (A : Option Addr) (n c : Nat) (ls : List Int) (w : World) (h : Sl 1 (encI .i64) w A n c ls) (hn : n ≤ 100000) :
    Calls Try.prog 62 #[.slice A n c] w fun e w' => e = .returned (.bool (adjB ls)) ∧ Q w w' := by
  have hl := h.len
  have H := hide h
  have HL := hide hl
  have hni : (n : Int) ≤ 100000 := by omega
  clear h hl
  go_enter Try.func62, Try.ntmps62
  go_wp2_with fail
  go_loopw [3] (fun vi wr => ∃ m : Nat, vi = .int .i64 ((m : Int) + 1) ∧ (m + 1 ≤ n ∨ m = 0) ∧ (∀ j, j < m → j + 1 < n → ls.getD j 0 ≤ ls.getD (j + 1) 0) ∧ Q w wr) (fun vi _ => n + 1 - (intOf vi).toNat)
  case atStart => exact ⟨0, by go_num, .inr rfl, fun j h1 => by omega, Q.refl _⟩
  case round =>
    obtain ⟨m, rfl, hm, hall, hq⟩ := hrel
    have HALL := hide hall
    clear hall
    have hsz := hq.size
    by_cases h2 : m + 1 < n
    · have d1 : decide ((m : Int) + 1 < (n : Int)) = true := by simp <;> omega
      have hp1 : (m : Int) + 1 < (n : Int) := by omega
      have hp2 : (m : Int) < (n : Int) := by omega
      obtain ⟨b1, o1, x, rfl, hb1, g1, k1⟩ := (H.out.up hq).get1 encI_one m (by omega)
      obtain ⟨b2, o2, y, e2, hb2, g2, k2⟩ := (H.out.up hq).get1 encI_one (m + 1) (by omega)
      cases e2
      have g1 : ls.getD m 0 = x := by simp [List.getD, g1]
      have g2 : ls.getD (m + 1) 0 = y := by simp [List.getD, g2]
      have G1 := hide g1
      have G2 := hide g2
      clear g1 g2 hm
      by_cases hl : y < x
      · have dl : decide (y < x) = true := by simpa using hl
        have hf : adjB ls = false := adjB_false (i := m) (by have := HL.out; omega) (by rw [G1.out, G2.out]; exact hl)
        have HF := hide hf
        clear hf hl
        go_wp2_with fail
        have hxc := ext_cell
        refine wp_region_ext (by kernel_rfl) (by kernel_rfl) ?_
        repeat (go_big_quiet_step ((fail)))
        clear hxc
        refine wpQuiet_nil ?_
        intro wz hwwz
        have hqwz := q_of_ext hwwz
        clear hwwz
        obtain ⟨hcwz, hfwz, hzwz⟩ := hqwz.facts
        try simp at hzwz
        try have hs0wz : w.heap.size < wz.heap.size := by omega
        try have hs1wz : w.heap.size + 1 < wz.heap.size := by omega
        clear hcwz hfwz k1 k2
        go_wp2_with fail
        go_ret
        exact ⟨ret_bool HF.out.symm, hq.trans hqwz⟩
      · have dl : decide (y < x) = false := by simpa using hl
        have HLE := hide (show x ≤ y by omega)
        clear hl
        go_wp2_with fail
        have hxc := ext_cell
        refine wp_region_ext (by kernel_rfl) (by kernel_rfl) ?_
        repeat (go_big_quiet_step ((fail)))
        clear hxc
        refine wpQuiet_nil ?_
        intro wz hwwz
        have hqwz := q_of_ext hwwz
        clear hwwz
        obtain ⟨hcwz, hfwz, hzwz⟩ := hqwz.facts
        try simp at hzwz
        try have hs0wz : w.heap.size < wz.heap.size := by omega
        try have hs1wz : w.heap.size + 1 < wz.heap.size := by omega
        clear hcwz hfwz k1 k2
        go_wp2_with fail
        go_roundw
        case rel => exact ⟨m + 1, by first | rfl | (show Value.int _ _ = Value.int _ _; congr 1 <;> omega), .inl (by omega), fun j h1 h3 => by
          by_cases e : j = m
          · subst e
            rw [G1.out, G2.out]
            exact HLE.out
          · exact HALL.out j (by omega) h3, hq.trans hqwz⟩
        case measure => simp only [intOf]; omega
    · have d1 : decide ((m : Int) + 1 < (n : Int)) = false := by simp <;> omega
      have hf : adjB ls = true := adjB_true (fun i hi => HALL.out i (by have := HL.out; omega) (by have := HL.out; omega))
      have HF := hide hf
      clear hf hm
      go_wp2_with fail
      go_ret
      exact ⟨ret_bool HF.out.symm, hq⟩
/-- room for k more, out of nothing -/
theorem growI (k : Nat) (w : World) (hk : k ≤ 100000) : Calls Try.prog 67 #[.slice none 0 0, .int .i64 (k : Nat)] w fun e w' => ∃ v, e = .returned v ∧ w'.ownsRow w.heap.size 3 1 v 0 [] ∧ Q w w' := by
  have d0 : decide ((k : Int) < 0) = false := by simp <;> omega
  rcases Nat.eq_zero_or_pos k with rfl | h0
  · go_enter Try.func67, Try.ntmps67
    go_wp2_with fail
    go_ret
    exact ⟨_, rfl, World.ownsRow_nil _ _ _ _, Q.refl _⟩
  · have d1 : decide ((0 : Int) < (k : Int)) = true := by simp <;> omega
    have d2 : decide (0 < k) = true := by simp <;> omega
    obtain ⟨i0, hi, hz0, hz1, hz2⟩ := i64_info_parts (P := Try.prog) (t := 3) (by kernel_rfl)
    have hr := fun W => Lib.run_append_nil_zeros (P := Try.prog) W 42 3 42 3 i0 (.int .i64 0) .i64 .i64 Try.underlying42 Try.underlying3 hi hz0 k h0 (by omega) (by omega) (by rw [hz2]; omega)
    have hg := grownCap_le_maxLen w k 0 3 (by unfold maxLen; omega)
    have hge := grownCap_ge w k 0 3
    obtain ⟨cc, hcc⟩ : ∃ cc, grownCap w k 0 3 = cc := ⟨_, rfl⟩
    have hr0 := hr w
    rw [hcc] at hr0 hg hge
    obtain ⟨C, hC⟩ : ∃ C, Builtin.zeroCells (Value.int .i64 0).cells k ++ Builtin.zeroCells (Value.int .i64 0).cells (cc - k) = C := ⟨_, rfl⟩
    have hCs : C.size = cc := by rw [← hC]; simp [Builtin.zeroCells, Value.cells]; omega
    rw [hC] at hr0
    unfold maxLen at hg
    have hgi : (cc : Int) ≤ 9223372036854775807 := by omega
    have HC := hide hCs
    have HR0 := hide hr0
    clear hr hcc hC hCs hi hz0 hz1 hz2 hr0
    go_enter Try.func67, Try.ntmps67
    go_wp2_with (at_builtin; refine Lib.wpList_append_run _ rfl _ _ 42 3 rfl _ _ rfl rfl _ _ HR0.out ?_)
    go_ret
    refine ⟨_, rfl, ?_, ((Q.refl w).drew).alloc _⟩
    exact World.ownsRow_made w.drew C cc (Nat.le_refl _) (by unfold maxLen; omega) (by rw [HC.out, Nat.mul_one])
end Go.Proofs.Ytfiopjgpokdnoaa
