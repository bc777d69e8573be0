/- The walk of slices.Equal on bytes. Conditions: the two read as bytes. -/
import Derived.Test.YtiilkiggfjpibaaLinkVa
namespace Go.Proofs.Ytiilkiggfjpibaa
open Go.RowKit LK
set_option linter.unusedVariables false
set_option linter.unusedSimpArgs false
set_option maxRecDepth 100000 in
set_option maxHeartbeats 1000000 in
theorem EqualB_any (l m : SlV Int) (w : World) (hl : B8 w l) (hm : B8 w m) : Calls Try.prog 50 #[l.val, m.val] w fun e w' => e = .returned (.bool (decide (l.xs = m.xs))) ∧ Q w w' := by
  obtain ⟨lA, ln, lc, xs⟩ := l
  obtain ⟨mA, mn, mc, ys⟩ := m
  unfold SlV.val
  dsimp only
  have hl1 := hl.sl.len
  have hl2 := hl.sl.cap
  have hl3 := hl.sl.most
  have hm1 := hm.sl.len
  have hm2 := hm.sl.cap
  have hm3 := hm.sl.most
  dsimp only at hl1 hl2 hl3 hm1 hm2 hm3
  have hli : (ln : Int) ≤ 9223372036854775807 := by omega
  have hmi : (mn : Int) ≤ 9223372036854775807 := by omega
  have HB := hide hl
  have HC := hide hm
  have HL := hide hl1
  have HM := hide hm1
  clear hl hm hl1 hm1
  clear hl2 hl3 hm2 hm3
  by_cases he : ln = mn
  · subst he
    have hd2 : ((ln : Int) != (ln : Int)) = false := by simp
    go_enter Try.func50, Try.ntmps50
    go_wp2_with fail
    clear hd2
    go_loopw [13] (fun vi wr => ∃ k : Nat, k ≤ ln ∧ vi = .int .i64 k ∧ Q w wr ∧ ∀ i, i < k → xs[i]? = ys[i]?) (fun vi _ => ln - (intOf vi).toNat)
    case atStart => exact ⟨0, by omega, by go_num, Q.refl _, fun i hi => absurd hi (by omega)⟩
    case round =>
      obtain ⟨k, hk, rfl, hq, heq⟩ := hrel
      have HEQ := hide heq
      clear heq
      by_cases hlt : k < ln
      · have hd1 : decide ((k : Int) < (ln : Int)) = true := by simp; omega
        have hd0 : decide (k < ln) = true := by simp; omega
        have hlti : (k : Int) < (ln : Int) := by omega
        obtain ⟨b1, o1, x, e1, hb1, hx1, hc1⟩ := (HB.out.up hq).sl.at_ (fun _ => rfl) (by decide) k hlt
        obtain ⟨b2, o2, y, e2, hb2, hy1, hc2⟩ := (HC.out.up hq).sl.at_ (fun _ => rfl) (by decide) k hlt
        dsimp only at e1 hx1 e2 hy1
        have x1 : wr.cell? ⟨b1, o1 + k, none⟩ = some (.int .u8 x) := by simpa using hc1 0 _ rfl
        have y1 : wr.cell? ⟨b2, o2 + k, none⟩ = some (.int .u8 y) := by simpa using hc2 0 _ rfl
        cases e1
        cases e2
        have HX1 := hide hx1
        have HY1 := hide hy1
        clear hc1 hc2 hx1 hy1
        by_cases hxy : x = y
        · subst hxy
          have hne : (x != x) = false := by simp
          go_wp2_with fail
          have hxc := ext_cell
          refine wp_region_ext (by kernel_rfl) (by kernel_rfl) ?_
          repeat (go_big_quiet_step ((fail)))
          clear hxc
          refine wpQuiet_nil ?_
          intro wz hwwz
          have hqwz := q_of_ext hwwz
          clear hwwz
          obtain ⟨hcwz, hfwz, hzwz⟩ := hqwz.facts
          try simp at hzwz
          try have hs0wz : w.heap.size < wz.heap.size := by omega
          try have hs1wz : w.heap.size + 1 < wz.heap.size := by omega
          clear hcwz hfwz
          go_wp2_with fail
          clear x1 y1 hne
          go_roundw
          case rel => exact ⟨k + 1, by omega, by go_num, hq.trans hqwz, fun i hi => by
            rcases Nat.lt_succ_iff_lt_or_eq.1 hi with h | rfl
            · exact HEQ.out i h
            · exact HX1.out.trans HY1.out.symm⟩
          case measure => simp [intOf] <;> omega
        · have hne : (x != y) = true := by simp [hxy]
          have hxs : decide (xs = ys) = false := decide_eq_false fun h => by
            have h1 := HX1.out
            rw [h, HY1.out] at h1
            exact hxy (by injection h1 with h1; exact h1.symm)
          have HXS := hide hxs
          clear hxs
          go_wp2_with fail
          have hxc := ext_cell
          refine wp_region_ext (by kernel_rfl) (by kernel_rfl) ?_
          repeat (go_big_quiet_step ((fail)))
          clear hxc
          refine wpQuiet_nil ?_
          intro wz hwwz
          have hqwz := q_of_ext hwwz
          clear hwwz
          obtain ⟨hcwz, hfwz, hzwz⟩ := hqwz.facts
          try simp at hzwz
          try have hs0wz : w.heap.size < wz.heap.size := by omega
          try have hs1wz : w.heap.size + 1 < wz.heap.size := by omega
          clear hcwz hfwz
          go_wp2_with fail
          go_ret
          exact ⟨by rw [HXS.out]; rfl, hq.trans hqwz⟩
      · have hd1 : decide ((k : Int) < (ln : Int)) = false := by simp; omega
        have hd0 : decide (k < ln) = false := by simp; omega
        obtain rfl : k = ln := by omega
        have hxs : decide (xs = ys) = true := decide_eq_true (by
          apply List.ext_getElem?
          intro i
          by_cases hi : i < k
          · exact HEQ.out i hi
          · rw [List.getElem?_eq_none (by rw [HL.out]; omega), List.getElem?_eq_none (by rw [HM.out]; omega)])
        have HXS := hide hxs
        clear hxs
        go_wp2_with fail
        go_ret
        exact ⟨by rw [HXS.out]; rfl, hq⟩
  · have hd2 : ((ln : Int) != (mn : Int)) = true := by simp; omega
    have hxs : decide (xs = ys) = false := decide_eq_false fun h => he (by rw [← HL.out, ← HM.out, h])
    rw [hxs]
    clear he hxs
    go_enter Try.func50, Try.ntmps50
    go_wp2_with fail
    go_ret
    exact ⟨rfl, Q.refl _⟩
end Go.Proofs.Ytiilkiggfjpibaa
