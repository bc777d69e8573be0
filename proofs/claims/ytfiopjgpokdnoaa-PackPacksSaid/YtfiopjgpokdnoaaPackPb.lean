/- How many bytes from two places on are equal: the program's, walked. Conditions: the slice reads as bytes. -/
import Derived.Test.YtfiopjgpokdnoaaPackA
import Derived.Test.YtfiopjgpokdnoaaPackPa
import Derived.BigRegion
import Derived.Deep.Cut
namespace Go.Proofs.Ytfiopjgpokdnoaa
open Go.RowKit PP
set_option linter.unusedVariables false
set_option linter.unusedSimpArgs false
theorem getD_of {bs : List Nat} {k v : Nat} (h : bs[k]? = some v) : bs.getD k 0 = v := by rw [List.getD_eq_getElem?_getD, h]; rfl
/-- what a round of the count finds -/
theorem mt_round (b : List Nat) (i j k : Nat) (hk : k < 130) (hj : j + k < b.length) (he : b.getD (i + k) 0 = b.getD (j + k) 0) : k + mtR b (130 - k) (i + k) (j + k) = k + 1 + mtR b (130 - (k + 1)) (i + (k + 1)) (j + (k + 1)) := by
  obtain ⟨m, hm⟩ : ∃ m, 130 - k = m + 1 := ⟨129 - k, by omega⟩
  rw [hm, mtR, if_pos ⟨hj, he⟩, show 130 - (k + 1) = m by omega, show i + (k + 1) = i + k + 1 by omega, show j + (k + 1) = j + k + 1 by omega]
  omega
theorem mt_stop (b : List Nat) (i j k : Nat) (h : ¬ (k < 130 ∧ j + k < b.length ∧ b.getD (i + k) 0 = b.getD (j + k) 0)) : mtR b (130 - k) (i + k) (j + k) = 0 := by
  by_cases hk : k < 130
  · obtain ⟨m, hm⟩ : ∃ m, 130 - k = m + 1 := ⟨129 - k, by omega⟩
    rw [hm, mtR, if_neg fun e => h ⟨hk, e⟩]
  · rw [show 130 - k = 0 by omega]; rfl
set_option maxHeartbeats 2000000 in
set_option maxRecDepth 20000 in
theorem match_any (A : Option Addr) (n c : Nat) (bs : List Nat) (i j : Nat) (w : World) (h : Bytes w A n c bs) (hij : i < j) (hj : j ≤ n) (hn : n ≤ 20000) :
    Calls Try.prog 58 #[.slice A n c, .int .i64 i, .int .i64 j] w fun e w' => e = .returned (.int .i64 (mt bs i j : Nat)) ∧ Q w w' := by
  have hl := h.len
  have H := hide h
  clear h
  obtain ⟨M, hM⟩ : ∃ M, mt bs i j = M := ⟨_, rfl⟩
  rw [hM]
  have HM := hide hM
  clear hM
  have hni : (n : Int) ≤ 20000 := by omega
  have hji : (j : Int) ≤ (n : Int) := by omega
  have hiji : (i : Int) < (j : Int) := by omega
  go_enter Try.func58, Try.ntmps58
  go_wp2_with fail
  go_loopw [7] (fun v wr => ∃ k : Nat, k ≤ 130 ∧ v = .int .i64 k ∧ M = k + mtR bs (130 - k) (i + k) (j + k) ∧ Q w wr) (fun v _ => 130 - (intOf v).toNat)
  case atStart => exact ⟨0, by omega, by go_num, by rw [← HM.out, Nat.zero_add]; rfl, Q.refl _⟩
  case round =>
    obtain ⟨k, hk, rfl, hm, hq⟩ := hrel
    have HMK := hide hm
    clear hm
    have hki : (k : Int) ≤ 130 := by omega
    by_cases h1 : j + k < n
    · have d1 : decide ((j : Int) + (k : Int) < (n : Int)) = true := by simp; omega
      by_cases h2 : k < 130
      · have d2 : decide ((k : Int) < 130) = true := by simp; omega
        obtain ⟨b1, o1, x, rfl, hb1, c1, hx, g1, -⟩ := rd_byte (H.out.up hq).rd H.out.small (i + k) (by omega)
        obtain ⟨b2, o2, y, e2, hb2, c2, hy, g2, -⟩ := rd_byte (H.out.up hq).rd H.out.small (j + k) (by omega)
        injection e2 with e2
        injection e2 with e3 e4 _
        subst e3
        subst e4
        have hx1 : (i : Int) + (k : Int) < (n : Int) := by omega
        have hx2 : (j : Int) + (k : Int) < (n : Int) := by omega
        by_cases h3 : x = y
        · subst h3
          have d3 : ((x : Int) == (x : Int)) = true := by simp
          have HE := hide (mt_round bs i j k h2 (by omega) ((getD_of g1).trans (getD_of g2).symm))
          clear g1 g2 h1
          go_upto_region 2 with fail
          have hxc := ext_cell
          refine wp_region_ext (by kernel_rfl) (by kernel_rfl) ?_
          repeat (go_big_quiet_step ((fail)))
          clear hxc
          refine wpQuiet_nil ?_
          intro wz hwwz
          have hqwz := q_of_ext hwwz
          clear hwwz
          obtain ⟨hcwz, hfwz, hzwz⟩ := hqwz.facts
          try simp at hzwz
          try have hs0wz : w.heap.size < wz.heap.size := by omega
          try have hs1wz : w.heap.size + 1 < wz.heap.size := by omega
          go_wp2_with fail
          go_roundw
          case rel => exact ⟨k + 1, by omega, by go_num, by rw [HMK.out]; exact HE.out, hq.trans hqwz⟩
          case measure => simp [intOf] <;> omega
        · have d3 : ((x : Int) == (y : Int)) = false := by simp; omega
          have HE := hide (mt_stop bs i j k fun e => h3 (((getD_of g1).symm.trans e.2.2).trans (getD_of g2)))
          clear g1 g2 h1 h3
          go_upto_region 2 with fail
          have hxc := ext_cell
          refine wp_region_ext (by kernel_rfl) (by kernel_rfl) ?_
          repeat (go_big_quiet_step ((fail)))
          clear hxc
          refine wpQuiet_nil ?_
          intro wz hwwz
          have hqwz := q_of_ext hwwz
          clear hwwz
          obtain ⟨hcwz, hfwz, hzwz⟩ := hqwz.facts
          try simp at hzwz
          try have hs0wz : w.heap.size < wz.heap.size := by omega
          try have hs1wz : w.heap.size + 1 < wz.heap.size := by omega
          go_wp2_with fail
          go_ret
          exact ⟨by rw [HMK.out, HE.out, Nat.add_zero]; rfl, hq.trans hqwz⟩
      · have d2 : decide ((k : Int) < 130) = false := by simp; omega
        have HE := hide (mt_stop bs i j k fun e => h2 e.1)
        clear h1 h2
        go_upto_region 2 with fail
        have hxc := ext_cell
        refine wp_region_ext (by kernel_rfl) (by kernel_rfl) ?_
        repeat (go_big_quiet_step ((fail)))
        clear hxc
        refine wpQuiet_nil ?_
        intro wz hwwz
        have hqwz := q_of_ext hwwz
        clear hwwz
        obtain ⟨hcwz, hfwz, hzwz⟩ := hqwz.facts
        try simp at hzwz
        try have hs0wz : w.heap.size < wz.heap.size := by omega
        try have hs1wz : w.heap.size + 1 < wz.heap.size := by omega
        go_wp2_with fail
        go_ret
        exact ⟨by rw [HMK.out, HE.out, Nat.add_zero]; rfl, hq.trans hqwz⟩
    · have d1 : decide ((j : Int) + (k : Int) < (n : Int)) = false := by simp; omega
      have HE := hide (mt_stop bs i j k fun e => h1 (by omega))
      clear h1
      go_upto_region 2 with fail
      have hxc := ext_cell
      refine wp_region_ext (by kernel_rfl) (by kernel_rfl) ?_
      repeat (go_big_quiet_step ((fail)))
      clear hxc
      refine wpQuiet_nil ?_
      intro wz hwwz
      have hqwz := q_of_ext hwwz
      clear hwwz
      obtain ⟨hcwz, hfwz, hzwz⟩ := hqwz.facts
      try simp at hzwz
      try have hs0wz : w.heap.size < wz.heap.size := by omega
      try have hs1wz : w.heap.size + 1 < wz.heap.size := by omega
      go_wp2_with fail
      go_ret
      exact ⟨by rw [HMK.out, HE.out, Nat.add_zero]; rfl, hq.trans hqwz⟩
end Go.Proofs.Ytfiopjgpokdnoaa
