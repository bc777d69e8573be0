/- How far a copy can reach: the document's, walked. Conditions: the slice reads as bytes. -/
import Derived.Test.YtfiopjgpokdnoaaPackPb
namespace Go.Proofs.Ytfiopjgpokdnoaa
open Go.RowKit PP
set_option linter.unusedVariables false
set_option linter.unusedSimpArgs false
set_option maxHeartbeats 2000000 in
set_option maxRecDepth 20000 in
theorem reach_any (A : Option Addr) (n c : Nat) (bs : List Nat) (j : Nat) (w : World) (h : Bytes w A n c bs) (hj : j < n) (hn : n ≤ 200) :
    Calls Try.prog 59 #[.slice A n c, .int .i64 j] w fun e w' => e = .returned (.int .i64 (reachF bs j : Nat)) ∧ Q w w' := by
  have hl := h.len
  have H := hide h
  clear h
  have hni : (n : Int) ≤ 200 := by omega
  have hji : (j : Int) < (n : Int) := by omega
  go_enter Try.func59, Try.ntmps59
  go_wp2_with fail
  go_loopw [5, 6] (fun v d wr => ∃ k : Nat, k ≤ j ∧ v = .int .i64 (mxA (fun d => mt bs (j - (d + 1)) j) k : Nat) ∧ d = .int .i64 ((k : Int) + 1) ∧ Q w wr) (fun _ d _ => j + 1 - (intOf d).toNat)
  case atStart => exact ⟨0, by omega, rfl, rfl, Q.refl _⟩
  case round =>
    obtain ⟨k, hk, rfl, rfl, hq⟩ := hrel
    have hsz := hq.size
    obtain ⟨M, hM⟩ : ∃ M, mxA (fun d => mt bs (j - (d + 1)) j) k = M := ⟨_, rfl⟩
    have HMX := hide hM
    rw [hM]
    clear hM
    by_cases hlt : k < j
    · have d0 : decide ((k : Int) + 1 ≤ (j : Int)) = true := by simp; omega
      have hM130 : M ≤ 130 := by rw [← HMX.out]; exact mxA_le _ _ fun i _ => mt_le _ _ _
      have hM130i : (M : Int) ≤ 130 := by omega
      obtain ⟨D, hD⟩ : ∃ D : Nat, D = k + 1 := ⟨_, rfl⟩
      have hDi : (k : Int) + 1 = (D : Int) := by omega
      have HD := hide hD
      have HDI := hide hDi
      rw [hDi] at d0 ⊢
      clear hD hDi
      have hki : (D : Int) ≤ (j : Int) := by have := HD.out; omega
      have hD1 : 1 ≤ (D : Int) := by have := HD.out; omega
      go_wp2_with fail
      have hwo : ∃ wo : World, wo = wr := ⟨_, rfl⟩
      obtain ⟨wo, hwo⟩ := hwo
      have HWO := hide hwo
      rw [← hwo] at hq hsz ⊢
      clear hwo HWO
      go_loopw [7] (fun v wr => ∃ q : Nat, q ≤ 130 ∧ v = .int .i64 q ∧ mt bs (j - D) j = q + mtR bs (130 - q) (j - D + q) (j + q) ∧ Q wo wr) (fun v _ => 130 - (intOf v).toNat)
      case atStart => exact ⟨0, by omega, by go_num, by rw [Nat.zero_add]; rfl, Q.refl _⟩
      case round =>
        obtain ⟨q, hqk, rfl, hm, hq2⟩ := hrel
        have HMK := hide hm
        clear hm
        have hqi : (q : Int) ≤ 130 := by omega
        have hq3 := hq.trans hq2
        by_cases h1 : j + q < n
        · have d1 : decide ((j : Int) + (q : Int) < (n : Int)) = true := by simp; omega
          by_cases h2 : q < 130
          · have d2 : decide ((q : Int) < 130) = true := by simp; omega
            have hDj : D ≤ j := by omega
            obtain ⟨p, hp⟩ : ∃ p, p = j - D + q := ⟨_, rfl⟩
            obtain ⟨b1, o1, x, rfl, hb1, c1, hx, g1, -⟩ := rd_byte (H.out.up hq3).rd H.out.small p (by omega)
            obtain ⟨b2, o2, y, e2, hb2, c2, hy, g2, -⟩ := rd_byte (H.out.up hq3).rd H.out.small (j + q) (by omega)
            injection e2 with e2
            injection e2 with e3 e4 _
            subst e3
            subst e4
            have hpi : (j : Int) + (q : Int) - (D : Int) = (p : Int) := by omega
            have hx1 : (p : Int) < (n : Int) := by omega
            have hx2 : (j : Int) + (q : Int) < (n : Int) := by omega
            by_cases h3 : x = y
            · subst h3
              have d3 : ((x : Int) == (x : Int)) = true := by simp
              have HE := hide (mt_round bs (j - D) j q h2 (by omega) (by rw [← hp]; exact (getD_of g1).trans (getD_of g2).symm))
              clear g1 g2 h1 hp
              go_upto_region 6 with fail
              have hxc := ext_cell
              refine wp_region_ext (by kernel_rfl) (by kernel_rfl) ?_
              repeat (go_big_quiet_step ((fail)))
              clear hxc
              refine wpQuiet_nil ?_
              intro wz hwwz
              have hqwz := q_of_ext hwwz
              clear hwwz
              obtain ⟨hcwz, hfwz, hzwz⟩ := hqwz.facts
              try simp at hzwz
              try have hs0wz : w.heap.size < wz.heap.size := by omega
              try have hs1wz : w.heap.size + 1 < wz.heap.size := by omega
              go_wp2_with fail
              go_roundw
              case rel => exact ⟨q + 1, by omega, by go_num, by rw [HMK.out]; exact HE.out, hq2.trans hqwz⟩
              case measure => simp [intOf] <;> omega
            · have d3 : ((y : Int) == (x : Int)) = false := by simp; omega
              have HE := hide (mt_stop bs (j - D) j q fun e => h3 (((getD_of g1).symm.trans (by rw [hp]; exact e.2.2)).trans (getD_of g2)))
              clear g1 g2 h1 h3 hp
              go_upto_region 6 with fail
              have hxc := ext_cell
              refine wp_region_ext (by kernel_rfl) (by kernel_rfl) ?_
              repeat (go_big_quiet_step ((fail)))
              clear hxc
              refine wpQuiet_nil ?_
              intro wz hwwz
              have hqwz := q_of_ext hwwz
              clear hwwz
              obtain ⟨hcwz, hfwz, hzwz⟩ := hqwz.facts
              try simp at hzwz
              try have hs0wz : w.heap.size < wz.heap.size := by omega
              try have hs1wz : w.heap.size + 1 < wz.heap.size := by omega
              have HEX : Hid (mt bs (j - D) j = q) := by rw [HMK.out, HE.out, Nat.add_zero]; exact rfl
              have HEM : Hid (mxA (fun d => mt bs (j - (d + 1)) j) (k + 1) = max M q) := by
                show max (mxA (fun d => mt bs (j - (d + 1)) j) k) (mt bs (j - (k + 1)) j) = _
                rw [HMX.out, ← HD.out, HEX.out]
              clear HMK HE HEX
              go_wp2_with fail
              go_roundw
              case rel => exact ⟨k + 1, by omega, by rw [HEM.out]; go_num, by simp [← HDI.out], hq3.trans hqwz⟩
              case measure => have := HDI.out; have := HD.out; simp [intOf] <;> omega
          · have d2 : decide ((q : Int) < 130) = false := by simp; omega
            have HE := hide (mt_stop bs (j - D) j q fun e => h2 e.1)
            clear h1
            go_upto_region 6 with fail
            have hxc := ext_cell
            refine wp_region_ext (by kernel_rfl) (by kernel_rfl) ?_
            repeat (go_big_quiet_step ((fail)))
            clear hxc
            refine wpQuiet_nil ?_
            intro wz hwwz
            have hqwz := q_of_ext hwwz
            clear hwwz
            obtain ⟨hcwz, hfwz, hzwz⟩ := hqwz.facts
            try simp at hzwz
            try have hs0wz : w.heap.size < wz.heap.size := by omega
            try have hs1wz : w.heap.size + 1 < wz.heap.size := by omega
            have HEX : Hid (mt bs (j - D) j = q) := by rw [HMK.out, HE.out, Nat.add_zero]; exact rfl
            have HEM : Hid (mxA (fun d => mt bs (j - (d + 1)) j) (k + 1) = max M q) := by
              show max (mxA (fun d => mt bs (j - (d + 1)) j) k) (mt bs (j - (k + 1)) j) = _
              rw [HMX.out, ← HD.out, HEX.out]
            clear HMK HE HEX
            go_wp2_with fail
            go_roundw
            case rel => exact ⟨k + 1, by omega, by rw [HEM.out]; go_num, by simp [← HDI.out], hq3.trans hqwz⟩
            case measure => have := HDI.out; have := HD.out; simp [intOf] <;> omega
        · have d1 : decide ((j : Int) + (q : Int) < (n : Int)) = false := by simp; omega
          have HE := hide (mt_stop bs (j - D) j q fun e => h1 (by omega))
          clear h1
          go_upto_region 6 with fail
          have hxc := ext_cell
          refine wp_region_ext (by kernel_rfl) (by kernel_rfl) ?_
          repeat (go_big_quiet_step ((fail)))
          clear hxc
          refine wpQuiet_nil ?_
          intro wz hwwz
          have hqwz := q_of_ext hwwz
          clear hwwz
          obtain ⟨hcwz, hfwz, hzwz⟩ := hqwz.facts
          try simp at hzwz
          try have hs0wz : w.heap.size < wz.heap.size := by omega
          try have hs1wz : w.heap.size + 1 < wz.heap.size := by omega
          have HEX : Hid (mt bs (j - D) j = q) := by rw [HMK.out, HE.out, Nat.add_zero]; exact rfl
          have HEM : Hid (mxA (fun d => mt bs (j - (d + 1)) j) (k + 1) = max M q) := by
            show max (mxA (fun d => mt bs (j - (d + 1)) j) k) (mt bs (j - (k + 1)) j) = _
            rw [HMX.out, ← HD.out, HEX.out]
          clear HMK HE HEX
          go_wp2_with fail
          go_roundw
          case rel => exact ⟨k + 1, by omega, by rw [HEM.out]; go_num, by simp [← HDI.out], hq3.trans hqwz⟩
          case measure => have := HDI.out; have := HD.out; simp [intOf] <;> omega
    · have d0 : decide ((k : Int) + 1 ≤ (j : Int)) = false := by simp; omega
      go_wp2_with fail
      go_ret
      exact ⟨by rw [show k = j by omega] at HMX; unfold reachF; rw [HMX.out]; rfl, hq⟩
end Go.Proofs.Ytfiopjgpokdnoaa
