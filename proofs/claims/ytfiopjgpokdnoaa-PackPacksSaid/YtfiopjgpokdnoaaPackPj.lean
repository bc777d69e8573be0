/- The smallest length of a packed text: the document's Shortest, walked. Conditions: the slice reads as bytes. -/
import Derived.Test.YtfiopjgpokdnoaaPackPi
namespace Go.Proofs.Ytfiopjgpokdnoaa
open Go.RowKit PP
set_option linter.unusedVariables false
set_option linter.unusedSimpArgs false
set_option maxHeartbeats 4000000 in
set_option maxRecDepth 40000 in
theorem rShortest_any (A : Option Addr) (n c : Nat) (bs : List Nat) (w : World) (h : Bytes w A n c bs) (hn : n ≤ 200) :
    Calls Try.prog 36 #[.slice A n c] w fun e w' => e = .returned (.tuple #[.int .i64 (shortF bs : Nat), .int .i64 0]) ∧ Q w w' := by
  have hl := h.len
  have H := hide h
  clear h
  have hni : (n : Int) ≤ 200 := by omega
  have d0 : decide ((200 : Int) < (n : Int)) = false := decide_eq_false (by omega)
  go_enter Try.func36, Try.ntmps36
  go_wp2_with (at_make; go_loud (refine wpList_mk rfl _ _ rfl Try.underlying42 (show (Try.prog.info? 3).map (fun i => (i.zero, i.size, i.bytes)) = some (some (.int .i64 0), 1, 8) by kernel_rfl) rfl w.heap.size (n := n + 1) rfl rfl (by omega) (by omega) ?_ ?_ ?_ ?_); (focus omega); (focus omega); (focus (exact Nat.le_refl _)); intro w3 hown3 hq3 hlt3; have HO3 := hide hown3; have HQ3 := hide hq3; clear hown3 hq3)
  go_loopw [5] (fun va wr => ∃ k : Nat, k ≤ n ∧ va = .int .i64 ((n : Int) - (k : Int) - 1) ∧ wr.ownsRow w.heap.size 3 1 (.slice (some ⟨w.heap.size, 0, none⟩) (n + 1) (n + 1)) (n + 1) ((List.replicate (n - k) 0 ++ lsF bs k).map natV) ∧ Q w wr) (fun va _ => (intOf va + 1).toNat)
  case atStart =>
    refine ⟨0, by omega, by go_num, ?_, HQ3.out⟩
    have e : (List.replicate (n - 0) 0 ++ lsF bs 0).map natV = List.replicate (n + 1) (.int .i64 0) := by
      show (List.replicate n 0 ++ [0]).map natV = _
      rw [← List.replicate_succ', List.map_replicate]
      rfl
    rw [e]
    exact HO3.out
  case round =>
    clear HO3 HQ3 hlt3
    obtain ⟨k, hk, rfl, hown, hq⟩ := hrel
    by_cases hkn : k < n
    · obtain ⟨j, hj⟩ : ∃ j, j = n - k - 1 := ⟨_, rfl⟩
      have hji : (n : Int) - (k : Int) - 1 = (j : Int) := by omega
      rw [hji]
      rw [show n - k = j + 1 by omega, rowL_J] at hown
      obtain ⟨ls, els⟩ : ∃ ls, ls = lsF bs k := ⟨_, rfl⟩
      rw [← els] at hown
      have hlen : ls.length = k + 1 := by rw [els]; exact lsF_len bs k
      have hls : ∀ m, ls.getD m 0 ≤ 400 := fun m => by rw [els]; have := lsF_getD bs k m; omega
      have ELS := hide els
      have HJ := hide hj
      have HJI := hide hji
      clear els hj hji
      have hjn : j < n := by have := HJ.out; omega
      have hjni : (j : Int) < (n : Int) := by omega
      have hjk : j + k + 1 = n := by have := HJ.out; omega
      have d1 : decide ((0 : Int) ≤ (j : Int)) = true := decide_eq_true (by omega)
      obtain ⟨hcell, hfz⟩ := own_atW hown (by omega)
      have hc1 := hcell _ _ (rowJ_next j 0 ls 0 (by rw [hlen]; omega))
      rw [Nat.add_zero] at hc1
      have hfj := hfz j
      have hcj := hcell j _ (rowJ_at j 0 ls)
      obtain ⟨x, hx⟩ : ∃ x, x = ls.getD 0 0 := ⟨_, rfl⟩
      have hx4 : x ≤ 400 := by rw [hx]; exact hls _
      rw [← hx] at hc1
      have hx4i : (x : Int) ≤ 400 := by omega
      have hset := own_set hown j (.int .i64 ((1073741824 : Nat) : Int))
      rw [rowJ_set] at hset
      have HSET := hide hset
      have HX := hide hx
      have hgs : w.heap.size < wr.heap.size := (hown.lt _ rfl).2
      have hjM : (j : Int) + 1 < ((n + 1 : Nat) : Int) := by omega
      have hjM1 : (j : Int) + 1 < (n : Int) + 1 := by omega
      have hjM2 : j + 1 < n + 1 := by omega
      have hj1 : (j : Int) < ((n + 1 : Nat) : Int) := by omega
      have hj2 : (j : Int) < (n : Int) + 1 := by omega
      have hj3 : j < n + 1 := by omega
      have HQ := hide hq
      clear hset hx hown hcell hfz hq
      go_upto_block 2 with fail
      go_cut [] (fun wx => wx.ownsRow w.heap.size 3 1 (.slice (some ⟨w.heap.size, 0, none⟩) (n + 1) (n + 1)) (n + 1) (rowJ j (mnP (1073741824) ls (min 128 (n - j))) ls) ∧ Q w wx)
      case first =>
        go_wp2_with fail
        go_loopw [6] (fun vm wr => ∃ M : Nat, 1 ≤ M ∧ M ≤ min 128 (n - j) + 1 ∧ vm = .int .i64 (M : Int) ∧ wr.ownsRow w.heap.size 3 1 (.slice (some ⟨w.heap.size, 0, none⟩) (n + 1) (n + 1)) (n + 1) (rowJ j (mnP (1073741824) ls (M - 1)) ls) ∧ Q w wr) (fun vm _ => 129 - (intOf vm).toNat)
        case atStart => exact ⟨1, by omega, by omega, rfl, by  exact HSET.out, HQ.out.set (p := ⟨w.heap.size, j, none⟩) (Nat.le_refl _) _⟩
        case round =>
          clear HSET HX hx4 hx4i hgs hjM hjM1 hjM2 hj1 hj2 hj3 hfj hcj hc1 HQ
          obtain ⟨M, hM1, hM2, rfl, hown, hq⟩ := hrel
          have HQ := hide hq
          clear hq
          have hMi : (M : Int) ≤ 129 := by omega
          have hM1i : (1 : Int) ≤ (M : Int) := by omega
          by_cases hM : M ≤ 128
          · have dM1 : decide ((M : Int) ≤ 128) = true := decide_eq_true (by omega)
            by_cases hMn : j + M ≤ n
            · have dM2 : decide ((j : Int) + (M : Int) ≤ (n : Int)) = true := decide_eq_true (by omega)
              obtain ⟨V, hV⟩ : ∃ V, mnP (1073741824) ls (M - 1) = V := ⟨_, rfl⟩
              rw [hV] at hown
              obtain ⟨hcell, hfz⟩ := own_atW hown (by omega)
              have hcj := hcell j _ (rowJ_at j V ls)
              have hcn := hcell _ _ (rowJ_next j V ls (M - 1) (by rw [hlen]; omega))
              rw [show j + 1 + (M - 1) = j + M by omega] at hcn
              have hfj := hfz j
              obtain ⟨x, hx⟩ : ∃ x, x = ls.getD (M - 1) 0 := ⟨_, rfl⟩
              have hx4 : x ≤ 400 := by rw [hx]; exact hls _
              rw [← hx] at hcn
              obtain ⟨V2, hV2⟩ : ∃ V2, V2 = mnP (1073741824) ls M := ⟨_, rfl⟩
              have hm2 : V2 = min V (1 + M + x) := by rw [hV2, hx, ← hV]; exact mnP_step _ _ _ hM1
              have hmin : (if (1 : Int) + (M : Int) + (x : Int) < (V : Int) then (1 : Int) + (M : Int) + (x : Int) else (V : Int)) = (V2 : Int) := by split <;> omega
              have hset := own_set hown j (.int .i64 (V2 : Int))
              rw [rowJ_set] at hset
              have HSET := hide hset
              have HV2 := hide hV2
              have hx4i : (x : Int) ≤ 400 := by omega
              have hjM : (j : Int) + (M : Int) < ((n + 1 : Nat) : Int) := by omega
              have hjM1 : (j : Int) + (M : Int) < (n : Int) + 1 := by omega
              have hjM2 : j + M < n + 1 := by omega
              have hj1 : (j : Int) < ((n + 1 : Nat) : Int) := by omega
              have hj2 : (j : Int) < (n : Int) + 1 := by omega
              have hj3 : j < n + 1 := by omega
              have hgs := (hown.lt _ rfl).2
              clear hset hV2 hV hx hm2 hown hcell hfz
              go_upto_region 11 with fail
              go_region
              go_wp2_with fail
              go_roundw
              case rel => exact ⟨M + 1, by omega, by omega, by go_num, by rw [Nat.add_sub_cancel, ← HV2.out]; exact HSET.out.drew, Q.drew (HQ.out.set (p := ⟨w.heap.size, j, none⟩) (Nat.le_refl _) _)⟩
              case measure => simp [intOf] <;> omega
            · have dM2 : decide ((j : Int) + (M : Int) ≤ (n : Int)) = false := decide_eq_false (by omega)
              rw [show M - 1 = min 128 (n - j) by omega] at hown
              have HOW := hide hown
              clear hown
              go_wp2_with fail
              go_meet
              exact ⟨HOW.out, HQ.out⟩
          · have dM1 : decide ((M : Int) ≤ 128) = false := decide_eq_false (by omega)
            rw [show M - 1 = min 128 (n - j) by omega] at hown
            have HOW := hide hown
            clear hown
            go_wp2_with fail
            go_meet
            exact ⟨HOW.out, HQ.out⟩
      case rest =>
        clear HSET HX hx4 hx4i hgs hjM hjM1 hjM2 hj1 hj2 hj3 hfj hcj hc1 HQ
        obtain ⟨hown, hq⟩ := hcut
        obtain ⟨V1, hV1⟩ : ∃ V1, mnP (1073741824) ls (min 128 (n - j)) = V1 := ⟨_, rfl⟩
        rw [hV1] at hown
        have HV1 := hide hV1
        clear hV1
        obtain ⟨T, hT⟩ : ∃ T, reachF bs j = T := ⟨_, rfl⟩
        have HMT : Hid (∀ W, Q w W → Calls Try.prog 59 #[.slice A n c, .int .i64 j] W fun e w' => e = .returned (.int .i64 (T : Int)) ∧ Q W w') := fun W hW => by
          have := reach_any A n c bs j W (H.out.up hW) hjn hn
          rw [hT] at this
          exact this
        have hTn : T ≤ n - j := by rw [← hT]; exact reach_short bs j n (by omega) hl
        have hT130 : T ≤ 200 := by omega
        have HT := hide hT
        have HQ := hide hq
        have HO1 := hide hown
        clear hT hown hq
        go_upto_region 13 with (go_at_call 59; go_loud (refine (HMT.out _ HQ.out).mono ?_); rintro e w5 ⟨rfl, hq5⟩; have HQ5 := hide hq5; clear hq5)
        go_wp2_with fail
        go_loopw [8] (fun vm wr => ∃ M : Nat, 3 ≤ M ∧ (M = 3 ∨ M ≤ T + 1) ∧ vm = .int .i64 (M : Int) ∧ wr.ownsRow w.heap.size 3 1 (.slice (some ⟨w.heap.size, 0, none⟩) (n + 1) (n + 1)) (n + 1) (rowJ j (mnC V1 ls (M - 1)) ls) ∧ Q w wr) (fun vm _ => T + 4 - (intOf vm).toNat)
        case atStart => exact ⟨3, by omega, .inl rfl, rfl, by rw [mnC_small _ _ _ (by omega)]; exact own_q HO1.out HQ5.out, HQ.out.trans HQ5.out⟩
        case round =>
          clear HO1 HQ HQ5
          obtain ⟨M, hM1, hM2, rfl, hown, hq⟩ := hrel
          have HQ := hide hq
          clear hq
          have hMi : (M : Int) ≤ 201 := by omega
          have hM1i : (3 : Int) ≤ (M : Int) := by omega
          by_cases hM : M ≤ T
          · have dM1 : decide ((M : Int) ≤ (T : Int)) = true := decide_eq_true (by omega)
            obtain ⟨V, hV⟩ : ∃ V, mnC V1 ls (M - 1) = V := ⟨_, rfl⟩
            rw [hV] at hown
            obtain ⟨hcell, hfz⟩ := own_atW hown (by omega)
            have hcj := hcell j _ (rowJ_at j V ls)
            have hcn := hcell _ _ (rowJ_next j V ls (M - 1) (by rw [hlen]; omega))
            rw [show j + 1 + (M - 1) = j + M by omega] at hcn
            have hfj := hfz j
            obtain ⟨x, hx⟩ : ∃ x, x = ls.getD (M - 1) 0 := ⟨_, rfl⟩
            have hx4 : x ≤ 400 := by rw [hx]; exact hls _
            rw [← hx] at hcn
            obtain ⟨V2, hV2⟩ : ∃ V2, V2 = mnC V1 ls M := ⟨_, rfl⟩
            have hm2 : V2 = min V (3 + x) := by rw [hV2, hx, ← hV]; exact mnC_step _ _ _ hM1
            have hmin : (if (3 : Int) + (x : Int) < (V : Int) then (3 : Int) + (x : Int) else (V : Int)) = (V2 : Int) := by split <;> omega
            have hset := own_set hown j (.int .i64 (V2 : Int))
            rw [rowJ_set] at hset
            have HSET := hide hset
            have HV2 := hide hV2
            have hx4i : (x : Int) ≤ 400 := by omega
            have hjM : (j : Int) + (M : Int) < ((n + 1 : Nat) : Int) := by omega
            have hjM1 : (j : Int) + (M : Int) < (n : Int) + 1 := by omega
            have hjM2 : j + M < n + 1 := by omega
            have hj1 : (j : Int) < ((n + 1 : Nat) : Int) := by omega
            have hj2 : (j : Int) < (n : Int) + 1 := by omega
            have hj3 : j < n + 1 := by omega
            have hgs := (hown.lt _ rfl).2
            clear hset hV2 hV hx hm2 hown hcell hfz
            go_upto_region 16 with fail
            go_region
            go_wp2_with fail
            go_roundw
            case rel => exact ⟨M + 1, by omega, .inr (by omega), by go_num, by rw [Nat.add_sub_cancel, ← HV2.out]; exact HSET.out.drew, Q.drew (HQ.out.set (p := ⟨w.heap.size, j, none⟩) (Nat.le_refl _) _)⟩
            case measure => simp [intOf] <;> omega
          · have dM1 : decide ((M : Int) ≤ (T : Int)) = false := decide_eq_false (by omega)
            have e : mnC V1 ls T = mnC V1 ls (M - 1) := by
              rcases hM2 with h | h
              · rw [mnC_small _ _ T (by omega), mnC_small _ _ (M - 1) (by omega)]
              · rw [show M - 1 = T by omega]
            rw [← e] at hown
            have HOW := hide hown
            clear hown e
            go_wp2_with fail
            go_roundw
            case rel =>
              refine ⟨k + 1, by omega, by congr 1; omega, ?_, HQ.out⟩
              rw [show n - (k + 1) = j by omega, lsF, ← ELS.out, show bs.length - k - 1 = j by omega]
              show World.ownsRow _ _ _ _ _ _ (rowJ j (lsOne bs j ls) ls)
              rw [one_eq (by omega) (by have := hls 0; omega)]
              unfold rOne
              rw [hl, HV1.out, HT.out]
              exact HOW.out
            case measure => simp [intOf] <;> omega
    · have d1 : decide ((0 : Int) ≤ (n : Int) - (k : Int) - 1) = false := decide_eq_false (by omega)
      obtain rfl : k = n := by omega
      rw [Nat.sub_self, List.replicate_zero, List.nil_append] at hown
      obtain ⟨hcell, hfz⟩ := own_atW hown (by omega)
      have hc0 := hcell 0 (.int .i64 (shortF bs : Nat)) (by
        unfold shortF
        rw [hl]
        cases hh : lsF bs k with
        | nil => have := lsF_len bs k; rw [hh] at this; simp at this
        | cons y ys => rfl)
      have hk0 : (0 : Int) < (k : Int) + 1 := by omega
      have hk1 : (0 : Int) < ((k + 1 : Nat) : Int) := by omega
      obtain ⟨Z, hZ⟩ : ∃ Z, shortF bs = Z := ⟨_, rfl⟩
      rw [hZ] at hc0
      have hgs := (hown.lt _ rfl).2
      have HZ := hide hZ
      have HQ := hide hq
      clear hZ hown hcell hfz hq
      go_wp2_with fail
      go_ret2
      exact ⟨by rw [HZ.out]; rfl, HQ.out⟩
end Go.Proofs.Ytfiopjgpokdnoaa
