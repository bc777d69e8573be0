/- The walks of the reference's Name and Read. Conditions: the text is not longer than a text can be. -/
import Derived.Test.YtcjljmegppnlcaaDoorNumNb
namespace Go.Proofs.YtcjljmegppnlcaaDoor
open Go.RowKit NP
set_option linter.unusedVariables false
theorem rName_ok (s : Bool) (k : Nat) (h1 : 1 ≤ k) (h2 : k ≤ 31) (w : World) : Calls Tryd.prog 5 #[.agg #[.bool s, .int .i64 (k : Nat)]] w fun e w' => e = .returned (.tuple #[.string (strB (nameL s k)), .int .i64 0]) ∧ Q w w' := by
  have C1 := hide (fun w => rValidate_ok s k w (by omega) (by omega))
  have C2 := hide (fun w => TypeName_any s k h2 w)
  obtain ⟨w1, hw1⟩ : ∃ w1, w.alloc (.cells #[.bool s, .int .i64 (k : Nat)] 23) = w1 := ⟨_, rfl⟩
  have HW1 := hide hw1
  have hb1 : w1.heap[w.heap.size]? = some (.cells #[.bool s, .int .i64 (k : Nat)] 23 (0, 0)) := by rw [← hw1]; exact heap_alloc_new w _
  have HB1 := hide hb1
  have HQ1 := hide (show Q w w1 by rw [← hw1]; exact (Q.refl w).alloc _)
  have hs1' : w.heap.size < w1.heap.size := by rw [← hw1]; simp
  clear hw1 hb1 h1 h2
  go_enter Tryd.func5, Tryd.ntmps5
  go_wp2_with fail
  rw [HW1.out]
  refine (C1.out _).mono ?_
  rintro e w2 ⟨rfl, hq2⟩
  have hb2 := (hq2.below.block _ hs1').trans HB1.out
  have k0 : w2.cell? ⟨w.heap.size, 0, none⟩ = some (.bool s) := by rw [cell_of_row w2 _ 0 _ _ _ hb2]; rfl
  have k1 : w2.cell? ⟨w.heap.size, 1, none⟩ = some (.int .i64 (k : Nat)) := by rw [cell_of_row w2 _ 1 _ _ _ hb2]; rfl
  have HQ2 := hide (HQ1.out.trans hq2)
  clear hb2 hq2
  go_wp2_with fail
  refine (C2.out _).mono ?_
  rintro e w3 ⟨rfl, hq3⟩
  have HQ3 := hide (HQ2.out.trans hq3)
  clear hq3
  go_wp2_with fail
  go_ret2
  exact ⟨rfl, HQ3.out⟩
theorem rName_bad (s : Bool) (b : Int) (h : ¬ (1 ≤ b ∧ b ≤ 31)) (w : World) : Calls Tryd.prog 5 #[.agg #[.bool s, .int .i64 b]] w fun e w' => e = .returned (.tuple #[.string ByteArray.empty, .int .i64 1]) ∧ Q w w' := by
  have C1 := hide (fun w => rValidate_bad s b w h)
  clear h
  go_enter Tryd.func5, Tryd.ntmps5
  go_wp2_with fail
  refine (C1.out _).mono ?_
  rintro e w2 ⟨rfl, hq2⟩
  have HQ2 := hide (((Q.refl w).alloc _).trans hq2)
  clear hq2
  go_wp2_with fail
  go_ret2
  exact ⟨rfl, HQ2.out⟩
set_option maxRecDepth 100000 in
set_option maxHeartbeats 2000000 in
theorem rRead_any (l : List UInt8) (w : World) : Calls Tryd.prog 7 #[.string (strB l)] w (RdPost w l) := by
  obtain ⟨S, hS⟩ : ∃ S, strB l = S := ⟨_, rfl⟩
  have HS := hide hS
  rw [hS]
  obtain ⟨wb, hwb⟩ : ∃ wb, w.alloc (.cells #[.bool false, .int .i64 0] 23) = wb := ⟨_, rfl⟩
  have HBB := hide (show wb.heap[w.heap.size]? = some (.cells #[.bool false, .int .i64 0] 23 (0, 0)) by rw [← hwb]; exact heap_alloc_new w _)
  have HWB := hide hwb
  have HQB := hide (show Q w wb by rw [← hwb]; exact (Q.refl w).alloc _)
  have hszb : w.heap.size < wb.heap.size := by rw [← hwb]; simp
  clear hS hwb
  go_enter Tryd.func7, Tryd.ntmps7
  go_wp2_with fail
  rw [HWB.out]
  go_loopw [4] (fun vi wr => ∃ k : Nat, 1 ≤ k ∧ k ≤ 32 ∧ vi = .int .i64 (k : Nat) ∧ (∀ (t : Bool) (j : Nat), 1 ≤ j → j < k → l ≠ nameL t j) ∧ Q wb wr) (fun vi _ => 32 - (intOf vi).toNat)
  case atStart => exact ⟨1, by omega, by omega, by go_num, fun t j h1 h2 => by omega, Q.refl _⟩
  case round =>
    obtain ⟨k, hk1, hk2, rfl, hno, hq⟩ := hrel
    have HNO := hide hno
    have HQ := hide hq
    have hszr := hq.size
    have hRr : w.heap.size < wr.heap.size := by omega
    have hbr := (hq.below.block _ hszb).trans HBB.out
    have HBR := hide hbr
    clear hno hq hbr
    by_cases hlt : k ≤ 31
    · have hd1 : decide ((k : Int) ≤ 31) = true := by simp; omega
      have hd0 : decide (k ≤ 31) = true := by simp; omega
      have hki : (k : Int) ≤ 31 := by omega
      obtain ⟨T0, hT0⟩ : ∃ T, strB (nameL false k) = T := ⟨_, rfl⟩
      obtain ⟨T1, hT1⟩ : ∃ T, strB (nameL true k) = T := ⟨_, rfl⟩
      have C0 := hide (fun w => hT0 ▸ TypeName_any false k hlt w)
      have C1 := hide (fun w => hT1 ▸ TypeName_any true k hlt w)
      have hc0 : (T0.toList == S.toList) = decide (nameL false k = l) := by rw [← hT0, ← HS.out]; exact cmp_strB _ _
      have hc1 : (T1.toList == S.toList) = decide (nameL true k = l) := by rw [← hT1, ← HS.out]; exact cmp_strB _ _
      obtain ⟨w1, hw1⟩ : ∃ w1, (wr.alloc (.cells #[.bool false, .int .i64 (k : Nat)] 23)).alloc (.cells #[.bool true, .int .i64 (k : Nat)] 23) = w1 := ⟨_, rfl⟩
      have hs0 : (wr.alloc (.cells #[.bool false, .int .i64 (k : Nat)] 23)).heap.size = wr.heap.size + 1 := by simp
      have hb5 : w1.heap[wr.heap.size]? = some (.cells #[.bool false, .int .i64 (k : Nat)] 23 (0, 0)) := by rw [← hw1]; exact (heap_alloc_old _ _ (by rw [hs0]; omega)).trans (heap_alloc_new wr _)
      have hb6 : w1.heap[wr.heap.size + 1]? = some (.cells #[.bool true, .int .i64 (k : Nat)] 23 (0, 0)) := by rw [← hw1, ← hs0]; exact heap_alloc_new _ _
      have hq1 : Q wr w1 := by rw [← hw1]; exact ((Q.refl wr).alloc _).alloc _
      have l5 : w1.cell? ⟨wr.heap.size, 0, none⟩ = some (.bool false) := by rw [cell_of_row w1 _ 0 _ _ _ hb5]; rfl
      have l5b : w1.cell? ⟨wr.heap.size, 1, none⟩ = some (.int .i64 (k : Nat)) := by rw [cell_of_row w1 _ 1 _ _ _ hb5]; rfl
      have HW1 := hide hw1
      have HB5 := hide hb5
      have HB6 := hide hb6
      have HQ1 := hide hq1
      clear hw1 hb5 hb6 hq1 hs0
      go_wp2_with fail
      rw [HW1.out]
      refine (C0.out _).mono ?_
      rintro e w2 ⟨rfl, hq2⟩
      have hb5 := (hq2.below.block _ (Array.getElem?_eq_some_iff.1 HB5.out).1).trans HB5.out
      have hb6 := (hq2.below.block _ (Array.getElem?_eq_some_iff.1 HB6.out).1).trans HB6.out
      have hbR := (hq2.below.block _ (by have := HQ1.out.size; omega)).trans ((HQ1.out.below.block _ hRr).trans HBR.out)
      have m5 : w2.cell? ⟨wr.heap.size, 0, none⟩ = some (.bool false) := by rw [cell_of_row w2 _ 0 _ _ _ hb5]; rfl
      have m5b : w2.cell? ⟨wr.heap.size, 1, none⟩ = some (.int .i64 (k : Nat)) := by rw [cell_of_row w2 _ 1 _ _ _ hb5]; rfl
      have m6 : w2.cell? ⟨wr.heap.size + 1, 0, none⟩ = some (.bool true) := by rw [cell_of_row w2 _ 0 _ _ _ hb6]; rfl
      have m6b : w2.cell? ⟨wr.heap.size + 1, 1, none⟩ = some (.int .i64 (k : Nat)) := by rw [cell_of_row w2 _ 1 _ _ _ hb6]; rfl
      have y0 : w2.cell? ⟨w.heap.size, 0, none⟩ = some (.bool false) := by rw [cell_of_row w2 _ 0 _ _ _ hbR]; rfl
      have y1 : w2.cell? ⟨w.heap.size, 1, none⟩ = some (.int .i64 0) := by rw [cell_of_row w2 _ 1 _ _ _ hbR]; rfl
      have z0 : w2.frozen? ⟨w.heap.size, 0, none⟩ = false := frozen_of_blk hbR 0
      have z1 : w2.frozen? ⟨w.heap.size, 1, none⟩ = false := frozen_of_blk hbR 1
      have hQw2 : Q w w2 := HQB.out.trans (HQ.out.trans (HQ1.out.trans hq2))
      have HQ2 := hide (HQ.out.trans (HQ1.out.trans hq2))
      have HB6' := hide hb6
      have HBR' := hide hbR
      have hsz2 := hQw2.size
      clear hb5 hb6 hbR hq2
      by_cases he0 : nameL false k = l
      · have ht : (T0.toList == S.toList) = true := by rw [hc0, he0]; simp
        have HOK := hide (show ReadR l false (k : Nat) 0 from .inl ⟨rfl, k, rfl, hk1, hlt, he0.symm⟩)
        clear hc0 hc1 he0 hT0 hT1
        go_wp2_with fail
        obtain ⟨s0, s1⟩ := set2 w2 w.heap.size _ _ (.bool false) (.int .i64 (k : Nat)) y0 y1
        refine bodyPost_ret (v := .tuple #[.agg #[.bool false, .int .i64 (k : Nat)], .int .i64 0]) (by simp [results, Tryd.results7, go_sem, s0, s1]) rfl ⟨false, k, 0, rfl, HOK.out, ?_⟩
        exact (Q.set hQw2 (by simp) _).set (by simp) _
      · have ht : (T0.toList == S.toList) = false := by rw [hc0]; simpa using he0
        have HE0 := hide he0
        clear hc0 he0
        go_wp2_with fail
        refine (C1.out _).mono ?_
        rintro e w3 ⟨rfl, hq3⟩
        have hb6 := (hq3.below.block _ (Array.getElem?_eq_some_iff.1 HB6'.out).1).trans HB6'.out
        have hbR := (hq3.below.block _ (Array.getElem?_eq_some_iff.1 HBR'.out).1).trans HBR'.out
        have n6 : w3.cell? ⟨wr.heap.size + 1, 0, none⟩ = some (.bool true) := by rw [cell_of_row w3 _ 0 _ _ _ hb6]; rfl
        have n6b : w3.cell? ⟨wr.heap.size + 1, 1, none⟩ = some (.int .i64 (k : Nat)) := by rw [cell_of_row w3 _ 1 _ _ _ hb6]; rfl
        have yy0 : w3.cell? ⟨w.heap.size, 0, none⟩ = some (.bool false) := by rw [cell_of_row w3 _ 0 _ _ _ hbR]; rfl
        have yy1 : w3.cell? ⟨w.heap.size, 1, none⟩ = some (.int .i64 0) := by rw [cell_of_row w3 _ 1 _ _ _ hbR]; rfl
        have zz0 : w3.frozen? ⟨w.heap.size, 0, none⟩ = false := frozen_of_blk hbR 0
        have zz1 : w3.frozen? ⟨w.heap.size, 1, none⟩ = false := frozen_of_blk hbR 1
        have hQw3 : Q w w3 := hQw2.trans hq3
        have HQ3 := hide (HQ2.out.trans hq3)
        clear hb6 hbR hq3
        by_cases he1 : nameL true k = l
        · have ht1 : (T1.toList == S.toList) = true := by rw [hc1, he1]; simp
          have HOK := hide (show ReadR l true (k : Nat) 0 from .inl ⟨rfl, k, rfl, hk1, hlt, he1.symm⟩)
          clear hc1 he1 hT0 hT1
          go_wp2_with fail
          obtain ⟨s0, s1⟩ := set2 w3 w.heap.size _ _ (.bool true) (.int .i64 (k : Nat)) yy0 yy1
          refine bodyPost_ret (v := .tuple #[.agg #[.bool true, .int .i64 (k : Nat)], .int .i64 0]) (by simp [results, Tryd.results7, go_sem, s0, s1]) rfl ⟨true, k, 0, rfl, HOK.out, ?_⟩
          exact (Q.set hQw3 (by simp) _).set (by simp) _
        · have ht1 : (T1.toList == S.toList) = false := by rw [hc1]; simpa using he1
          have HE1 := hide he1
          clear hc1 he1 hT0 hT1
          go_wp2_with fail
          go_roundw
          case rel => exact ⟨k + 1, by omega, by omega, by go_num, fun t j h1 h2 => by
            by_cases e : j = k
            · subst e
              cases t
              · exact fun h => HE0.out h.symm
              · exact fun h => HE1.out h.symm
            · exact HNO.out t j h1 (by omega), HQ3.out⟩
          case measure => simp [intOf] <;> omega
    · have hd1 : decide ((k : Int) ≤ 31) = false := by simp; omega
      have hd0 : decide (k ≤ 31) = false := by simp; omega
      obtain rfl : k = 32 := by omega
      have HOK := hide (show ReadR l false 0 2 from .inr ⟨rfl, rfl, rfl, fun t j h1 h2 => HNO.out t j h1 (by omega)⟩)
      have y0 : wr.cell? ⟨w.heap.size, 0, none⟩ = some (.bool false) := by rw [cell_of_row wr _ 0 _ _ _ HBR.out]; rfl
      have y1 : wr.cell? ⟨w.heap.size, 1, none⟩ = some (.int .i64 0) := by rw [cell_of_row wr _ 1 _ _ _ HBR.out]; rfl
      have z0 : wr.frozen? ⟨w.heap.size, 0, none⟩ = false := frozen_of_blk HBR.out 0
      have z1 : wr.frozen? ⟨w.heap.size, 1, none⟩ = false := frozen_of_blk HBR.out 1
      have hQr : Q w wr := HQB.out.trans HQ.out
      clear hlt
      go_wp2_with fail
      obtain ⟨s0, s1⟩ := set2 wr w.heap.size _ _ (.bool false) (.int .i64 0) y0 y1
      refine bodyPost_ret (v := .tuple #[.agg #[.bool false, .int .i64 0], .int .i64 2]) (by simp [results, Tryd.results7, go_sem, s0, s1]) rfl ⟨false, 0, 2, rfl, HOK.out, ?_⟩
      exact (Q.set hQr (by simp) _).set (by simp) _
end Go.Proofs.YtcjljmegppnlcaaDoor
