/- known. Conditions: none. -/
import Derived.Test.YtbgbalfhbficaaaCelP
namespace Go.Proofs.Ytbgbalfhbficaaa
open Go.RowKit
set_option linter.unusedVariables false
set_option linter.unusedSimpArgs false
theorem enc_leaf (b : Bool) (w : World) : Calls Try.prog 7 #[lfV 16, tgV b, c258] w fun e w' => ∃ g, e = .returned (.tuple #[.slice (some ⟨g, 0, none⟩) 2 2, .int .i64 0]) ∧ Q w w' ∧ w'.ownsRow w.heap.size 3 1 (.slice (some ⟨g, 0, none⟩) 2 2) 2 (by2 b) :=
  Encode_of (.leaf) fun B W g _ hq hr => write_leaf b g B W hq hr
theorem enc_opt (hh : Nat) (w : World) (h8 : Op8 w hh) : Calls Try.prog 7 #[opV hh, tgV false, cNul] w fun e w' => ∃ g, e = .returned (.tuple #[.slice (some ⟨g, 0, none⟩) 2 2, .int .i64 0]) ∧ Q w w' ∧ w'.ownsRow w.heap.size 3 1 (.slice (some ⟨g, 0, none⟩) 2 2) 2 [.int .i64 (-1), .int .i64 0] :=
  Encode_of (.opt h8) fun B W g hck hq hr => write_opt false g hh B W hq (by cases hck with | opt h => exact h) hr
set_option maxRecDepth 100000 in
set_option maxHeartbeats 2000000 in
theorem known_any (w : World) : Calls Try.prog 21 #[] w (R1 w (.bool true)) := by
  unfold R1
  obtain ⟨w1, hw1⟩ : ∃ w1, w.alloc (.cells #[.int .i64 2, .int .i64 16, .bool false, .slice none 0 0] 24) = w1 := ⟨_, rfl⟩
  obtain ⟨hq1, hs1, hc⟩ := box1 hw1
  have h0 : w.heap.size < w1.heap.size := by omega
  have k0 := hc 0 _ rfl
  have k1 := hc 1 _ rfl
  have k2 := hc 2 _ rfl
  have k3 := hc 3 _ rfl
  have K0 := hide k0
  have K1 := hide k1
  have K2 := hide k2
  have K3 := hide k3
  have HW1 := hide hw1
  have HQ1 := hide hq1
  have HE1 := hide (enc_leaf false w1)
  clear hw1 hc hq1
  go_enter Try.func21, Try.ntmps21
  go_upto_region 2 with fail
  rw [HW1.out]
  go_wp2_with fail
  refine HE1.out.mono ?_
  rintro e w2 ⟨g2, rfl, hq2, ho2⟩
  have S2 := hide (sl_own2 (xs := [2, 1]) ho2)
  have HQ2 := hide (HQ1.out.trans hq2)
  have HE2 := hide (enc_leaf true w2)
  clear k0 k1 k2 k3 ho2
  have k0 := (hq2.facts.1 _ 0 h0).trans K0.out
  have k1 := (hq2.facts.1 _ 1 h0).trans K1.out
  have k2 := (hq2.facts.1 _ 2 h0).trans K2.out
  have k3 := (hq2.facts.1 _ 3 h0).trans K3.out
  clear hq2
  go_wp2_with fail
  refine HE2.out.mono ?_
  rintro e w3 ⟨g3, rfl, hq3, ho3⟩
  have S2 := hide (S2.out.up hq3)
  have S3 := hide (sl_own2 (xs := [1, 2]) ho3)
  have HQ3 := hide (HQ2.out.trans hq3)
  clear k0 k1 k2 k3 ho3 hq3
  obtain ⟨w4, hw4⟩ : ∃ w4, w3.alloc (.cells #[.int .i64 2, .int .i64 8, .bool false, .slice none 0 0] 24) = w4 := ⟨_, rfl⟩
  obtain ⟨hq4, hs4, hc4⟩ := box1 hw4
  have h3 : w3.heap.size < w4.heap.size := by omega
  obtain ⟨w5, hw5⟩ : ∃ w5, w4.alloc (.cells #[.int .i64 4, .int .i64 0, .bool false, .slice (some ⟨w3.heap.size, 0, none⟩) 1 1] 24) = w5 := ⟨_, rfl⟩
  obtain ⟨hq5, hs5, hc5⟩ := box1 hw5
  have h8 : Op8 w5 w3.heap.size := ⟨by omega, (hq5.facts.1 _ 0 h3).trans (hc4 0 _ rfl), (hq5.facts.1 _ 1 h3).trans (hc4 1 _ rfl), (hq5.facts.1 _ 2 h3).trans (hc4 2 _ rfl), (hq5.facts.1 _ 3 h3).trans (hc4 3 _ rfl)⟩
  have k0 : w5.cell? ⟨w4.heap.size, 0, none⟩ = some (.int .i64 4) := hc5 0 _ rfl
  have k1 : w5.cell? ⟨w4.heap.size, 1, none⟩ = some (.int .i64 0) := hc5 1 _ rfl
  have k2 : w5.cell? ⟨w4.heap.size, 2, none⟩ = some (.bool false) := hc5 2 _ rfl
  have k3 : w5.cell? ⟨w4.heap.size, 3, none⟩ = some (.slice (some ⟨w3.heap.size, 0, none⟩) 1 1) := hc5 3 _ rfl
  rw [hs4] at k0 k1 k2 k3
  have HE5 := hide (enc_opt w3.heap.size w5 h8)
  have S2 := hide (S2.out.up (hq4.trans hq5))
  have S3 := hide (S3.out.up (hq4.trans hq5))
  have HQ5 := hide (HQ3.out.trans (hq4.trans hq5))
  have HW4 := hide hw4
  have HW5 := hide hw5
  clear hw4 hw5 hc4 hc5 hq4 hq5 hs5 h8 hs4 hs1 h3
  go_upto_region 5 with fail
  rw [HW4.out, HW5.out]
  go_wp2_with fail
  refine HE5.out.mono ?_
  rintro e w6 ⟨g6, rfl, hq6, ho6⟩
  have S6 := hide (sl_own2 (xs := [-1, 0]) ho6)
  have S2 := hide (S2.out.up hq6)
  have S3 := hide (S3.out.up hq6)
  have HQ6 := hide (HQ5.out.trans hq6)
  clear k0 k1 k2 k3 ho6 hq6
  obtain ⟨w7, hw7⟩ : ∃ w7, w6.alloc (.cells #[.int .i64 2, .int .i64 1] 3) = w7 := ⟨_, rfl⟩
  obtain ⟨hq7, hs7, -⟩ := box1 hw7
  have HB7 := hide (SameBytes_same _ 2 2 _ 2 _ w7 (S2.out.up hq7) (sl_lit2 hw7))
  have S3 := hide (S3.out.up hq7)
  have S6 := hide (S6.out.up hq7)
  have HQ7 := hide (HQ6.out.trans hq7)
  have HW7 := hide hw7
  clear hw7 hq7 hs7
  go_wp2_with fail
  rw [HW7.out]
  refine HB7.out.mono ?_
  rintro e w8 ⟨rfl, hq8⟩
  obtain ⟨w9, hw9⟩ : ∃ w9, w8.alloc (.cells #[.int .i64 1, .int .i64 2] 3) = w9 := ⟨_, rfl⟩
  obtain ⟨hq9, hs9, -⟩ := box1 hw9
  have HB9 := hide (SameBytes_same _ 2 2 _ 2 _ w9 (S3.out.up (hq8.trans hq9)) (sl_lit2 hw9))
  have S6 := hide (S6.out.up (hq8.trans hq9))
  have HQ9 := hide (HQ7.out.trans (hq8.trans hq9))
  have HW9 := hide hw9
  clear hw9 hq9 hq8 hs9
  go_wp2_with fail
  rw [HW9.out]
  refine HB9.out.mono ?_
  rintro e w10 ⟨rfl, hq10⟩
  obtain ⟨w11, hw11⟩ : ∃ w11, w10.alloc (.cells #[.int .i64 (-1), .int .i64 0] 3) = w11 := ⟨_, rfl⟩
  obtain ⟨hq11, hs11, -⟩ := box1 hw11
  have HB11 := hide (SameBytes_same _ 2 2 _ 2 _ w11 (S6.out.up (hq10.trans hq11)) (sl_lit2 hw11))
  have HQ11 := hide (HQ9.out.trans (hq10.trans hq11))
  have HW11 := hide hw11
  clear hw11 hq11 hq10 hs11
  go_wp2_with fail
  rw [HW11.out]
  refine HB11.out.mono ?_
  rintro e w12 ⟨rfl, hq12⟩
  go_wp2_with fail
  go_ret
  exact ⟨rfl, HQ11.out.trans hq12⟩
end Go.Proofs.Ytbgbalfhbficaaa
