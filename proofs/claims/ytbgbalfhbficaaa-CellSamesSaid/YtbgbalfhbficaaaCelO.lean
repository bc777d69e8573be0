/- encode, Encode of the cells of known; known. Conditions: as each theorem says. -/
import Derived.Test.YtbgbalfhbficaaaCelN
namespace Go.Proofs.Ytbgbalfhbficaaa
open Go.RowKit
set_option linter.unusedVariables false
set_option linter.unusedSimpArgs false
set_option maxRecDepth 100000 in
set_option maxHeartbeats 2000000 in
theorem encode_of {w : World} {v x : Value} {L : List Value} {b : Bool} (hck : Ck w v x) (hwr : ∀ (g : Nat) (W : World), Q w W → W.ownsRow w.heap.size 3 1 (.slice (some ⟨g, 0, none⟩) 2 2) 2 [.int .i64 (-1), .int .i64 (-1)] → Calls Try.prog 57 #[tgV b, v, .slice (some ⟨g, 0, none⟩) 2 2, x] W (WrP w g L)) :
    Calls Try.prog 30 #[tgV b, v, x] w fun e w' => ∃ g, e = .returned (.slice (some ⟨g, 0, none⟩) 2 2) ∧ Q w w' ∧ w'.ownsRow w.heap.size 3 1 (.slice (some ⟨g, 0, none⟩) 2 2) 2 L := by
  have HCK := hide hck
  have HWR := hide hwr
  obtain ⟨⟨k, n, A, m, rfl⟩, N, z, rfl⟩ := hck.cells
  obtain ⟨al, hly⟩ := hck.ly
  obtain ⟨w3, hw3⟩ : ∃ w3, ((w.alloc (.cells #[.int .i64 4, .bool b] 60)).alloc (.cells #[.int .i64 k, .int .i64 n, .bool false, .slice A m m] 24)).alloc (.cells #[.int .i64 N, .bool z, .bool false, .slice none 0 0] 31) = w3 := ⟨_, rfl⟩
  obtain ⟨hq3, hs3, hd, hc, he⟩ := box3 hw3
  have h0 : w.heap.size < w3.heap.size := by omega
  have h1 : w.heap.size + 1 < w3.heap.size := by omega
  have h2 : w.heap.size + 2 < w3.heap.size := by omega
  have k0 := hc 0 _ rfl
  have k1 := hc 1 _ rfl
  have k2 := hc 2 _ rfl
  have k3 := hc 3 _ rfl
  have t0 := hd 0 _ rfl
  have t1 := hd 1 _ rfl
  have x0 := he 0 _ rfl
  have x1 := he 1 _ rfl
  have x2 := he 2 _ rfl
  have x3 := he 3 _ rfl
  have KA : Hid (∀ W, Q w3 W → W.cell? ⟨w.heap.size, 0, none⟩ = some (.int .i64 4) ∧ W.cell? ⟨w.heap.size, 1, none⟩ = some (.bool b) ∧ W.cell? ⟨w.heap.size + 1, 0, none⟩ = some (.int .i64 k) ∧ W.cell? ⟨w.heap.size + 1, 1, none⟩ = some (.int .i64 n) ∧ W.cell? ⟨w.heap.size + 1, 2, none⟩ = some (.bool false) ∧ W.cell? ⟨w.heap.size + 1, 3, none⟩ = some (.slice A m m) ∧ W.cell? ⟨w.heap.size + 2, 0, none⟩ = some (.int .i64 N) ∧ W.cell? ⟨w.heap.size + 2, 1, none⟩ = some (.bool z) ∧ W.cell? ⟨w.heap.size + 2, 2, none⟩ = some (.bool false) ∧ W.cell? ⟨w.heap.size + 2, 3, none⟩ = some (.slice none 0 0)) := hide fun W h => ⟨(h.facts.1 _ 0 h0).trans t0, (h.facts.1 _ 1 h0).trans t1, (h.facts.1 _ 0 h1).trans k0, (h.facts.1 _ 1 h1).trans k1, (h.facts.1 _ 2 h1).trans k2, (h.facts.1 _ 3 h1).trans k3, (h.facts.1 _ 0 h2).trans x0, (h.facts.1 _ 1 h2).trans x1, (h.facts.1 _ 2 h2).trans x2, (h.facts.1 _ 3 h2).trans x3⟩
  obtain ⟨w4, hw4⟩ : ∃ w4, w3.alloc (.cells #[.int .i64 (-1)] 3) = w4 := ⟨_, rfl⟩
  obtain ⟨hq4, hs4, hn⟩ := box1 hw4
  have h3 : w3.heap.size < w4.heap.size := by omega
  have N0 := hide (show w4.cell? ⟨w3.heap.size, 0, none⟩ = some (.int .i64 (-1)) from hn 0 _ rfl)
  have HZ := hide (size_ly ((hly.up hq3).up hq4) b)
  have HRP := hide (fun (W : World) (hW : Q w4 W) => show Calls _ _ #[.slice (some ⟨w3.heap.size, 0, none⟩) 1 1, .int .i64 2] W _ from repeat_any 2 w3.heap.size (-1) W (by omega) (Nat.lt_of_lt_of_le h3 hW.size) ((hW.facts.1 _ 0 h3).trans N0.out))
  have HW3 := hide hw3
  have HW4 := hide hw4
  have HQ3 := hide hq3
  have HQ34 := hide hq4
  clear hck hwr hw3 hw4 hc hd he hq3 hq4 hly k0 k1 k2 k3 t0 t1 x0 x1 x2 x3 hn
  rw [hs3] at HRP
  obtain ⟨t0, t1, k0, k1, k2, k3, x0, x1, x2, x3⟩ := KA.out w4 HQ34.out
  rw [← HW4.out] at t0 t1 k0 k1 k2 k3 x0 x1 x2 x3
  go_enter Try.func30, Try.ntmps30
  go_upto_region 1 with fail
  rw [HW3.out]
  go_wp2_with fail
  rw [HW4.out]
  refine HZ.out.mono ?_
  rintro e w5 ⟨rfl, hq5⟩
  have HQ45 := hide hq5
  have HR5 := hide (HRP.out w5 hq5)
  clear hq5 t0 t1 k0 k1 k2 k3 x0 x1 x2 x3
  go_wp2_with fail
  refine HR5.out.mono ?_
  rintro e w6 ⟨g, rfl, hown, hq6⟩
  obtain ⟨t0, t1, k0, k1, k2, k3, x0, x1, x2, x3⟩ := KA.out w6 (HQ34.out.trans (HQ45.out.trans hq6))
  have HQ6 := hide (HQ3.out.trans (HQ34.out.trans (HQ45.out.trans hq6)))
  have HWW := hide (HWR.out g w6 HQ6.out (own_lower hown (HQ3.out.trans (HQ34.out.trans HQ45.out)).size))
  clear hown hq6
  go_wp2_with fail
  refine HWW.out.mono ?_
  rintro e w7 ⟨rfl, hq7, hown7⟩
  have HO7 := hide hown7
  clear hown7 t0 t1 k0 k1 k2 k3 x0 x1 x2 x3
  go_wp2_with fail
  go_ret
  exact ⟨g, rfl, hq7, HO7.out⟩
end Go.Proofs.Ytbgbalfhbficaaa
