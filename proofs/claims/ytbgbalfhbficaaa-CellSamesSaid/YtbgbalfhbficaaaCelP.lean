/- Encode of the cells of known; bytes that are equal; known. Conditions: as each theorem says. -/
import Derived.Test.YtbgbalfhbficaaaCelO
namespace Go.Proofs.Ytbgbalfhbficaaa
open Go.RowKit
set_option linter.unusedVariables false
set_option linter.unusedSimpArgs false
set_option maxRecDepth 100000 in
set_option maxHeartbeats 2000000 in
theorem Encode_of {w : World} {v x : Value} {L : List Value} {b : Bool} (hck : Ck w v x) (hwr : ∀ (B W : World) (g : Nat), Ck W v x → Q B W → W.ownsRow B.heap.size 3 1 (.slice (some ⟨g, 0, none⟩) 2 2) 2 [.int .i64 (-1), .int .i64 (-1)] → Calls Try.prog 57 #[tgV b, v, .slice (some ⟨g, 0, none⟩) 2 2, x] W (WrP B g L)) :
    Calls Try.prog 7 #[v, tgV b, x] w fun e w' => ∃ g, e = .returned (.tuple #[.slice (some ⟨g, 0, none⟩) 2 2, .int .i64 0]) ∧ Q w w' ∧ w'.ownsRow w.heap.size 3 1 (.slice (some ⟨g, 0, none⟩) 2 2) 2 L := by
  have HV := hide (fun W (hW : Q w W) => cellValid_ck (hck.up hW) b)
  have HE := hide (fun W (hW : Q w W) => encode_of (hck.up hW) (fun g W' hW' h => hwr W W' g ((hck.up hW).up hW') hW' h))
  obtain ⟨⟨k, n, A, m, rfl⟩, N, z, rfl⟩ := hck.cells
  obtain ⟨w3, hw3⟩ : ∃ w3, ((w.alloc (.cells #[.int .i64 k, .int .i64 n, .bool false, .slice A m m] 24)).alloc (.cells #[.int .i64 4, .bool b] 26)).alloc (.cells #[.int .i64 N, .bool z, .bool false, .slice none 0 0] 31) = w3 := ⟨_, rfl⟩
  obtain ⟨hq3, hs3, hc, hd, he⟩ := box3 hw3
  have h0 : w.heap.size < w3.heap.size := by omega
  have h1 : w.heap.size + 1 < w3.heap.size := by omega
  have h2 : w.heap.size + 2 < w3.heap.size := by omega
  have k0 := hc 0 _ rfl
  have k1 := hc 1 _ rfl
  have k2 := hc 2 _ rfl
  have k3 := hc 3 _ rfl
  have t0 := hd 0 _ rfl
  have t1 := hd 1 _ rfl
  have x0 := he 0 _ rfl
  have x1 := he 1 _ rfl
  have x2 := he 2 _ rfl
  have x3 := he 3 _ rfl
  have KA : Hid (∀ W, Q w3 W → W.cell? ⟨w.heap.size + 1, 0, none⟩ = some (.int .i64 4) ∧ W.cell? ⟨w.heap.size + 1, 1, none⟩ = some (.bool b) ∧ W.cell? ⟨w.heap.size, 0, none⟩ = some (.int .i64 k) ∧ W.cell? ⟨w.heap.size, 1, none⟩ = some (.int .i64 n) ∧ W.cell? ⟨w.heap.size, 2, none⟩ = some (.bool false) ∧ W.cell? ⟨w.heap.size, 3, none⟩ = some (.slice A m m) ∧ W.cell? ⟨w.heap.size + 2, 0, none⟩ = some (.int .i64 N) ∧ W.cell? ⟨w.heap.size + 2, 1, none⟩ = some (.bool z) ∧ W.cell? ⟨w.heap.size + 2, 2, none⟩ = some (.bool false) ∧ W.cell? ⟨w.heap.size + 2, 3, none⟩ = some (.slice none 0 0)) := hide fun W h => ⟨(h.facts.1 _ 0 h1).trans t0, (h.facts.1 _ 1 h1).trans t1, (h.facts.1 _ 0 h0).trans k0, (h.facts.1 _ 1 h0).trans k1, (h.facts.1 _ 2 h0).trans k2, (h.facts.1 _ 3 h0).trans k3, (h.facts.1 _ 0 h2).trans x0, (h.facts.1 _ 1 h2).trans x1, (h.facts.1 _ 2 h2).trans x2, (h.facts.1 _ 3 h2).trans x3⟩
  have HV3 := hide (HV.out w3 hq3)
  have HW3 := hide hw3
  have HQ3 := hide hq3
  clear hck hwr hw3 hc hd he hq3 HV
  go_enter Try.func7, Try.ntmps7
  go_upto_region 1 with fail
  rw [HW3.out]
  go_wp2_with fail
  refine HV3.out.mono ?_
  rintro e w4 ⟨rfl, hq4⟩
  clear k0 k1 k2 k3 t0 t1 x0 x1 x2 x3
  obtain ⟨t0, t1, k0, k1, k2, k3, x0, x1, x2, x3⟩ := KA.out w4 hq4
  have HQ4 := hide (HQ3.out.trans hq4)
  have HE4 := hide (HE.out w4 (HQ3.out.trans hq4))
  clear hq4
  go_wp2_with fail
  refine HE4.out.mono ?_
  rintro e w5 ⟨g, rfl, hq5, hown⟩
  have HO := hide (own_lower hown HQ4.out.size)
  have HQ5 := hide (HQ4.out.trans hq5)
  clear hown hq5 t0 t1 k0 k1 k2 k3 x0 x1 x2 x3
  go_wp2_with fail
  go_ret2
  exact ⟨g, rfl, HQ5.out, HO.out⟩
theorem flatI : ∀ xs : List Int, xs.flatMap (encI .i64) = xs.map (Value.int .i64)
  | [] => rfl
  | x :: r => by rw [List.flatMap_cons, flatI r]; rfl
set_option maxRecDepth 100000 in
set_option maxHeartbeats 2000000 in
theorem SameBytes_same (A : Option Addr) (n c : Nat) (B : Option Addr) (d : Nat) (xs : List Int) (w : World) (h1 : Sl 1 (encI .i64) w A n c xs) (h2 : Sl 1 (encI .i64) w B n d xs) : Calls Try.prog 8 #[.slice A n c, .slice B n d] w (R1 w (.bool true)) := by
  unfold R1
  have hni : (n : Int) ≤ 9223372036854775807 := by have := h1.cap; have := h1.most; omega
  have d0 : ((n : Int) != (n : Int)) = false := by simp
  have H1 := hide h1
  have H2 := hide h2
  clear h1 h2
  go_enter Try.func8, Try.ntmps8
  go_wp2_with fail
  go_loopw [5] (fun vi wr => ∃ k : Nat, k ≤ n ∧ vi = .int .i64 k ∧ Q w wr) (fun vi _ => n - (intOf vi).toNat)
  case atStart => exact ⟨0, by omega, by go_num, Q.refl _⟩
  case round =>
    obtain ⟨k, hk, rfl, hq⟩ := hrel
    have HQ := hide hq
    by_cases hlt : k < n
    · have hd1 : decide ((k : Int) < (n : Int)) = true := by simp; omega
      have hd0 : decide (k < n) = true := by simp; omega
      have hlti : (k : Int) < (n : Int) := by omega
      obtain ⟨b1, o1, y1, e1, hb1, g1, c1⟩ := (H1.out.up hq).at_ (fun _ => rfl) (by decide) k hlt
      obtain ⟨b2, o2, y2, e2, hb2, g2, c2⟩ := (H2.out.up hq).at_ (fun _ => rfl) (by decide) k hlt
      cases e1
      cases e2
      obtain rfl : y1 = y2 := by rw [g1] at g2; injection g2
      have z1 : wr.cell? ⟨b1, o1 + k * 1, none⟩ = some (.int .i64 y1) := c1 0 _ rfl
      have z2 : wr.cell? ⟨b2, o2 + k * 1, none⟩ = some (.int .i64 y1) := c2 0 _ rfl
      rw [Nat.mul_one] at z1 z2
      have d1 : (y1 != y1) = false := by simp
      clear hq g1 g2 c1 c2
      go_upto_region 6 with fail
      have hxc := ext_cell
      refine wp_region_ext (by kernel_rfl) (by kernel_rfl) ?_
      repeat (go_big_quiet_step ((fail)))
      clear hxc
      refine wpQuiet_nil ?_
      intro wz hwwz
      have hqwz := q_of_ext hwwz
      clear hwwz
      obtain ⟨hcwz, hfwz, hzwz⟩ := hqwz.facts
      try simp at hzwz
      try have hs0wz : w.heap.size < wz.heap.size := by omega
      try have hs1wz : w.heap.size + 1 < wz.heap.size := by omega
      clear hcwz hfwz
      go_wp2_with fail
      go_roundw
      case rel => exact ⟨k + 1, by omega, by go_num, HQ.out.trans hqwz⟩
      case measure => simp [intOf] <;> omega
    · have hd1 : decide ((k : Int) < (n : Int)) = false := by simp; omega
      have hd0 : decide (k < n) = false := by simp; omega
      obtain rfl : k = n := by omega
      clear hq
      go_wp2_with fail
      go_ret
      exact ⟨rfl, HQ.out⟩
theorem sl_own2 {w : World} {B g : Nat} {xs : List Int} (h : w.ownsRow B 3 1 (.slice (some ⟨g, 0, none⟩) 2 2) 2 (xs.map (Value.int .i64))) : Sl 1 (encI .i64) w (some ⟨g, 0, none⟩) 2 2 xs := Sl.own (by rw [flatI]; exact h) (fun _ => rfl) (by decide)
theorem sl_lit2 {w w1 : World} {a b : Int} (h : w.alloc (.cells #[.int .i64 a, .int .i64 b] 3) = w1) : Sl 1 (encI .i64) w1 (some ⟨w.heap.size, 0, none⟩) 2 2 [a, b] := by
  have h9 : w1.heap[w.heap.size]? = some (.cells #[.int .i64 a, .int .i64 b] 3 (0, 0)) := by rw [← h]; exact heap_alloc_new w _
  exact sl_own2 (B := 0) (xs := [a, b]) (own_of_whole (xs := [.int .i64 a, .int .i64 b]) h9 (Nat.zero_le _) rfl (by unfold maxLen; omega))
end Go.Proofs.Ytbgbalfhbficaaa
