/- Layouts of one number, and such a one that may be nothing: sizes. Conditions: as each theorem says. -/
import Derived.Test.YtbgbalfhbficaaaCelD
namespace Go.Proofs.Ytbgbalfhbficaaa
open Go.RowKit
set_option linter.unusedVariables false
set_option linter.unusedSimpArgs false
theorem box1 {w w1 : World} {c : Array Value} {t : TypeId} (h : w.alloc (.cells c t) = w1) : Q w w1 ∧ w1.heap.size = w.heap.size + 1 ∧ ∀ (j : Nat) u, c[j]? = some u → w1.cell? ⟨w.heap.size, j, none⟩ = some u := by
  subst h
  exact ⟨(Q.refl w).alloc _, by simp, fun j u hu => cell_blkJ (heap_alloc_new w _) hu⟩
theorem box2 {w w2 : World} {c d : Array Value} {t s : TypeId} (h : (w.alloc (.cells c t)).alloc (.cells d s) = w2) : Q w w2 ∧ w2.heap.size = w.heap.size + 2 ∧ (∀ (j : Nat) u, c[j]? = some u → w2.cell? ⟨w.heap.size, j, none⟩ = some u) ∧ ∀ (j : Nat) u, d[j]? = some u → w2.cell? ⟨w.heap.size + 1, j, none⟩ = some u := by
  obtain ⟨w1, hw1⟩ : ∃ w1, w.alloc (.cells c t) = w1 := ⟨_, rfl⟩
  rw [hw1] at h
  obtain ⟨q1, s1, c1⟩ := box1 hw1
  obtain ⟨q2, s2, c2⟩ := box1 h
  rw [s1] at s2 c2
  exact ⟨q1.trans q2, s2, fun j u hu => (q2.facts.1 _ j (by omega)).trans (c1 j u hu), c2⟩
theorem box3 {w w3 : World} {c d b : Array Value} {t s r : TypeId} (h : ((w.alloc (.cells c t)).alloc (.cells d s)).alloc (.cells b r) = w3) : Q w w3 ∧ w3.heap.size = w.heap.size + 3 ∧ (∀ (j : Nat) u, c[j]? = some u → w3.cell? ⟨w.heap.size, j, none⟩ = some u) ∧ (∀ (j : Nat) u, d[j]? = some u → w3.cell? ⟨w.heap.size + 1, j, none⟩ = some u) ∧ ∀ (j : Nat) u, b[j]? = some u → w3.cell? ⟨w.heap.size + 2, j, none⟩ = some u := by
  obtain ⟨w2, hw2⟩ : ∃ w2, (w.alloc (.cells c t)).alloc (.cells d s) = w2 := ⟨_, rfl⟩
  rw [hw2] at h
  obtain ⟨q1, s1, c1, d1⟩ := box2 hw2
  obtain ⟨q2, s2, c2⟩ := box1 h
  rw [s1] at s2 c2
  exact ⟨q1.trans q2, s2, fun j u hu => (q2.facts.1 _ j (by omega)).trans (c1 j u hu), fun j u hu => (q2.facts.1 _ j (by omega)).trans (d1 j u hu), c2⟩
/-- a number of n bits -/
abbrev lfV (n : Int) : Value := .agg #[.int .i64 2, .int .i64 n, .bool false, .slice none 0 0]
/-- its size in bytes -/
def Lf (n s : Int) : Prop := (n = 8 ∧ s = 1) ∨ (n = 16 ∧ s = 2)
/-- what may be nothing, of the layout in row g -/
abbrev opV (g : Nat) : Value := .agg #[.int .i64 4, .int .i64 0, .bool false, .slice (some ⟨g, 0, none⟩) 1 1]
structure Op8 (w : World) (g : Nat) : Prop where
  lt : g < w.heap.size
  c0 : w.cell? ⟨g, 0, none⟩ = some (.int .i64 2)
  c1 : w.cell? ⟨g, 1, none⟩ = some (.int .i64 8)
  c2 : w.cell? ⟨g, 2, none⟩ = some (.bool false)
  c3 : w.cell? ⟨g, 3, none⟩ = some (.slice none 0 0)
theorem Op8.up {w w' : World} {g : Nat} (h : Op8 w g) (hq : Q w w') : Op8 w' g := ⟨Nat.lt_of_lt_of_le h.lt hq.size, (hq.facts.1 _ _ h.lt).trans h.c0, (hq.facts.1 _ _ h.lt).trans h.c1, (hq.facts.1 _ _ h.lt).trans h.c2, (hq.facts.1 _ _ h.lt).trans h.c3⟩
abbrev tgV (b : Bool) : Value := .agg #[.int .i64 4, .bool b]
def R1 (w : World) (v : Value) (e : Ending) (w' : World) : Prop := e = .returned v ∧ Q w w'
set_option maxRecDepth 100000 in
set_option maxHeartbeats 1000000 in
theorem sum2 (g : Nat) (a b : Int) (w : World) (hg : g < w.heap.size) (h0 : w.cell? ⟨g, 0, none⟩ = some (.int .i64 a)) (h1 : w.cell? ⟨g, 1, none⟩ = some (.int .i64 b)) (ha : 0 ≤ a) (hb : 0 ≤ b) (ha' : a ≤ 4096) (hb' : b ≤ 4096) :
    Calls Try.prog 66 #[.slice (some ⟨g, 0, none⟩) 2 2] w (R1 w (.int .i64 (a + b))) := by
  have m1 : min a 1099511627776 = a := by omega
  have m2 : min b 1099511627776 = b := by omega
  have m3 : min 1099511627776 a = a := by omega
  have m4 : min 1099511627776 (a + b) = a + b := by omega
  have H0 := hide h0
  have H1 := hide h1
  clear h0 h1
  unfold R1
  go_enter Try.func66, Try.ntmps66
  go_wp2_with fail
  go_loopw [3, 8] (fun v3 vi wr => ∃ k : Nat, k ≤ 2 ∧ vi = .int .i64 k ∧ v3 = .int .i64 (if k = 0 then 0 else if k = 1 then a else a + b) ∧ Q w wr) (fun _ vi _ => 2 - (intOf vi).toNat)
  case atStart => exact ⟨0, by omega, by go_num, rfl, Q.refl _⟩
  case round =>
    obtain ⟨k, hk, rfl, rfl, hq⟩ := hrel
    have HQ := hide hq
    have h0 := (hq.facts.1 _ 0 hg).trans H0.out
    have h1 := (hq.facts.1 _ 1 hg).trans H1.out
    clear hq
    match k, hk with
    | 0, _ =>
      go_wp2_with fail
      go_roundw
      case rel => exact ⟨1, by omega, by go_num, by simp [m1, m3], HQ.out⟩
      case measure => simp [intOf]
    | 1, _ =>
      go_wp2_with fail
      go_roundw
      case rel => exact ⟨2, by omega, by go_num, by simp [m2, m4], HQ.out⟩
      case measure => simp [intOf]
    | 2, _ =>
      go_wp2_with fail
      go_ret
      exact ⟨rfl, HQ.out⟩
set_option maxRecDepth 100000 in
set_option maxHeartbeats 1000000 in
theorem whole_any {n s : Int} (hn : Lf n s) (w : World) : Calls Try.prog 88 #[.int .i64 n] w (R1 w (.int .i64 s)) := by
  unfold R1
  rcases hn with ⟨rfl, rfl⟩ | ⟨rfl, rfl⟩
  · go_enter Try.func88, Try.ntmps88
    go_wp2_with fail
    go_loopw [3] (fun v3 wr => v3 = .int .i64 1 ∧ Q w wr) (fun v3 _ => 2 - (intOf v3).toNat)
    case atStart => exact ⟨rfl, Q.refl _⟩
    case round =>
      obtain ⟨rfl, hq⟩ := hrel
      have HQ := hide hq
      clear hq
      go_wp2_with fail
      go_ret
      exact ⟨rfl, HQ.out⟩
  · go_enter Try.func88, Try.ntmps88
    go_wp2_with fail
    go_loopw [3] (fun v3 wr => (v3 = .int .i64 1 ∨ v3 = .int .i64 2) ∧ Q w wr) (fun v3 _ => 2 - (intOf v3).toNat)
    case atStart => exact ⟨.inl rfl, Q.refl _⟩
    case round =>
      obtain ⟨hs, hq⟩ := hrel
      have HQ := hide hq
      clear hq
      rcases hs with rfl | rfl
      · go_wp2_with fail
        go_roundw
        case rel => exact ⟨.inr rfl, HQ.out⟩
        case measure => simp [intOf]
      · go_wp2_with fail
        go_ret
        exact ⟨rfl, HQ.out⟩
theorem up21 (w : World) : Calls Try.prog 65 #[.int .i64 2, .int .i64 1] w (R1 w (.int .i64 2)) := by
  unfold R1
  go_enter Try.func65, Try.ntmps65
  go_wp2_with fail
  go_ret
  exact ⟨rfl, Q.refl _⟩
set_option maxHeartbeats 1000000 in
theorem target_ok (b : Bool) (w : World) : Calls Try.prog 37 #[tgV b] w (R1 w (.int .i64 0)) := by
  unfold R1
  obtain ⟨w1, hw1⟩ : ∃ w1, w.alloc (.cells #[.int .i64 4, .bool b] 26) = w1 := ⟨_, rfl⟩
  obtain ⟨hq1, hs1, hc⟩ := box1 hw1
  have k0 := hc 0 _ rfl
  have HW1 := hide hw1
  clear hw1 hc
  go_enter Try.func37, Try.ntmps37
  go_upto_region 1 with fail
  rw [HW1.out]
  go_wp2_with fail
  go_ret
  exact ⟨rfl, hq1⟩
set_option maxRecDepth 100000 in
set_option maxHeartbeats 1000000 in
theorem cells_leaf (n : Int) (w : World) : Calls Try.prog 63 #[lfV n] w (R1 w (.int .i64 1)) := by
  unfold R1
  obtain ⟨w1, hw1⟩ : ∃ w1, w.alloc (.cells #[.int .i64 2, .int .i64 n, .bool false, .slice none 0 0] 24) = w1 := ⟨_, rfl⟩
  obtain ⟨hq1, hs1, hc⟩ := box1 hw1
  have k0 := hc 0 _ rfl
  have k3 := hc 3 _ rfl
  have K0 := hide k0
  have HW1 := hide hw1
  have HQ1 := hide hq1
  have hlt : w.heap.size < w1.heap.size := by omega
  clear hw1 hc k0 hq1
  go_enter Try.func63, Try.ntmps63
  go_upto_region 1 with fail
  rw [HW1.out]
  go_wp2_with fail
  clear k3
  go_loopw [3, 9] (fun v3 vi wr => v3 = .int .i64 0 ∧ vi = .int .i64 0 ∧ Q w1 wr) (fun _ vi _ => 0)
  case atStart => exact ⟨rfl, by go_num, Q.refl _⟩
  case round =>
    obtain ⟨rfl, rfl, hq⟩ := hrel
    have k0 := (hq.facts.1 _ 0 hlt).trans K0.out
    have HQ := hide hq
    obtain ⟨w2, hw2⟩ : ∃ w2, wr.alloc (.cells #[.int .i64 1, .int .i64 0] 3) = w2 := ⟨_, rfl⟩
    obtain ⟨hq2, hs2, hc⟩ := box1 hw2
    have HS := hide (sum2 wr.heap.size 1 0 w2 (by omega) (hc 0 _ rfl) (hc 1 _ rfl) (by omega) (by omega) (by omega) (by omega))
    have HW2 := hide hw2
    have HQ2 := hide hq2
    clear hq hw2 hc hq2
    go_wp2_with fail
    rw [HW2.out]
    refine HS.out.mono ?_
    rintro e w3 ⟨rfl, hq3⟩
    go_wp2_with fail
    go_ret
    exact ⟨rfl, HQ1.out.trans (HQ.out.trans (HQ2.out.trans hq3))⟩
set_option maxRecDepth 100000 in
set_option maxHeartbeats 1000000 in
theorem cells_opt (g : Nat) (w : World) (h8 : Op8 w g) : Calls Try.prog 63 #[opV g] w (R1 w (.int .i64 2)) := by
  unfold R1
  obtain ⟨w1, hw1⟩ : ∃ w1, w.alloc (.cells #[.int .i64 4, .int .i64 0, .bool false, .slice (some ⟨g, 0, none⟩) 1 1] 24) = w1 := ⟨_, rfl⟩
  obtain ⟨hq1, hs1, hc⟩ := box1 hw1
  have k0 := hc 0 _ rfl
  have k3 := hc 3 _ rfl
  have K0 := hide k0
  have HW1 := hide hw1
  have HQ1 := hide hq1
  have H8 := hide (h8.up hq1)
  have hlt : w.heap.size < w1.heap.size := by omega
  clear hw1 hc k0 hq1 h8
  go_enter Try.func63, Try.ntmps63
  go_upto_region 1 with fail
  rw [HW1.out]
  go_wp2_with fail
  clear k3
  go_loopw [3, 9] (fun v3 vi wr => ∃ k : Nat, k ≤ 1 ∧ vi = .int .i64 k ∧ v3 = .int .i64 (if k = 0 then 0 else 1) ∧ Q w1 wr) (fun _ vi _ => 1 - (intOf vi).toNat)
  case atStart => exact ⟨0, by omega, by go_num, rfl, Q.refl _⟩
  case round =>
    obtain ⟨k, hk, rfl, rfl, hq⟩ := hrel
    have HQ := hide hq
    have k0 := (hq.facts.1 _ 0 hlt).trans K0.out
    match k, hk with
    | 0, _ =>
      obtain ⟨hl, c0, c1, c2, c3⟩ := H8.out.up hq
      obtain ⟨w2, hw2⟩ : ∃ w2, wr.alloc (.cells #[.int .i64 2, .int .i64 8, .bool false, .slice none 0 0] 24) = w2 := ⟨_, rfl⟩
      obtain ⟨hq2, hs2, hc⟩ := box1 hw2
      have z0 := hc 0 _ rfl
      have z1 := hc 1 _ rfl
      have z2 := hc 2 _ rfl
      have z3 := hc 3 _ rfl
      have HW2 := hide hw2
      have HQ2 := hide (hq.trans hq2)
      have HC := hide (cells_leaf 8 w2)
      clear hq hw2 hc hq2
      go_upto_region 5 with fail
      rw [HW2.out]
      clear c0 c1 c2 c3
      go_wp2_with fail
      refine HC.out.mono ?_
      rintro e w3 ⟨rfl, hq3⟩
      obtain ⟨w4, hw4⟩ : ∃ w4, w3.alloc (.cells #[.int .i64 0, .int .i64 1] 3) = w4 := ⟨_, rfl⟩
      obtain ⟨hq4, hs4, hc⟩ := box1 hw4
      have HS := hide (sum2 w3.heap.size 0 1 w4 (by omega) (hc 0 _ rfl) (hc 1 _ rfl) (by omega) (by omega) (by omega) (by omega))
      have HW4 := hide hw4
      have HQ4 := hide (HQ2.out.trans (hq3.trans hq4))
      clear hw4 hc hq4 hq3 z0 z1 z2 z3
      go_wp2_with fail
      rw [HW4.out]
      refine HS.out.mono ?_
      rintro e w5 ⟨rfl, hq5⟩
      have HQ5 := hide (HQ4.out.trans hq5)
      clear hq5
      go_wp2_with fail
      go_roundw
      case rel => exact ⟨1, by omega, by go_num, rfl, HQ5.out⟩
      case measure => simp [intOf]
    | 1, _ =>
      obtain ⟨w2, hw2⟩ : ∃ w2, wr.alloc (.cells #[.int .i64 1, .int .i64 1] 3) = w2 := ⟨_, rfl⟩
      obtain ⟨hq2, hs2, hc⟩ := box1 hw2
      have HS := hide (sum2 wr.heap.size 1 1 w2 (by omega) (hc 0 _ rfl) (hc 1 _ rfl) (by omega) (by omega) (by omega) (by omega))
      have HW2 := hide hw2
      have HQ2 := hide (hq.trans hq2)
      clear hq hw2 hc hq2
      go_wp2_with fail
      rw [HW2.out]
      refine HS.out.mono ?_
      rintro e w3 ⟨rfl, hq3⟩
      go_wp2_with fail
      go_ret
      exact ⟨rfl, HQ1.out.trans (HQ2.out.trans hq3)⟩
end Go.Proofs.Ytbgbalfhbficaaa
