/- The reference's New. Conditions: none. -/
import Derived.Test.YtegpkcbmgjoicaaGreatHsP
namespace Go.Proofs.YtegpkcbmgjoicaaGreat
open Go.RowKit HP
set_option linter.unusedVariables false
def newR (kind size piece : Int) : RM := ⟨kind, size, piece, [], List.replicate size.toNat (-1), 0, 0, 0, 0⟩
def zeroV : Value := .agg #[.int .i64 0, .int .i64 0, .int .i64 0, .slice none 0 0, .slice none 0 0, .int .i64 0, .int .i64 0, .int .i64 0, .int .i64 0]
def RNewPost (ok : Bool) (kind size piece : Int) (w : World) (e : Ending) (w' : World) : Prop :=
  (ok = false ∧ e = .returned (.tuple #[zeroV, .int .i64 1]) ∧ Q w w') ∨ (ok = true ∧ ∃ v', e = .returned (.tuple #[v'.val, .int .i64 0]) ∧ v'.m = newR kind size piece ∧ RmR w' v' ∧ FrA w.heap.size none v'.A [] v'.m.bl ∧ FrA w.heap.size none v'.B [] v'.m.ys ∧ Q w w')
theorem repl_succ (i : Nat) : (List.replicate (i + 1) (-1 : Int)).flatMap encN = (List.replicate i (-1 : Int)).flatMap encN ++ [.int .i64 (-1)] := by
  rw [List.replicate_succ', List.flatMap_append]
  rfl
set_option maxRecDepth 100000 in
set_option maxHeartbeats 8000000 in
theorem rNew_bad1 (kind size piece : Int) (w : World) (h1 : (decide (0 ≤ kind) && decide (kind ≤ 3)) = false) : Calls Tryz.prog 6 #[.int .i64 kind, .int .i64 size, .int .i64 piece] w (RNewPost false kind size piece w) := by
  obtain ⟨b2, h2⟩ : ∃ b2, (decide (1 ≤ size) && decide (size ≤ 4096)) = b2 := ⟨_, rfl⟩
  obtain ⟨b3, h3⟩ : ∃ b3, (decide (1 ≤ piece) && decide (piece ≤ size)) = b3 := ⟨_, rfl⟩
  have H1 : Hid (∀ W, Calls Tryz.prog 15 #[.int .i64 kind, .int .i64 0, .int .i64 3] W fun e w' => e = .returned (.bool false) ∧ W = w') := fun W => by
    have := within_any kind 0 3 W
    rw [h1] at this
    exact this
  have H2 : Hid (∀ W, Calls Tryz.prog 15 #[.int .i64 size, .int .i64 1, .int .i64 4096] W fun e w' => e = .returned (.bool b2) ∧ W = w') := fun W => by
    have := within_any size 1 4096 W
    rw [h2] at this
    exact this
  have H3 : Hid (∀ W, Calls Tryz.prog 15 #[.int .i64 piece, .int .i64 1, .int .i64 size] W fun e w' => e = .returned (.bool b3) ∧ W = w') := fun W => by
    have := within_any piece 1 size W
    rw [h3] at this
    exact this
  clear h1 h2 h3
  go_enter Tryz.func6, Tryz.ntmps6
  go_wp2_with fail
  refine (H1.out _).mono ?_
  rintro e w2 ⟨rfl, rfl⟩
  go_wp2_with fail
  have hg := heap_alloc_new w (.cells #[.int .i64 0, .int .i64 0, .int .i64 0, .slice none 0 0, .slice none 0 0, .int .i64 0, .int .i64 0, .int .i64 0, .int .i64 0] MT)
  refine bodyPost_ret (v := .tuple #[.agg #[.int .i64 0, .int .i64 0, .int .i64 0, .slice none 0 0, .slice none 0 0, .int .i64 0, .int .i64 0, .int .i64 0, .int .i64 0], .int .i64 1]) (ret_m2 (p := 6) (u := 7) rfl rfl (by simp) (by simp) hg) rfl ?_
  exact .inl ⟨rfl, rfl, (Q.refl w).alloc _⟩
set_option maxRecDepth 100000 in
set_option maxHeartbeats 8000000 in
theorem rNew_bad2 (kind size piece : Int) (w : World) (h1 : (decide (0 ≤ kind) && decide (kind ≤ 3)) = true) (h2 : (decide (1 ≤ size) && decide (size ≤ 4096)) = false) : Calls Tryz.prog 6 #[.int .i64 kind, .int .i64 size, .int .i64 piece] w (RNewPost false kind size piece w) := by
  obtain ⟨b3, h3⟩ : ∃ b3, (decide (1 ≤ piece) && decide (piece ≤ size)) = b3 := ⟨_, rfl⟩
  have H1 : Hid (∀ W, Calls Tryz.prog 15 #[.int .i64 kind, .int .i64 0, .int .i64 3] W fun e w' => e = .returned (.bool true) ∧ W = w') := fun W => by
    have := within_any kind 0 3 W
    rw [h1] at this
    exact this
  have H2 : Hid (∀ W, Calls Tryz.prog 15 #[.int .i64 size, .int .i64 1, .int .i64 4096] W fun e w' => e = .returned (.bool false) ∧ W = w') := fun W => by
    have := within_any size 1 4096 W
    rw [h2] at this
    exact this
  have H3 : Hid (∀ W, Calls Tryz.prog 15 #[.int .i64 piece, .int .i64 1, .int .i64 size] W fun e w' => e = .returned (.bool b3) ∧ W = w') := fun W => by
    have := within_any piece 1 size W
    rw [h3] at this
    exact this
  clear h1 h2 h3
  go_enter Tryz.func6, Tryz.ntmps6
  go_wp2_with fail
  refine (H1.out _).mono ?_
  rintro e w2 ⟨rfl, rfl⟩
  go_wp2_with fail
  refine (H2.out _).mono ?_
  rintro e w3 ⟨rfl, rfl⟩
  go_wp2_with fail
  have hg := heap_alloc_new w (.cells #[.int .i64 0, .int .i64 0, .int .i64 0, .slice none 0 0, .slice none 0 0, .int .i64 0, .int .i64 0, .int .i64 0, .int .i64 0] MT)
  refine bodyPost_ret (v := .tuple #[.agg #[.int .i64 0, .int .i64 0, .int .i64 0, .slice none 0 0, .slice none 0 0, .int .i64 0, .int .i64 0, .int .i64 0, .int .i64 0], .int .i64 1]) (ret_m2 (p := 6) (u := 7) rfl rfl (by simp) (by simp) hg) rfl ?_
  exact .inl ⟨rfl, rfl, (Q.refl w).alloc _⟩
set_option maxRecDepth 100000 in
set_option maxHeartbeats 8000000 in
theorem rNew_bad3 (kind size piece : Int) (w : World) (hk : kind = 3) (h1 : (decide (0 ≤ kind) && decide (kind ≤ 3)) = true) (h2 : (decide (1 ≤ size) && decide (size ≤ 4096)) = true) (h3 : (decide (1 ≤ piece) && decide (piece ≤ size)) = false) : Calls Tryz.prog 6 #[.int .i64 kind, .int .i64 size, .int .i64 piece] w (RNewPost false kind size piece w) := by
  have H1 : Hid (∀ W, Calls Tryz.prog 15 #[.int .i64 kind, .int .i64 0, .int .i64 3] W fun e w' => e = .returned (.bool true) ∧ W = w') := fun W => by
    have := within_any kind 0 3 W
    rw [h1] at this
    exact this
  have H2 : Hid (∀ W, Calls Tryz.prog 15 #[.int .i64 size, .int .i64 1, .int .i64 4096] W fun e w' => e = .returned (.bool true) ∧ W = w') := fun W => by
    have := within_any size 1 4096 W
    rw [h2] at this
    exact this
  have H3 : Hid (∀ W, Calls Tryz.prog 15 #[.int .i64 piece, .int .i64 1, .int .i64 size] W fun e w' => e = .returned (.bool false) ∧ W = w') := fun W => by
    have := within_any piece 1 size W
    rw [h3] at this
    exact this
  subst hk
  clear h1 h2 h3
  go_enter Tryz.func6, Tryz.ntmps6
  go_wp2_with fail
  refine (H1.out _).mono ?_
  rintro e w2 ⟨rfl, rfl⟩
  go_wp2_with fail
  refine (H2.out _).mono ?_
  rintro e w3 ⟨rfl, rfl⟩
  go_wp2_with fail
  refine (H3.out _).mono ?_
  rintro e w4 ⟨rfl, rfl⟩
  go_wp2_with fail
  have hg := heap_alloc_new w (.cells #[.int .i64 0, .int .i64 0, .int .i64 0, .slice none 0 0, .slice none 0 0, .int .i64 0, .int .i64 0, .int .i64 0, .int .i64 0] MT)
  refine bodyPost_ret (v := .tuple #[.agg #[.int .i64 0, .int .i64 0, .int .i64 0, .slice none 0 0, .slice none 0 0, .int .i64 0, .int .i64 0, .int .i64 0, .int .i64 0], .int .i64 1]) (ret_m2 (p := 6) (u := 7) rfl rfl (by simp) (by simp) hg) rfl ?_
  exact .inl ⟨rfl, rfl, (Q.refl w).alloc _⟩
set_option maxRecDepth 100000 in
set_option maxHeartbeats 8000000 in
theorem rNew_bad4 (kind size piece : Int) (w : World) (hk : ¬kind = 3) (hp : ¬piece = 0) (h1 : (decide (0 ≤ kind) && decide (kind ≤ 3)) = true) (h2 : (decide (1 ≤ size) && decide (size ≤ 4096)) = true) : Calls Tryz.prog 6 #[.int .i64 kind, .int .i64 size, .int .i64 piece] w (RNewPost false kind size piece w) := by
  obtain ⟨b3, h3⟩ : ∃ b3, (decide (1 ≤ piece) && decide (piece ≤ size)) = b3 := ⟨_, rfl⟩
  have H1 : Hid (∀ W, Calls Tryz.prog 15 #[.int .i64 kind, .int .i64 0, .int .i64 3] W fun e w' => e = .returned (.bool true) ∧ W = w') := fun W => by
    have := within_any kind 0 3 W
    rw [h1] at this
    exact this
  have H2 : Hid (∀ W, Calls Tryz.prog 15 #[.int .i64 size, .int .i64 1, .int .i64 4096] W fun e w' => e = .returned (.bool true) ∧ W = w') := fun W => by
    have := within_any size 1 4096 W
    rw [h2] at this
    exact this
  have H3 : Hid (∀ W, Calls Tryz.prog 15 #[.int .i64 piece, .int .i64 1, .int .i64 size] W fun e w' => e = .returned (.bool b3) ∧ W = w') := fun W => by
    have := within_any piece 1 size W
    rw [h3] at this
    exact this
  have e1 : (kind == 3) = false := by simpa using hk
  have e2 : (kind != 3) = true := by simpa using hk
  have e3 : (piece != 0) = true := by simpa using hp
  have e4 : decide (kind = 3) = false := by simpa using hk
  have e5 : decide (piece = 0) = false := by simpa using hp
  clear h1 h2 h3
  go_enter Tryz.func6, Tryz.ntmps6
  go_wp2_with fail
  refine (H1.out _).mono ?_
  rintro e w2 ⟨rfl, rfl⟩
  go_wp2_with fail
  refine (H2.out _).mono ?_
  rintro e w3 ⟨rfl, rfl⟩
  go_wp2_with fail
  have hg := heap_alloc_new w (.cells #[.int .i64 0, .int .i64 0, .int .i64 0, .slice none 0 0, .slice none 0 0, .int .i64 0, .int .i64 0, .int .i64 0, .int .i64 0] MT)
  refine bodyPost_ret (v := .tuple #[.agg #[.int .i64 0, .int .i64 0, .int .i64 0, .slice none 0 0, .slice none 0 0, .int .i64 0, .int .i64 0, .int .i64 0, .int .i64 0], .int .i64 1]) (ret_m2 (p := 6) (u := 7) rfl rfl (by simp) (by simp) hg) rfl ?_
  exact .inl ⟨rfl, rfl, (Q.refl w).alloc _⟩
set_option maxRecDepth 100000 in
set_option maxHeartbeats 8000000 in
theorem rNew_good3 (kind size piece : Int) (w : World) (hk : kind = 3) (h1 : (decide (0 ≤ kind) && decide (kind ≤ 3)) = true) (h2 : (decide (1 ≤ size) && decide (size ≤ 4096)) = true) (h3 : (decide (1 ≤ piece) && decide (piece ≤ size)) = true) : Calls Tryz.prog 6 #[.int .i64 kind, .int .i64 size, .int .i64 piece] w (RNewPost true kind size piece w) := by
  have H1 : Hid (∀ W, Calls Tryz.prog 15 #[.int .i64 kind, .int .i64 0, .int .i64 3] W fun e w' => e = .returned (.bool true) ∧ W = w') := fun W => by
    have := within_any kind 0 3 W
    rw [h1] at this
    exact this
  have H2 : Hid (∀ W, Calls Tryz.prog 15 #[.int .i64 size, .int .i64 1, .int .i64 4096] W fun e w' => e = .returned (.bool true) ∧ W = w') := fun W => by
    have := within_any size 1 4096 W
    rw [h2] at this
    exact this
  have H3 : Hid (∀ W, Calls Tryz.prog 15 #[.int .i64 piece, .int .i64 1, .int .i64 size] W fun e w' => e = .returned (.bool true) ∧ W = w') := fun W => by
    have := within_any piece 1 size W
    rw [h3] at this
    exact this
  have hs12 : 1 ≤ size ∧ size ≤ 4096 := by simpa using h2
  subst hk
  clear h1 h2 h3
  obtain ⟨n, rfl⟩ : ∃ n : Nat, size = (n : Int) := ⟨size.toNat, by omega⟩
  obtain ⟨hs1, hs2⟩ := hs12
  have hn : n ≤ 4096 := by omega
  obtain ⟨w1, hw1⟩ : ∃ w1, (w.alloc (.cells #[.int .i64 0, .int .i64 0, .int .i64 0, .slice none 0 0, .slice none 0 0, .int .i64 0, .int .i64 0, .int .i64 0, .int .i64 0] MT)).alloc (.cells #[.int .i64 3, .int .i64 (n : Int), .int .i64 piece, .slice none 0 0, (.slice none 0 0), .int .i64 0, .int .i64 0, .int .i64 0, .int .i64 0] MT) = w1 := ⟨_, rfl⟩
  have hq1 : Q w w1 := by rw [← hw1]; exact ((Q.refl w).alloc _).alloc _
  have hb1 : w.heap.size + 1 < w1.heap.size := by rw [← hw1]; simp
  have hb0 : w.heap.size < w1.heap.size := by omega
  have q0 : w1.heap[w.heap.size]? = some (.cells #[.int .i64 0, .int .i64 0, .int .i64 0, .slice none 0 0, .slice none 0 0, .int .i64 0, .int .i64 0, .int .i64 0, .int .i64 0] MT (0, 0)) := by
    rw [← hw1, ((Q.refl (w.alloc _)).alloc _).below.block _ (by simp)]
    exact heap_alloc_new w _
  have q1 : w1.heap[w.heap.size + 1]? = some (.cells #[.int .i64 3, .int .i64 (n : Int), .int .i64 piece, .slice none 0 0, (.slice none 0 0), .int .i64 0, .int .i64 0, .int .i64 0, .int .i64 0] MT (0, 0)) := by
    have h := heap_alloc_new (w.alloc (.cells #[.int .i64 0, .int .i64 0, .int .i64 0, .slice none 0 0, .slice none 0 0, .int .i64 0, .int .i64 0, .int .i64 0, .int .i64 0] MT)) (.cells #[.int .i64 3, .int .i64 (n : Int), .int .i64 piece, .slice none 0 0, (.slice none 0 0), .int .i64 0, .int .i64 0, .int .i64 0, .int .i64 0] MT)
    rw [show (w.alloc (.cells #[.int .i64 0, .int .i64 0, .int .i64 0, .slice none 0 0, .slice none 0 0, .int .i64 0, .int .i64 0, .int .i64 0, .int .i64 0] MT)).heap.size = w.heap.size + 1 by simp, hw1] at h
    exact h
  have HR0 := hide q0
  have HR1 := hide q1
  have HQ1 := hide hq1
  have HW1 := hide hw1
  clear hw1 q0 q1 hq1
  go_enter Tryz.func6, Tryz.ntmps6
  go_wp2_with fail
  refine (H1.out _).mono ?_
  rintro e w2 ⟨rfl, rfl⟩
  go_wp2_with fail
  refine (H2.out _).mono ?_
  rintro e w3 ⟨rfl, rfl⟩
  go_wp2_with fail
  refine (H3.out _).mono ?_
  rintro e w4 ⟨rfl, rfl⟩
  go_wp2_with fail
  rw [HW1.out]
  go_loopw [9] (fun vi wr => ∃ (i : Nat) (vB : Value), i ≤ n ∧ vi = .int .i64 (i : Int) ∧ wr.ownsRow w1.heap.size 3 1 vB i ((List.replicate i (-1 : Int)).flatMap encN) ∧ wr.heap[w.heap.size + 1]? = some (.cells #[.int .i64 3, .int .i64 (n : Int), .int .i64 piece, .slice none 0 0, vB, .int .i64 0, .int .i64 0, .int .i64 0, .int .i64 0] MT (0, 0)) ∧ wr.heap[w.heap.size]? = some (.cells #[.int .i64 0, .int .i64 0, .int .i64 0, .slice none 0 0, .slice none 0 0, .int .i64 0, .int .i64 0, .int .i64 0, .int .i64 0] MT (0, 0)) ∧ Q w wr ∧ w1.heap.size ≤ wr.heap.size) (fun vi _ => n - (intOf vi).toNat)
  case atStart => exact ⟨0, .slice none 0 0, by omega, by go_num, World.ownsRow_nil _ _ _ _, HR1.out, HR0.out, HQ1.out, Nat.le_refl _⟩
  case round =>
    obtain ⟨i, vB, hi, rfl, hown, q1, q0, hqr, hsz⟩ := hrel
    obtain ⟨A', c', rfl, ho1, ho2, ho3, -⟩ := own_form hown
    have hs0 := blk_lt q0
    have hs1 := blk_lt q1
    have HQ := hide hqr
    have HR0 := hide q0
    have HR1 := hide q1
    have HOW := hide hown
    by_cases hlt : i < n
    · have hd1 : decide ((i : Int) < (n : Int)) = true := by simp; omega
      have hd0 : decide (i < n) = true := by simp; omega
      have hlti : (i : Int) < (n : Int) := by omega
      have k4 : wr.cell? ⟨w.heap.size + 1, 4, none⟩ = some (.slice A' i c') := (cell_of_row _ _ _ _ _ _ q1).trans rfl
      clear q0 q1 hqr ho3
      go_wp2_with (at_builtin; (refine wpList_app1 rfl El_int _ _ rfl rfl hown (by simp) rfl rfl ?_ ?_ ?_ ?_; (focus (simp [Value.oneCell'])); (focus omega); (focus omega); intro v5 w5 hown5 hb5; have q1 := (hb5.block _ hb1).trans HR1.out; have q0 := (hb5.block _ hb0).trans HR0.out; have HOW5 := hide hown5; obtain ⟨A5, c5, e5, -⟩ := own_form hown5; subst e5; have HR10 := hide q0; have HR11 := hide q1; have HB5 := hide hb5; have k4 : w5.cell? ⟨w.heap.size + 1, 4, none⟩ = some (.slice A' i c') := (by rw [cell_of_row _ _ _ _ _ _ q1]; rfl); have f4 : w5.frozen? ⟨w.heap.size + 1, 4, none⟩ = false := frozen_of_row _ _ _ _ _ q1; have hs5 : w5.heap.size = w5.heap.size := rfl; clear hown5 q0 q1))
      obtain ⟨W6, hW6⟩ : ∃ W6, w5.setCell ⟨w.heap.size + 1, 4, none⟩ (.slice A5 (i + 1) c5) = W6 := ⟨_, rfl⟩
      rw [hW6]
      have HO6 : Hid (W6.ownsRow w1.heap.size 3 1 (.slice A5 (i + 1) c5) (i + 1) ((List.replicate (i + 1) (-1 : Int)).flatMap encN)) := by
        rw [← hW6, repl_succ]
        exact own1 HOW5.out hb1
      have HR61 : Hid (W6.heap[w.heap.size + 1]? = some (.cells #[.int .i64 3, .int .i64 (n : Int), .int .i64 piece, .slice none 0 0, (.slice A5 (i + 1) c5), .int .i64 0, .int .i64 0, .int .i64 0, .int .i64 0] MT (0, 0))) := by
        rw [← hW6]
        exact heap_setCell_same w5 (w.heap.size + 1) 4 _ _ _ HR11.out
      have HR60 : Hid (W6.heap[w.heap.size]? = some (.cells #[.int .i64 0, .int .i64 0, .int .i64 0, .slice none 0 0, .slice none 0 0, .int .i64 0, .int .i64 0, .int .i64 0, .int .i64 0] MT (0, 0))) := by
        rw [← hW6]
        exact (heap_setCell_other _ _ _ _ (by simp)).trans HR10.out
      have HQ6 : Hid (Q w W6) := by
        rw [← hW6]
        exact (q_below HQ.out HB5.out (by omega)).set (p := ⟨w.heap.size + 1, 4, none⟩) (by show w.heap.size ≤ w.heap.size + 1; omega) _
      have hs6 : w1.heap.size ≤ W6.heap.size := by
        rw [← hW6]
        have h1 := HB5.out.size
        simp [World.setCell]
        omega
      clear hW6 HOW5 HR11 HR10 HB5
      go_wp2_with fail
      go_roundw
      case rel => exact ⟨i + 1, .slice A5 (i + 1) c5, by omega, by go_num, HO6.out, HR61.out, HR60.out, HQ6.out, hs6⟩
      case measure => simp [intOf] <;> omega
    · have hd1 : decide ((i : Int) < (n : Int)) = false := by simp; omega
      have hd0 : decide (i < n) = false := by simp; omega
      obtain rfl : i = n := by omega
      obtain ⟨k0, k1, k2, k3, k4, k5, k6, k7, k8⟩ := cells9 q1
      obtain ⟨z0, z1, z2, z3, z4, z5, z6, z7, z8⟩ := cells9 q0
      obtain ⟨y0, y1, y2, y3, y4, y5, y6, y7, y8⟩ := free9 q0
      clear q0 q1 hqr ho3 hown
      go_wp2_with fail
      have hg := row9 (w := wr) (b := w.heap.size) (.int .i64 3) (.int .i64 (i : Int)) (.int .i64 piece) (.slice none 0 0) ((.slice A' i c')) (.int .i64 0) (.int .i64 0) (.int .i64 0) (.int .i64 0) HR0.out
      have hO := own9 (w := wr) (b := w.heap.size) (.int .i64 3) (.int .i64 (i : Int)) (.int .i64 piece) (.slice none 0 0) ((.slice A' i c')) (.int .i64 0) (.int .i64 0) (.int .i64 0) (.int .i64 0) HOW.out hb0
      have hF := q9 (w0 := w) (w := wr) (b := w.heap.size) (.int .i64 3) (.int .i64 (i : Int)) (.int .i64 piece) (.slice none 0 0) ((.slice A' i c')) (.int .i64 0) (.int .i64 0) (.int .i64 0) (.int .i64 0) HQ.out (Nat.le_refl _)
      refine bodyPost_ret (v := .tuple #[.agg #[.int .i64 3, .int .i64 (i : Int), .int .i64 piece, .slice none 0 0, (.slice A' i c'), .int .i64 0, .int .i64 0, .int .i64 0, .int .i64 0], .int .i64 0]) (ret_m2 (p := 6) (u := 7) rfl rfl (by simp) (by simp) hg) rfl ?_
      have hy := Sl.own (enc := encN) hO (fun _ => rfl) (by decide)
      have hyn : A' = none → i = 0 ∧ c' = 0 := fun h => by
        rw [h] at hO
        exact own_none hO
      exact .inr ⟨rfl, ⟨none, 0, 0, A', i, c', ⟨3, i, piece, [], List.replicate i (-1), 0, 0, 0, 0⟩⟩, rfl, rfl, ⟨Sl.nil _, hy, fun _ => ⟨rfl, rfl⟩, hyn, TyA.none _ _, TyA.own hO⟩, .inl ⟨rfl, rfl⟩, fr_own (own_low hO (by omega)), hF⟩
set_option maxRecDepth 100000 in
set_option maxHeartbeats 8000000 in
theorem rNew_good (kind size piece : Int) (w : World) (hk : ¬kind = 3) (hp : piece = 0) (h1 : (decide (0 ≤ kind) && decide (kind ≤ 3)) = true) (h2 : (decide (1 ≤ size) && decide (size ≤ 4096)) = true) : Calls Tryz.prog 6 #[.int .i64 kind, .int .i64 size, .int .i64 piece] w (RNewPost true kind size piece w) := by
  obtain ⟨b3, h3⟩ : ∃ b3, (decide (1 ≤ piece) && decide (piece ≤ size)) = b3 := ⟨_, rfl⟩
  have H1 : Hid (∀ W, Calls Tryz.prog 15 #[.int .i64 kind, .int .i64 0, .int .i64 3] W fun e w' => e = .returned (.bool true) ∧ W = w') := fun W => by
    have := within_any kind 0 3 W
    rw [h1] at this
    exact this
  have H2 : Hid (∀ W, Calls Tryz.prog 15 #[.int .i64 size, .int .i64 1, .int .i64 4096] W fun e w' => e = .returned (.bool true) ∧ W = w') := fun W => by
    have := within_any size 1 4096 W
    rw [h2] at this
    exact this
  have H3 : Hid (∀ W, Calls Tryz.prog 15 #[.int .i64 piece, .int .i64 1, .int .i64 size] W fun e w' => e = .returned (.bool b3) ∧ W = w') := fun W => by
    have := within_any piece 1 size W
    rw [h3] at this
    exact this
  have hs12 : 1 ≤ size ∧ size ≤ 4096 := by simpa using h2
  subst hp
  have e1 : (kind == 3) = false := by simpa using hk
  have e2 : (kind != 3) = true := by simpa using hk
  have e4 : decide (kind = 3) = false := by simpa using hk
  clear h1 h2 h3
  obtain ⟨n, rfl⟩ : ∃ n : Nat, size = (n : Int) := ⟨size.toNat, by omega⟩
  obtain ⟨hs1, hs2⟩ := hs12
  have hn : n ≤ 4096 := by omega
  obtain ⟨w1, hw1⟩ : ∃ w1, (w.alloc (.cells #[.int .i64 0, .int .i64 0, .int .i64 0, .slice none 0 0, .slice none 0 0, .int .i64 0, .int .i64 0, .int .i64 0, .int .i64 0] MT)).alloc (.cells #[.int .i64 kind, .int .i64 (n : Int), .int .i64 0, .slice none 0 0, (.slice none 0 0), .int .i64 0, .int .i64 0, .int .i64 0, .int .i64 0] MT) = w1 := ⟨_, rfl⟩
  have hq1 : Q w w1 := by rw [← hw1]; exact ((Q.refl w).alloc _).alloc _
  have hb1 : w.heap.size + 1 < w1.heap.size := by rw [← hw1]; simp
  have hb0 : w.heap.size < w1.heap.size := by omega
  have q0 : w1.heap[w.heap.size]? = some (.cells #[.int .i64 0, .int .i64 0, .int .i64 0, .slice none 0 0, .slice none 0 0, .int .i64 0, .int .i64 0, .int .i64 0, .int .i64 0] MT (0, 0)) := by
    rw [← hw1, ((Q.refl (w.alloc _)).alloc _).below.block _ (by simp)]
    exact heap_alloc_new w _
  have q1 : w1.heap[w.heap.size + 1]? = some (.cells #[.int .i64 kind, .int .i64 (n : Int), .int .i64 0, .slice none 0 0, (.slice none 0 0), .int .i64 0, .int .i64 0, .int .i64 0, .int .i64 0] MT (0, 0)) := by
    have h := heap_alloc_new (w.alloc (.cells #[.int .i64 0, .int .i64 0, .int .i64 0, .slice none 0 0, .slice none 0 0, .int .i64 0, .int .i64 0, .int .i64 0, .int .i64 0] MT)) (.cells #[.int .i64 kind, .int .i64 (n : Int), .int .i64 0, .slice none 0 0, (.slice none 0 0), .int .i64 0, .int .i64 0, .int .i64 0, .int .i64 0] MT)
    rw [show (w.alloc (.cells #[.int .i64 0, .int .i64 0, .int .i64 0, .slice none 0 0, .slice none 0 0, .int .i64 0, .int .i64 0, .int .i64 0, .int .i64 0] MT)).heap.size = w.heap.size + 1 by simp, hw1] at h
    exact h
  have HR0 := hide q0
  have HR1 := hide q1
  have HQ1 := hide hq1
  have HW1 := hide hw1
  clear hw1 q0 q1 hq1
  go_enter Tryz.func6, Tryz.ntmps6
  go_wp2_with fail
  refine (H1.out _).mono ?_
  rintro e w2 ⟨rfl, rfl⟩
  go_wp2_with fail
  refine (H2.out _).mono ?_
  rintro e w3 ⟨rfl, rfl⟩
  go_wp2_with fail
  rw [HW1.out]
  go_loopw [9] (fun vi wr => ∃ (i : Nat) (vB : Value), i ≤ n ∧ vi = .int .i64 (i : Int) ∧ wr.ownsRow w1.heap.size 3 1 vB i ((List.replicate i (-1 : Int)).flatMap encN) ∧ wr.heap[w.heap.size + 1]? = some (.cells #[.int .i64 kind, .int .i64 (n : Int), .int .i64 0, .slice none 0 0, vB, .int .i64 0, .int .i64 0, .int .i64 0, .int .i64 0] MT (0, 0)) ∧ wr.heap[w.heap.size]? = some (.cells #[.int .i64 0, .int .i64 0, .int .i64 0, .slice none 0 0, .slice none 0 0, .int .i64 0, .int .i64 0, .int .i64 0, .int .i64 0] MT (0, 0)) ∧ Q w wr ∧ w1.heap.size ≤ wr.heap.size) (fun vi _ => n - (intOf vi).toNat)
  case atStart => exact ⟨0, .slice none 0 0, by omega, by go_num, World.ownsRow_nil _ _ _ _, HR1.out, HR0.out, HQ1.out, Nat.le_refl _⟩
  case round =>
    obtain ⟨i, vB, hi, rfl, hown, q1, q0, hqr, hsz⟩ := hrel
    obtain ⟨A', c', rfl, ho1, ho2, ho3, -⟩ := own_form hown
    have hs0 := blk_lt q0
    have hs1 := blk_lt q1
    have HQ := hide hqr
    have HR0 := hide q0
    have HR1 := hide q1
    have HOW := hide hown
    by_cases hlt : i < n
    · have hd1 : decide ((i : Int) < (n : Int)) = true := by simp; omega
      have hd0 : decide (i < n) = true := by simp; omega
      have hlti : (i : Int) < (n : Int) := by omega
      have k4 : wr.cell? ⟨w.heap.size + 1, 4, none⟩ = some (.slice A' i c') := (cell_of_row _ _ _ _ _ _ q1).trans rfl
      clear q0 q1 hqr ho3
      go_wp2_with (at_builtin; (refine wpList_app1 rfl El_int _ _ rfl rfl hown (by simp) rfl rfl ?_ ?_ ?_ ?_; (focus (simp [Value.oneCell'])); (focus omega); (focus omega); intro v5 w5 hown5 hb5; have q1 := (hb5.block _ hb1).trans HR1.out; have q0 := (hb5.block _ hb0).trans HR0.out; have HOW5 := hide hown5; obtain ⟨A5, c5, e5, -⟩ := own_form hown5; subst e5; have HR10 := hide q0; have HR11 := hide q1; have HB5 := hide hb5; have k4 : w5.cell? ⟨w.heap.size + 1, 4, none⟩ = some (.slice A' i c') := (by rw [cell_of_row _ _ _ _ _ _ q1]; rfl); have f4 : w5.frozen? ⟨w.heap.size + 1, 4, none⟩ = false := frozen_of_row _ _ _ _ _ q1; have hs5 : w5.heap.size = w5.heap.size := rfl; clear hown5 q0 q1))
      obtain ⟨W6, hW6⟩ : ∃ W6, w5.setCell ⟨w.heap.size + 1, 4, none⟩ (.slice A5 (i + 1) c5) = W6 := ⟨_, rfl⟩
      rw [hW6]
      have HO6 : Hid (W6.ownsRow w1.heap.size 3 1 (.slice A5 (i + 1) c5) (i + 1) ((List.replicate (i + 1) (-1 : Int)).flatMap encN)) := by
        rw [← hW6, repl_succ]
        exact own1 HOW5.out hb1
      have HR61 : Hid (W6.heap[w.heap.size + 1]? = some (.cells #[.int .i64 kind, .int .i64 (n : Int), .int .i64 0, .slice none 0 0, (.slice A5 (i + 1) c5), .int .i64 0, .int .i64 0, .int .i64 0, .int .i64 0] MT (0, 0))) := by
        rw [← hW6]
        exact heap_setCell_same w5 (w.heap.size + 1) 4 _ _ _ HR11.out
      have HR60 : Hid (W6.heap[w.heap.size]? = some (.cells #[.int .i64 0, .int .i64 0, .int .i64 0, .slice none 0 0, .slice none 0 0, .int .i64 0, .int .i64 0, .int .i64 0, .int .i64 0] MT (0, 0))) := by
        rw [← hW6]
        exact (heap_setCell_other _ _ _ _ (by simp)).trans HR10.out
      have HQ6 : Hid (Q w W6) := by
        rw [← hW6]
        exact (q_below HQ.out HB5.out (by omega)).set (p := ⟨w.heap.size + 1, 4, none⟩) (by show w.heap.size ≤ w.heap.size + 1; omega) _
      have hs6 : w1.heap.size ≤ W6.heap.size := by
        rw [← hW6]
        have h1 := HB5.out.size
        simp [World.setCell]
        omega
      clear hW6 HOW5 HR11 HR10 HB5
      go_wp2_with fail
      go_roundw
      case rel => exact ⟨i + 1, .slice A5 (i + 1) c5, by omega, by go_num, HO6.out, HR61.out, HR60.out, HQ6.out, hs6⟩
      case measure => simp [intOf] <;> omega
    · have hd1 : decide ((i : Int) < (n : Int)) = false := by simp; omega
      have hd0 : decide (i < n) = false := by simp; omega
      obtain rfl : i = n := by omega
      obtain ⟨k0, k1, k2, k3, k4, k5, k6, k7, k8⟩ := cells9 q1
      obtain ⟨z0, z1, z2, z3, z4, z5, z6, z7, z8⟩ := cells9 q0
      obtain ⟨y0, y1, y2, y3, y4, y5, y6, y7, y8⟩ := free9 q0
      clear q0 q1 hqr ho3 hown
      go_wp2_with fail
      have hg := row9 (w := wr) (b := w.heap.size) (.int .i64 kind) (.int .i64 (i : Int)) (.int .i64 0) (.slice none 0 0) ((.slice A' i c')) (.int .i64 0) (.int .i64 0) (.int .i64 0) (.int .i64 0) HR0.out
      have hO := own9 (w := wr) (b := w.heap.size) (.int .i64 kind) (.int .i64 (i : Int)) (.int .i64 0) (.slice none 0 0) ((.slice A' i c')) (.int .i64 0) (.int .i64 0) (.int .i64 0) (.int .i64 0) HOW.out hb0
      have hF := q9 (w0 := w) (w := wr) (b := w.heap.size) (.int .i64 kind) (.int .i64 (i : Int)) (.int .i64 0) (.slice none 0 0) ((.slice A' i c')) (.int .i64 0) (.int .i64 0) (.int .i64 0) (.int .i64 0) HQ.out (Nat.le_refl _)
      refine bodyPost_ret (v := .tuple #[.agg #[.int .i64 kind, .int .i64 (i : Int), .int .i64 0, .slice none 0 0, (.slice A' i c'), .int .i64 0, .int .i64 0, .int .i64 0, .int .i64 0], .int .i64 0]) (ret_m2 (p := 6) (u := 7) rfl rfl (by simp) (by simp) hg) rfl ?_
      have hy := Sl.own (enc := encN) hO (fun _ => rfl) (by decide)
      have hyn : A' = none → i = 0 ∧ c' = 0 := fun h => by
        rw [h] at hO
        exact own_none hO
      exact .inr ⟨rfl, ⟨none, 0, 0, A', i, c', ⟨kind, i, 0, [], List.replicate i (-1), 0, 0, 0, 0⟩⟩, rfl, rfl, ⟨Sl.nil _, hy, fun _ => ⟨rfl, rfl⟩, hyn, TyA.none _ _, TyA.own hO⟩, .inl ⟨rfl, rfl⟩, fr_own (own_low hO (by omega)), hF⟩
theorem rNew_any (kind size piece : Int) (w : World) : Calls Tryz.prog 6 #[.int .i64 kind, .int .i64 size, .int .i64 piece] w (RNewPost (shapeB kind size piece) kind size piece w) := by
  cases h1 : (decide (0 ≤ kind) && decide (kind ≤ 3))
  · have hs : shapeB kind size piece = false := by unfold shapeB; rw [h1]; simp
    rw [hs]
    exact rNew_bad1 kind size piece w h1
  cases h2 : (decide (1 ≤ size) && decide (size ≤ 4096))
  · have hs : shapeB kind size piece = false := by unfold shapeB; rw [h1, Bool.true_and, h2]; simp
    rw [hs]
    exact rNew_bad2 kind size piece w h1 h2
  have hs0 : shapeB kind size piece = (if kind = 3 then decide (1 ≤ piece) && decide (piece ≤ size) else decide (piece = 0)) := by unfold shapeB; rw [h1, Bool.true_and, h2, Bool.true_and]
  rw [hs0]
  by_cases hk : kind = 3
  · rw [if_pos hk]
    cases h3 : (decide (1 ≤ piece) && decide (piece ≤ size))
    · exact rNew_bad3 kind size piece w hk h1 h2 h3
    · exact rNew_good3 kind size piece w hk h1 h2 h3
  · rw [if_neg hk]
    by_cases hp : piece = 0
    · rw [decide_eq_true hp]
      exact rNew_good kind size piece w hk hp h1 h2
    · rw [decide_eq_false hp]
      exact rNew_bad4 kind size piece w hk hp h1 h2
end Go.Proofs.YtegpkcbmgjoicaaGreat
