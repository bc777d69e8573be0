/- The reference's Resize: a block that stays where it is. Conditions: its slices read so, its numbers are near. -/
import Derived.Test.YtegpkcbmgjoicaaGreatHsU4
import Derived.Deep.DeepCutAuto
namespace Go.Proofs.YtegpkcbmgjoicaaGreat
open Go.RowKit HP
set_option linter.unusedVariables false
namespace Ri
section
variable {P : Program} {R : Exit → Act → World → Prop} {o : Oper} {A : Act} {w : World}
theorem run_add {x y : Operand} {t t' : TypeId} {p u : Int} (ho : o.op = .binOp .add t x y t') (hx : A.eval x = .int .i64 p) (hy : A.eval y = .int .i64 u) (hu : P.underlying t = some (.int .i64)) (h0 : -9223372036854775808 ≤ p + u) (h1 : p + u ≤ 9223372036854775807) : (execOp A.eval o).run P w = .ok (.value (.int .i64 (p + u))) w := by
  have e : IntKind.i64.wrap (p + u) = p + u := by rw [IntKind.wrap_i64]; omega
  unfold execOp
  simp only [ho, hx, hy]
  simp [go_sem, e]
theorem run_idxA {t e : TypeId} {x y : Operand} {g off n k sz : Nat} (ho : o.op = .indexAddr t x y) (hx : A.eval x = .pointer (some ⟨g, off, none⟩)) (hy : A.eval y = .int .i64 (k : Int)) (hu : P.underlying t = some (.array n e)) (hs : (P.info? e).map (·.size) = some sz) (hk : k < n) :
    (execOp A.eval o).run P w = .ok (.value (.pointer (some ⟨g, off + k * sz, none⟩))) w := by
  have hsz : (sizeOf e).run P w = .ok sz w := by
    cases hq : P.info? e with
    | none => simp [hq] at hs
    | some i => simp [hq] at hs; simp [sizeOf, typeInfo, hq, hs]
  have he : P.elem t = e := by unfold Program.elem; simp [hu]
  have hn : P.arrayLen t = n := by unfold Program.arrayLen; simp [hu]
  have hu' : P.underlying t = some (.array (P.arrayLen t) (P.elem t)) := by rw [he, hn]; exact hu
  unfold execOp
  simp only [ho, hx, hy]
  have h1 : (k : Int) < (n : Int) := by omega
  simp [run_indexAt_array (P := P) w t _ .i64 (k : Int) hu', he, hn, hsz, hk, addr_add, Result.andThen]
/-- the whole of a row is stored -/
theorem wp_row {T : World → World → Prop} {φ : Value → World → Prop} {ty t : TypeId} {x y : Operand} {g : Nat} {cells old : Array Value} (ho : o.op = .store ty x y) (hx : A.eval x = .pointer (some ⟨g, 0, none⟩)) (hy : A.eval y = .agg cells) (hd : o.dst = none) (hg : w.heap[g]? = some (.cells old t (0, 0))) (hi : (P.info? ty).map (·.size) = some cells.size) (hold : old.size = cells.size) (h1 : cells.all (·.oneCell') = true)
    (hT : T w (w.setRow g cells)) (hφ : φ undef (w.setRow g cells)) : o.wp P A w (fun a' w' => ∃ v, a' = A.put o.dst v ∧ T w w' ∧ φ v w') R :=
  wp_store_row ty x y ho g cells hx hy t old hg hi hold h1 ⟨undef, rfl, hT, hφ⟩
end
end Ri
theorem one_encP (xs : List (Int × Int)) : ∀ u ∈ xs.flatMap encP, u.oneCell' = true := fun u hu => by
  obtain ⟨p, -, h⟩ := List.mem_flatMap.1 hu
  simp only [encP, List.mem_cons, List.mem_nil_iff, or_false] at h
  rcases h with rfl | rfl <;> rfl
theorem flat_setP : ∀ (xs : List (Int × Int)) (j : Nat) (x z y : Int), xs[j]? = some (x, y) → ((xs.flatMap encP).set (j * 2) (.int .i64 x)).set (j * 2 + 1) (.int .i64 z) = (xs.set j (x, z)).flatMap encP
  | [], j, x, z, y, h => by simp at h
  | p :: xs, 0, x, z, y, h => by
    simp at h
    subst h
    simp [encP]
  | p :: xs, j + 1, x, z, y, h => by
    have ih := flat_setP xs j x z y (by simpa using h)
    simp only [List.flatMap_cons, encP, List.cons_append, List.nil_append, List.set_cons_succ]
    rw [show (j + 1) * 2 = j * 2 + 1 + 1 by omega]
    simp only [List.set_cons_succ, List.flatMap_cons, encP, List.cons_append, List.nil_append]
    rw [ih]
theorem flatP0 : ∀ {xs : List (Int × Int)} {j : Nat} {x y : Int}, xs[j]? = some (x, y) → (xs.flatMap encP)[j * 2]? = some (.int .i64 x) := fun h => by
  have := flatMap_get (k := 2) (enc := encP) (fun _ => rfl) _ _ 0 _ h (by omega)
  simpa [encP] using this
theorem flatP1 : ∀ {xs : List (Int × Int)} {j : Nat} {x y : Int}, xs[j]? = some (x, y) → (xs.flatMap encP)[j * 2 + 1]? = some (.int .i64 y) := fun h => flatMap_get (k := 2) (enc := encP) (fun _ => rfl) _ _ 1 _ h (by omega)
/-- the reference's heap, as a value, and as the cells of a block -/
def rmV (M : RM) (v1 : RV) (N : Nat) (v : Value) (W : World) : Prop := ∃ v', v = v'.val ∧ v'.m = M ∧ RmR W v' ∧ Fr N v1 v'
def rmX (b : Nat) (M : RM) (v1 : RV) (N : Nat) (W : World) : Prop := ∃ v', W.heap[b]? = some (.cells v'.cells MT (0, 0)) ∧ v'.m = M ∧ RmR W v' ∧ Fr N v1 v'
theorem rmX_q (b : Nat) (M : RM) (v1 : RV) (N : Nat) : ∀ w w', rmX b M v1 N w → Q w w' → rmX b M v1 N w' := fun w w' ⟨v', h1, h2, h3, h4⟩ hq => ⟨v', (hq.below.block b (blk_lt h1)).trans h1, h2, h3.up hq, h4⟩
theorem rmV_t {b : Nat} {M M2 : RM} {v1 : RV} {N : Nat} {v : Value} {w0 w w' : World} (h0 : RmR w0 v1) (hb1 : w0.heap.size ≤ b) (hb2 : b < N) (h : rmV M v1 N v w) (ht : Ri.TX b (rmX b M2 v1 N) w w') : rmV M v1 N v w' := by
  obtain ⟨v', h1, h2, h3, h4⟩ := h
  exact ⟨v', h1, h2, RmR.keep h0 h3 h4 hb1 hb2 (fun g hg hne => ht.block g hg hne) ht.size, h4⟩
set_option maxRecDepth 100000 in
set_option maxHeartbeats 8000000 in
theorem rResize_stay_a (v : RV) (at_ z : Int) (j : Nat) (x y : Int) (w : World) (H : RmR w v) (N : RmN v.m) (hz : (decide (1 ≤ z) && decide (z ≤ 4096)) = true) (hx : v.m.bl[j]? = some (x, y)) (hi : idxI (fun p => p.1 == at_) v.m.bl = (j : Int)) (hf : (countR v.m).2 = false) (hcl : v.m.calls < 1000000) (hst : staysR (countR v.m).1 j x y z = true) (hfit : x + z ≤ v.m.size) (hkd : v.m.kind = 1) (heq : x + y = v.m.top) :
    Calls Tryz.prog 25 #[v.val, .int .i64 at_, .int .i64 z] w (MPost2 (peakR (setR (growR (countR v.m).1 j x y z) (x + min z y).toNat (x + z).toNat (-1)), x, 0) w v) := by
  have HWI : Hid (∀ W, Calls Tryz.prog 15 #[.int .i64 z, .int .i64 1, .int .i64 4096] W fun e w' => e = .returned (.bool true) ∧ W = w') := fun W => by
    have := within_any z 1 4096 W
    rw [hz] at this
    exact this
  have HBG := hide fun (W : World) (h : Q w W) => begins_any v at_ W (H.up h) N
  rw [hi] at HBG
  have HCN := hide fun (W : World) => rCounted_any v W N
  obtain ⟨fl, hfl⟩ : ∃ fl, fl = (countR v.m).1.fail := ⟨_, rfl⟩
  have hcm : (countR v.m).1 = { v.m with calls := v.m.calls + 1, fail := fl } := by rw [hfl]; rfl
  rw [hf, hcm] at HCN
  have HRM := hide H
  have HRN := hide N
  have h7 := N.cl
  have hnl := H.b.len
  have hnl2 := N.n
  have hsl := H.b.pr j (by have := (List.getElem?_eq_some_iff.1 hx).1; omega)
  have N1 := N.count hcl
  have HSY : Hid (∀ W, Q w W → Calls Tryz.prog 60 #[(v.withM { v.m with calls := v.m.calls + 1, fail := fl }).val, .int .i64 (j : Int), .int .i64 z] W fun e w' => e = .returned (.bool true) ∧ Q W w') := fun W h => by
    simp only [Bool.and_eq_true, decide_eq_true_eq] at hz
    have h1 := rStays_any (v.withM (countR v.m).1) j x y z W ((H.up h).withM rfl rfl) N1 hx hz.2 (by omega)
    rw [hcm] at h1
    rw [hcm] at hst
    rw [show staysR (v.withM { v.m with calls := v.m.calls + 1, fail := fl }).m j x y z = true from hst] at h1
    exact h1
  have hx0 : 0 ≤ x ∧ 0 ≤ y ∧ x + y ≤ v.m.size := N.all _ (List.mem_of_getElem? hx)
  have hz12 : 1 ≤ z ∧ z ≤ 4096 := by simpa using hz
  have hsz12 := N.sz
  have hj100 : j < v.m.bl.length := (List.getElem?_eq_some_iff.1 hx).1
  rw [hcm] at N1
  rw [hcm]
  have N5 : RmN (growR { v.m with calls := v.m.calls + 1, fail := fl } j x y z) := by
    refine ⟨N1.sz, N1.pc, by show (v.m.bl.set j _).length ≤ 100; rw [List.length_set]; exact N.n, N1.k, fun p hp => ?_, ?_, N1.pk, N1.cl, N1.fl⟩
    · rcases List.mem_or_eq_of_mem_set hp with hp | rfl
      · exact N.all p hp
      · exact ⟨hx0.1, by omega, hfit⟩
    · have := N.tp
      show 0 ≤ (if (v.m.kind = 1 ∨ v.m.kind = 2) ∧ x + y = v.m.top then x + z else v.m.top) ∧ (if (v.m.kind = 1 ∨ v.m.kind = 2) ∧ x + y = v.m.top then x + z else v.m.top) ≤ 4096
      split <;> omega
  obtain ⟨fN, hf5⟩ : ∃ fN : Nat, x + min z y = (fN : Int) := ⟨(x + min z y).toNat, by omega⟩
  obtain ⟨tN, ht5⟩ : ∃ tN : Nat, x + z = (tN : Int) := ⟨(x + z).toNat, by omega⟩
  have HST : Hid (∀ W v5, v5.m = growR { v.m with calls := v.m.calls + 1, fail := fl } j x y z → RmR W v5 → Calls Tryz.prog 56 #[v5.val, .int .i64 (fN : Int), .int .i64 (tN : Int), .int .i64 (-1)] W (isRm (setR (growR { v.m with calls := v.m.calls + 1, fail := fl } j x y z) (x + min z y).toNat (x + z).toNat (-1)) W v5)) := fun W v5 e h2 => by
    rw [hf5, ht5, Int.toNat_natCast, Int.toNat_natCast, ← e]
    have e2 : v5.m.size = v.m.size := by rw [e]; rfl
    exact rSet_fr v5 fN tN (-1) W h2 (by rw [e]; exact N5) (by omega) (by omega) (by omega)
  obtain ⟨M5, hM5⟩ : ∃ M5, M5 = setR (growR { v.m with calls := v.m.calls + 1, fail := fl } j x y z) (x + min z y).toNat (x + z).toNat (-1) := ⟨_, rfl⟩
  have N6 : RmN M5 := by rw [hM5]; exact N5.set _ _ _
  rw [← hM5] at HST ⊢
  have HPK : Hid (∀ W v6, v6.m = M5 → RmR W v6 → Calls Tryz.prog 55 #[v6.val] W fun e w' => e = .returned (v6.withM (peakR v6.m)).val ∧ Q W w') := fun W v6 e h2 => rPeaked_any v6 W h2 (by rw [e]; exact N6)
  have HG5 : Hid (growR { v.m with calls := v.m.calls + 1, fail := fl } j x y z = ⟨v.m.kind, v.m.size, v.m.piece, v.m.bl.set j (x, z), v.m.ys, x + z, v.m.peak, v.m.calls + 1, fl⟩) := by
    refine hide ?_
    unfold growR
    dsimp only
    rw [if_pos ⟨by omega, heq⟩]
  rw [HG5.out] at HST
  have HRC : Hid (∀ W, Q w W → RmR W (v.withM { v.m with calls := v.m.calls + 1, fail := fl })) := fun W h => (H.up h).withM rfl rfl
  have HF5 := hide hf5
  have HT5 := hide ht5
  have hf5k : fN ≤ 100000 := by omega
  have ht5k : tN ≤ 100000 := by omega
  clear hf5 ht5
  clear hz H N N1 N5 N6 hi hf hfl hcm hst HG5 hM5
  unfold RV.withM at HRC
  unfold RV.withM RV.val RV.cells at HCN HSY
  unfold RV.val RV.cells at HBG ⊢
  obtain ⟨A0, n, c, B, k, d, ⟨m0, m1, m2, bl, ys, m5, m6, m7, m8⟩⟩ := v
  dsimp only at HRC HSY HST HPK hx hx0 hkd heq hsz12 hj100 hfit HBG HCN h7 hnl hnl2 hsl ⊢
  obtain ⟨h70, h71⟩ := h7
  obtain ⟨b1, o1, x', y', rfl, hb1, hx', x1, x2⟩ := hsl
  obtain ⟨hx01, hx02, hx03⟩ := hx0
  obtain ⟨hz1, hz2⟩ := hz12
  have hji : (j : Int) ≤ 100 := by omega
  have hjn : j < n := by omega
  have hjni : (j : Int) < (n : Int) := by omega
  have hni : (n : Int) ≤ 100 := by omega
  have hx4 : x ≤ 4096 := by omega
  have hy4 : y ≤ 4096 := by omega
  have hneg : decide ((j : Int) < 0) = false := by simp
  have hd0 : decide (j < n) = true := by simpa using hjn
  obtain ⟨rfl, rfl⟩ : x' = x ∧ y' = y := by
    rw [hx] at hx'
    cases hx'
    exact ⟨rfl, rfl⟩
  have HX1 := hide x1
  have HX2 := hide x2
  have HX := hide hx
  obtain rfl : m0 = 1 := hkd
  have deq : decide (x' + y' = m5) = true := by simpa using heq
  have beq5 : (x' + y' == m5) = true := by simpa using heq
  have HEQ := hide heq
  have HNL := hide hnl
  obtain ⟨w1, hw1⟩ : ∃ w1, (w.alloc (.cells #[.int .i64 1, .int .i64 m1, .int .i64 m2, .slice (some ⟨b1, o1, none⟩) n c, .slice B k d, .int .i64 m5, .int .i64 m6, .int .i64 m7, .int .i64 m8] MT)).alloc (.cells #[.int .i64 0, .int .i64 0, .int .i64 0, .slice none 0 0, .slice none 0 0, .int .i64 0, .int .i64 0, .int .i64 0, .int .i64 0] MT) = w1 := ⟨_, rfl⟩
  have hq1 : Q w w1 := by rw [← hw1]; exact ((Q.refl w).alloc _).alloc _
  have hs1 : w.heap.size + 1 < w1.heap.size := by rw [← hw1]; simp
  have hs0 : w.heap.size < w1.heap.size := by omega
  have q0 : w1.heap[w.heap.size]? = some (.cells #[.int .i64 1, .int .i64 m1, .int .i64 m2, .slice (some ⟨b1, o1, none⟩) n c, .slice B k d, .int .i64 m5, .int .i64 m6, .int .i64 m7, .int .i64 m8] MT (0, 0)) := by
    rw [← hw1, ((Q.refl (w.alloc _)).alloc _).below.block _ (by simp)]
    exact heap_alloc_new w _
  have q1 : w1.heap[w.heap.size + 1]? = some (.cells #[.int .i64 0, .int .i64 0, .int .i64 0, .slice none 0 0, .slice none 0 0, .int .i64 0, .int .i64 0, .int .i64 0, .int .i64 0] MT (0, 0)) := by
    have h := heap_alloc_new (w.alloc (.cells #[.int .i64 1, .int .i64 m1, .int .i64 m2, .slice (some ⟨b1, o1, none⟩) n c, .slice B k d, .int .i64 m5, .int .i64 m6, .int .i64 m7, .int .i64 m8] MT)) (.cells #[.int .i64 0, .int .i64 0, .int .i64 0, .slice none 0 0, .slice none 0 0, .int .i64 0, .int .i64 0, .int .i64 0, .int .i64 0] MT)
    rw [show (w.alloc (.cells #[.int .i64 1, .int .i64 m1, .int .i64 m2, .slice (some ⟨b1, o1, none⟩) n c, .slice B k d, .int .i64 m5, .int .i64 m6, .int .i64 m7, .int .i64 m8] MT)).heap.size = w.heap.size + 1 by simp, hw1] at h
    exact h
  have HW1 := hide hw1
  have HR0 := hide q0
  have HR1 := hide q1
  have HQ1 := hide hq1
  have HBW := hide (HBG.out w1 hq1)
  obtain ⟨k0, k1, k2, k3, k4, k5, k6, k7, k8⟩ := cells9 q0
  obtain ⟨z0, z1, z2, z3, z4, z5, z6, z7, z8⟩ := cells9 q1
  obtain ⟨y0, y1, y2, y3, y4, y5, y6, y7, y8⟩ := free9 q1
  clear hw1 hq1 q0 q1 HBG hx hx' hnl hnl2 heq x1 x2 hj100 hsz12 hfit
  go_enter Tryz.func25, Tryz.ntmps25
  go_wp2_with (go_at_call 15; refine (HWI.out _).mono ?_; rintro e w2 ⟨rfl, rfl⟩; rw [HW1.out])
  refine HBW.out.mono ?_
  rintro e w2 ⟨rfl, hq2⟩
  have q0 := (hq2.below.block _ hs0).trans HR0.out
  have q1 := (hq2.below.block _ hs1).trans HR1.out
  obtain ⟨k0, k1, k2, k3, k4, k5, k6, k7, k8⟩ := cells9 q0
  obtain ⟨z0, z1, z2, z3, z4, z5, z6, z7, z8⟩ := cells9 q1
  obtain ⟨y0, y1, y2, y3, y4, y5, y6, y7, y8⟩ := free9 q1
  have HR0 := hide q0
  have HR1 := hide q1
  have HQ := hide (HQ1.out.trans hq2)
  have hs0 : w.heap.size < w2.heap.size := by have := hq2.size; omega
  have hs1 : w.heap.size + 1 < w2.heap.size := by have := hq2.size; omega
  clear q0 q1 hq2
  go_wp2_with fail
  refine (HCN.out w2).mono ?_
  rintro e w3 ⟨rfl, hq3⟩
  have q0 := (hq3.below.block _ hs0).trans HR0.out
  have q1 := (hq3.below.block _ hs1).trans HR1.out
  obtain ⟨k0, k1, k2, k3, k4, k5, k6, k7, k8⟩ := cells9 q0
  obtain ⟨f0, f1, f2, f3, f4, f5, f6, f7, f8⟩ := free9 q0
  obtain ⟨z0, z1, z2, z3, z4, z5, z6, z7, z8⟩ := cells9 q1
  obtain ⟨y0, y1, y2, y3, y4, y5, y6, y7, y8⟩ := free9 q1
  have HR0 := hide q0
  have HR1 := hide q1
  have HQ := hide (HQ.out.trans hq3)
  have hs0 : w.heap.size < w3.heap.size := by have := hq3.size; omega
  have hs1 : w.heap.size + 1 < w3.heap.size := by have := hq3.size; omega
  clear q0 q1 hq3
  have x1 := (HQ.out.facts.1 b1 _ hb1).trans HX1.out
  have x2 := (HQ.out.facts.1 b1 _ hb1).trans HX2.out
  clear HBW HCN
  go_wp2_with fail
  obtain ⟨w4, hw4⟩ : ∃ w4, w4 = (((((((((w3.setCell ⟨w.heap.size, 0, none⟩ (.int .i64 1)).setCell ⟨w.heap.size, 1, none⟩ (.int .i64 m1)).setCell ⟨w.heap.size, 2, none⟩ (.int .i64 m2)).setCell ⟨w.heap.size, 3, none⟩ (.slice (some ⟨b1, o1, none⟩) n c)).setCell ⟨w.heap.size, 4, none⟩ (.slice B k d)).setCell ⟨w.heap.size, 5, none⟩ (.int .i64 m5)).setCell ⟨w.heap.size, 6, none⟩ (.int .i64 m6)).setCell ⟨w.heap.size, 7, none⟩ (.int .i64 (m7 + 1))).setCell ⟨w.heap.size, 8, none⟩ (.int .i64 fl)) := ⟨_, rfl⟩
  rw [← hw4]
  have q0 : w4.heap[w.heap.size]? = some (.cells #[.int .i64 1, .int .i64 m1, .int .i64 m2, .slice (some ⟨b1, o1, none⟩) n c, .slice B k d, .int .i64 m5, .int .i64 m6, .int .i64 (m7 + 1), .int .i64 fl] MT (0, 0)) := by
    rw [hw4]
    exact row9g (w := w3) (b := w.heap.size) (.int .i64 1) (.int .i64 m1) (.int .i64 m2) (.slice (some ⟨b1, o1, none⟩) n c) (.slice B k d) (.int .i64 m5) (.int .i64 m6) (.int .i64 (m7 + 1)) (.int .i64 fl) HR0.out
  have q1 : w4.heap[w.heap.size + 1]? = some (.cells #[.int .i64 0, .int .i64 0, .int .i64 0, .slice none 0 0, .slice none 0 0, .int .i64 0, .int .i64 0, .int .i64 0, .int .i64 0] MT (0, 0)) := by
    rw [hw4, keep9 w3 w.heap.size (.int .i64 1) (.int .i64 m1) (.int .i64 m2) (.slice (some ⟨b1, o1, none⟩) n c) (.slice B k d) (.int .i64 m5) (.int .i64 m6) (.int .i64 (m7 + 1)) (.int .i64 fl) (w.heap.size + 1) (by omega)]
    exact HR1.out
  have HQ := hide (show Q w w4 by
    rw [hw4]
    exact q9 (w0 := w) (w := w3) (b := w.heap.size) (.int .i64 1) (.int .i64 m1) (.int .i64 m2) (.slice (some ⟨b1, o1, none⟩) n c) (.slice B k d) (.int .i64 m5) (.int .i64 m6) (.int .i64 (m7 + 1)) (.int .i64 fl) HQ.out (Nat.le_refl _))
  have hs0 : w.heap.size < w4.heap.size := by have : w4.heap.size = w3.heap.size := (by rw [hw4]; simp [World.setCell]); omega
  have hs1 : w.heap.size + 1 < w4.heap.size := by have : w4.heap.size = w3.heap.size := (by rw [hw4]; simp [World.setCell]); omega
  have HR0 := hide q0
  have HR1 := hide q1
  obtain ⟨w5, hw5⟩ : ∃ w5, w4.alloc (.cells #[.int .i64 x', .int .i64 y'] 88) = w5 := ⟨_, rfl⟩
  rw [hw5]
  have hw4s : w4.heap.size = w3.heap.size := by rw [hw4]; simp [World.setCell]
  have hq45 : Q w4 w5 := by rw [← hw5]; exact (Q.refl w4).alloc _
  have q0 := (hq45.below.block _ hs0).trans HR0.out
  have q1 := (hq45.below.block _ hs1).trans HR1.out
  have q2 : w5.heap[w3.heap.size]? = some (.cells #[.int .i64 x', .int .i64 y'] 88 (0, 0)) := by rw [← hw5, ← hw4s]; exact heap_alloc_new w4 _
  have HQ := hide (HQ.out.trans hq45)
  have hs2 : w3.heap.size < w5.heap.size := blk_lt q2
  have hs3 : w.heap.size + 1 < w3.heap.size := by omega
  have hs1 : w.heap.size + 1 < w5.heap.size := by omega
  have hs0 : w.heap.size < w5.heap.size := by omega
  have HR0 := hide q0
  have HR1 := hide q1
  have HR2 := hide q2
  obtain ⟨g2, hg2⟩ : ∃ g2, g2 = w3.heap.size := ⟨_, rfl⟩
  rw [← hg2] at hs2 hs3 HR2 ⊢
  clear hw5 hw4 hw4s hq45 q0 q1 q2 hg2
  refine (HSY.out w5 HQ.out).mono ?_
  rintro e w6 ⟨rfl, hq6⟩
  have q2 := (hq6.below.block _ hs2).trans HR2.out
  have d0 : w6.cell? ⟨g2, 0, none⟩ = some (.int .i64 x') := by rw [cell_of_row _ _ _ _ _ _ q2]; rfl
  have d1 : w6.cell? ⟨g2, 1, none⟩ = some (.int .i64 y') := by rw [cell_of_row _ _ _ _ _ _ q2]; rfl
  have HR2 := hide q2
  have hs2 : g2 < w6.heap.size := by have := hq6.size; omega
  clear q2
  have q0 := (hq6.below.block _ hs0).trans HR0.out
  have q1 := (hq6.below.block _ hs1).trans HR1.out
  obtain ⟨k0, k1, k2, k3, k4, k5, k6, k7, k8⟩ := cells9 q0
  obtain ⟨-, -, -, -, -, f5, -, -, -⟩ := free9 q0
  obtain ⟨z0, z1, z2, z3, z4, z5, z6, z7, z8⟩ := cells9 q1
  obtain ⟨y0, y1, y2, y3, y4, y5, y6, y7, y8⟩ := free9 q1
  have HR0 := hide q0
  have HR1 := hide q1
  have HQ := hide (HQ.out.trans hq6)
  have hs0 : w.heap.size < w6.heap.size := by have := hq6.size; omega
  have hs1 : w.heap.size + 1 < w6.heap.size := by have := hq6.size; omega
  clear q0 q1 hq6
  clear HSY
  go_upto_region 13 with fail
  obtain ⟨w7, hw7⟩ : ∃ w7, (w6.setCell ⟨w.heap.size, 5, none⟩ (.int .i64 (x' + z))) = w7 := ⟨_, rfl⟩
  rw [hw7]
  have q0 : w7.heap[w.heap.size]? = some (.cells #[.int .i64 1, .int .i64 m1, .int .i64 m2, .slice (some ⟨b1, o1, none⟩) n c, .slice B k d, .int .i64 (x' + z), .int .i64 m6, .int .i64 (m7 + 1), .int .i64 fl] MT (0, 0)) := by rw [← hw7]; exact heap_setCell_same w6 w.heap.size 5 _ _ (.int .i64 (x' + z)) HR0.out
  have q1 : w7.heap[w.heap.size + 1]? = some (.cells #[.int .i64 0, .int .i64 0, .int .i64 0, .slice none 0 0, .slice none 0 0, .int .i64 0, .int .i64 0, .int .i64 0, .int .i64 0] MT (0, 0)) := by rw [← hw7]; exact (heap_setCell_other _ _ _ _ (by simp)).trans HR1.out
  have q2 : w7.heap[g2]? = some (.cells #[.int .i64 x', .int .i64 y'] 88 (0, 0)) := by rw [← hw7]; exact (heap_setCell_other _ _ _ _ (by show g2 ≠ w.heap.size; omega)).trans HR2.out
  have HQ := hide (show Q w w7 by rw [← hw7]; exact HQ.out.set (p := ⟨w.heap.size, 5, none⟩) (Nat.le_refl _) _)
  have hw7s : w7.heap.size = w6.heap.size := by rw [← hw7]; simp [World.setCell]
  have hs0 : w.heap.size < w7.heap.size := by omega
  have hs1 : w.heap.size + 1 < w7.heap.size := by omega
  have hs2 : g2 < w7.heap.size := by omega
  have HR0 := hide q0
  have HR1 := hide q1
  have HR2 := hide q2
  clear hw7 hw7s q0 q1 q2
  have HLT := hide (own_lit0 w7 w7.heap.size 88 2 w7.heap.size rfl (Nat.le_refl _))
  have HSL := hide (HRC.out w7 HQ.out).b
  dsimp only at HSL
  have k3 : w7.cell? ⟨w.heap.size, 3, none⟩ = some (.slice (some ⟨b1, o1, none⟩) n c) := by rw [cell_of_row _ _ _ _ _ _ HR0.out]; rfl
  go_wp2_with (at_builtin; go_loud (refine wpList_appnew rfl El_pair _ _ rfl rfl rfl HLT.out (fun h => by cases h) ?_ (HSL.out.up ((Q.refl w7).alloc _)).rd (one_encP _) ?_ ?_ ?_; (focus (rw [flatMap_length (k := 2) (fun _ => rfl), HNL.out])); (focus omega); (focus (simp; done)); intro v8 w8 hv8 hq8; have HV8 := hide hv8; have HQ78 := hide (show Q w7 w8 from ((Q.refl w7).alloc _).trans hq8); have HQ8 := hide (HQ.out.trans HQ78.out); obtain ⟨g, cg, e5, hgb, hgl, hgn, hgm, hcell, hfz⟩ := own_at hv8 (by omega); subst e5; have q0 := (HQ78.out.below.block _ hs0).trans HR0.out; have k3 : w8.cell? ⟨w.heap.size, 3, none⟩ = some (.slice (some ⟨b1, o1, none⟩) n c) := (by rw [cell_of_row _ _ _ _ _ _ q0]; rfl); have f3 : w8.frozen? ⟨w.heap.size, 3, none⟩ = false := frozen_of_row _ _ _ _ _ q0; have q2 := (HQ78.out.below.block _ hs2).trans HR2.out; have d0 : w8.cell? ⟨g2, 0, none⟩ = some (.int .i64 x') := (by rw [cell_of_row _ _ _ _ _ _ q2]; rfl); have hcA := hcell (j * 2) _ (flatP0 HX.out); have hcB := hcell (j * 2 + 1) _ (flatP1 HX.out); have hfA := hfz (j * 2); have hfB := hfz (j * 2 + 1); have hg01 : g ≠ w.heap.size := (by omega); have hg02 : g ≠ g2 := (by omega); have hg03 : g ≠ w.heap.size + 1 := (by omega); clear hv8 hq8 hcell hfz q0 q2))
  clear HSL
  obtain ⟨w9, hw9⟩ : ∃ w9, (((w8.setCell ⟨w.heap.size, 3, none⟩ (.slice (some ⟨g, 0, none⟩) n cg)).setCell ⟨g, j * 2, none⟩ (.int .i64 x')).setCell ⟨g, j * 2 + 1, none⟩ (.int .i64 z)) = w9 := ⟨_, rfl⟩
  rw [hw9]
  have hw9s : w9.heap.size = w8.heap.size := by rw [← hw9]; simp [World.setCell]
  have hO9 : w9.ownsRow w7.heap.size 88 2 (.slice (some ⟨g, 0, none⟩) n cg) n ((bl.set j (x', z)).flatMap encP) := by
    rw [← hw9, ← flat_setP bl j x' z y' HX.out]
    exact own_set (own_set (own1 HV8.out hs0) _ _) _ _
  have q0 : w9.heap[w.heap.size]? = some (.cells #[.int .i64 1, .int .i64 m1, .int .i64 m2, .slice (some ⟨g, 0, none⟩) n cg, .slice B k d, .int .i64 (x' + z), .int .i64 m6, .int .i64 (m7 + 1), .int .i64 fl] MT (0, 0)) := by
    rw [← hw9]
    exact (heap_setCell_other _ _ _ _ (by show w.heap.size ≠ g; omega)).trans ((heap_setCell_other _ _ _ _ (by show w.heap.size ≠ g; omega)).trans (heap_setCell_same w8 w.heap.size 3 _ _ _ ((HQ78.out.below.block _ hs0).trans HR0.out)))
  have q1 : w9.heap[w.heap.size + 1]? = some (.cells #[.int .i64 0, .int .i64 0, .int .i64 0, .slice none 0 0, .slice none 0 0, .int .i64 0, .int .i64 0, .int .i64 0, .int .i64 0] MT (0, 0)) := by
    rw [← hw9]
    exact (heap_setCell_other _ _ _ _ (by show w.heap.size + 1 ≠ g; omega)).trans ((heap_setCell_other _ _ _ _ (by show w.heap.size + 1 ≠ g; omega)).trans (((heap_setCell_other _ _ _ _ (by simp)).trans ((HQ78.out.below.block _ hs1).trans HR1.out))))
  have q2 : w9.heap[g2]? = some (.cells #[.int .i64 x', .int .i64 y'] 88 (0, 0)) := by
    rw [← hw9]
    exact (heap_setCell_other _ _ _ _ (by show g2 ≠ g; omega)).trans ((heap_setCell_other _ _ _ _ (by show g2 ≠ g; omega)).trans (((heap_setCell_other _ _ _ _ (by show g2 ≠ w.heap.size; omega)).trans ((HQ78.out.below.block _ hs2).trans HR2.out))))
  have hQ9 : Q w w9 := by
    rw [← hw9]
    exact ((HQ8.out.set (p := ⟨w.heap.size, 3, none⟩) (Nat.le_refl _) _).set (p := ⟨g, j * 2, none⟩) (by show w.heap.size ≤ g; omega) _).set (p := ⟨g, j * 2 + 1, none⟩) (by show w.heap.size ≤ g; omega) _
  have hs78 := HQ78.out.size
  have HRV : RmR w9 ⟨some ⟨g, 0, none⟩, n, cg, B, k, d, ⟨1, m1, m2, bl.set j (x', z), ys,  (x' + z), m6, m7 + 1, fl⟩⟩ := ⟨Sl.own hO9 (fun _ => rfl) (by decide), HRM.out.y.up hQ9, fun h => (by cases h), HRM.out.yn, TyA.own hO9, HRM.out.tb.up hQ9⟩
  have HFR5 : Fr w7.heap.size ⟨some ⟨b1, o1, none⟩, n, c, B, k, d, ⟨1, m1, m2, bl, ys, m5, m6, m7 + 1, fl⟩⟩ ⟨some ⟨g, 0, none⟩, n, cg, B, k, d, ⟨1, m1, m2, bl.set j (x', z), ys,  (x' + z), m6, m7 + 1, fl⟩⟩ := ⟨fr_own hO9, .inl ⟨rfl, rfl⟩⟩
  have HRC0 := hide (HRC.out w (Q.refl w))
  have HRV9 := hide HRV
  have HFR9 := hide HFR5
  have HR0 := hide q0
  have HR1 := hide q1
  have HR2 := hide q2
  have HQ := hide hQ9
  have hs79 : w7.heap.size ≤ w9.heap.size := by omega
  have hb1w : w.heap.size + 1 < w7.heap.size := hs1
  have hg27 : g2 < w7.heap.size := hs2
  have hs0 : w.heap.size < w9.heap.size := by omega
  have hs1 : w.heap.size + 1 < w9.heap.size := by omega
  have hs2 : g2 < w9.heap.size := by omega
  clear hw9 hw9s hO9 q0 q1 q2 hQ9 HRV HFR5 HV8 HQ78 HQ8 hcA hcB hfA hfB hgb hgl hgn hgm k3 f3 HLT
  obtain ⟨X, hX⟩ : ∃ X, X = rmX (w.heap.size + 1) (peakR M5) ⟨some ⟨b1, o1, none⟩, n, c, B, k, d, ⟨1, m1, m2, bl, ys, m5, m6, m7 + 1, fl⟩⟩ w7.heap.size := ⟨_, rfl⟩
  have hXq : ∀ w w', X w → Q w w' → X w' := by rw [hX]; exact rmX_q _ _ _ _
  have HXD := hide hX
  clear hX
  refine Ri.madeT (T := Ri.TX (w.heap.size + 1) X) (fun _ => Ri.TX.refl _ _ _) (fun _ _ _ h k => Ri.TX.trans hXq h k) (Ri.phi [Ri.isV (.agg #[.int .i64 1, .int .i64 m1, .int .i64 m2, .slice (some ⟨g, 0, none⟩) n cg, .slice B k d, .int .i64 (x' + z), .int .i64 m6, .int .i64 (m7 + 1), .int .i64 fl]), Ri.isV (.pointer (some ⟨g2, 0, none⟩)), Ri.isV (.int .i64 x'), Ri.isV (.int .i64 z), Ri.isV (.pointer (some ⟨g2, 1, none⟩)), Ri.isV (.int .i64 y'), Ri.isV ((.int .i64 (min z y'))), Ri.isV ((.int .i64 (x' + min z y'))), Ri.isV (.pointer (some ⟨g2, 0, none⟩)), Ri.isV (.int .i64 x'), Ri.isV (.int .i64 z), Ri.isV ((.int .i64 (x' + z))), rmV M5 ⟨some ⟨b1, o1, none⟩, n, c, B, k, d, ⟨1, m1, m2, bl, ys, m5, m6, m7 + 1, fl⟩⟩ w7.heap.size, rmV (peakR M5) ⟨some ⟨b1, o1, none⟩, n, c, B, k, d, ⟨1, m1, m2, bl, ys, m5, m6, m7 + 1, fl⟩⟩ w7.heap.size, Ri.isV (.pointer (some ⟨g2, 0, none⟩)), Ri.isV (.int .i64 x'), (fun _ W => X W), Ri.isV (.int .i64 x'), Ri.isV (.int .i64 0)]) (by kernel_rfl) (by kernel_rfl) (fun i => Ri.phi_monoT ?_ i) ?_ ?_
  · exact ⟨Ri.mono_isT _, Ri.mono_isT _, Ri.mono_isT _, Ri.mono_isT _, Ri.mono_isT _, Ri.mono_isT _, Ri.mono_isT _, Ri.mono_isT _, Ri.mono_isT _, Ri.mono_isT _, Ri.mono_isT _, Ri.mono_isT _, (fun v w1 w2 h _ ht => rmV_t (M2 := peakR M5) HRC0.out (by omega) hb1w h (by rw [← HXD.out]; exact ht)), (fun v w1 w2 h _ ht => rmV_t (M2 := peakR M5) HRC0.out (by omega) hb1w h (by rw [← HXD.out]; exact ht)), Ri.mono_isT _, Ri.mono_isT _, (fun v w1 w2 h h0 ht => Ri.TX.keepX hXq h ht (Nat.lt_of_lt_of_le hs1 h0.size)), Ri.mono_isT _, Ri.mono_isT _, trivial⟩
  · refine Ri.All.cons ?_ (Ri.All.cons ?_ (Ri.All.cons ?_ (Ri.All.cons ?_ (Ri.All.cons ?_ (Ri.All.cons ?_ (Ri.All.cons ?_ (Ri.All.cons ?_ (Ri.All.cons ?_ (Ri.All.cons ?_ (Ri.All.cons ?_ (Ri.All.cons ?_ (Ri.All.cons ?_ (Ri.All.cons ?_ (Ri.All.cons ?_ (Ri.All.cons ?_ (Ri.All.cons ?_ (Ri.All.cons ?_ (Ri.All.cons ?_ (Ri.All.nil)))))))))))))))))))
    · refine Ri.StepT.q (fun _ _ _ h => Ri.TX.of_q h) ⟨rfl, fun f W hq hf A hA hB hO => ?_⟩
      have e1 := (hB 3 (by kernel_rfl)).trans (show _ = .pointer (some ⟨w.heap.size, 0, none⟩) by simp [Act.eval])
      exact Ri.wp_value _ (Ri.run_ldrow rfl e1 ((hq.block _ hs0 (by omega)).trans HR0.out) Tryz.underlying32 rfl (by kernel_rfl)) rfl
    · refine Ri.StepT.q (fun _ _ _ h => Ri.TX.of_q h) ⟨rfl, fun f W hq hf A hA hB hO => ?_⟩
      have e1 := (hB 11 (by kernel_rfl)).trans (show _ = .pointer (some ⟨g2, 0, none⟩) by simp [Act.eval])
      exact Ri.wp_value _ (Ri.run_idxA (k := 0) (sz := 1) rfl e1 (show A.eval (.const (.int .i64 0)) = _ from rfl) Tryz.underlying88 (by kernel_rfl) (by decide)) rfl
    · refine Ri.StepT.q (fun _ _ _ h => Ri.TX.of_q h) ⟨rfl, fun f W hq hf A hA hB hO => ?_⟩
      have e1 := (hA 79 1 (by kernel_rfl) (by simp)).trans (show f 1 = _ from hf 1 (by kernel_rfl))
      exact Ri.wp_value _ (Ri.run_ld1 rfl e1 Tryz.underlying3 rfl ((cell_of_row W g2 0 _ _ _ ((hq.block g2 hs2 (by omega)).trans HR2.out)).trans rfl)) rfl
    · refine Ri.StepT.q (fun _ _ _ h => Ri.TX.of_q h) ⟨rfl, fun f W hq hf A hA hB hO => ?_⟩
      have e1 := (hB 2 (by kernel_rfl)).trans (show _ = .int .i64 z by simp [Act.eval])
      exact Ri.wp_value _ (Ri.run_mv rfl e1) rfl
    · refine Ri.StepT.q (fun _ _ _ h => Ri.TX.of_q h) ⟨rfl, fun f W hq hf A hA hB hO => ?_⟩
      have e1 := (hB 11 (by kernel_rfl)).trans (show _ = .pointer (some ⟨g2, 0, none⟩) by simp [Act.eval])
      exact Ri.wp_value _ (Ri.run_idxA (k := 1) (sz := 1) rfl e1 (show A.eval (.const (.int .i64 1)) = _ from rfl) Tryz.underlying88 (by kernel_rfl) (by decide)) rfl
    · refine Ri.StepT.q (fun _ _ _ h => Ri.TX.of_q h) ⟨rfl, fun f W hq hf A hA hB hO => ?_⟩
      have e1 := (hA 82 4 (by kernel_rfl) (by simp)).trans (show f 4 = _ from hf 4 (by kernel_rfl))
      exact Ri.wp_value _ (Ri.run_ld1 rfl e1 Tryz.underlying3 rfl ((cell_of_row W g2 1 _ _ _ ((hq.block g2 hs2 (by omega)).trans HR2.out)).trans rfl)) rfl
    · refine Ri.StepT.q (fun _ _ _ h => Ri.TX.of_q h) ⟨rfl, fun f W hq hf A hA hB hO => ?_⟩
      have e1 := (hA 81 3 (by kernel_rfl) (by simp)).trans (show f 3 = _ from hf 3 (by kernel_rfl))
      have e2 := (hA 83 5 (by kernel_rfl) (by simp)).trans (show f 5 = _ from hf 5 (by kernel_rfl))
      exact Ri.wp_value _ (Ri.run_mini rfl e1 e2) rfl
    · refine Ri.StepT.q (fun _ _ _ h => Ri.TX.of_q h) ⟨rfl, fun f W hq hf A hA hB hO => ?_⟩
      have e1 := (hA 80 2 (by kernel_rfl) (by simp)).trans (show f 2 = _ from hf 2 (by kernel_rfl))
      have e2 := (hA 84 6 (by kernel_rfl) (by simp)).trans (show f 6 = _ from hf 6 (by kernel_rfl))
      exact Ri.wp_value _ (Ri.run_add rfl e1 e2 Tryz.underlying3 (by omega) (by omega)) rfl
    · refine Ri.StepT.q (fun _ _ _ h => Ri.TX.of_q h) ⟨rfl, fun f W hq hf A hA hB hO => ?_⟩
      have e1 := (hB 11 (by kernel_rfl)).trans (show _ = .pointer (some ⟨g2, 0, none⟩) by simp [Act.eval])
      exact Ri.wp_value _ (Ri.run_idxA (k := 0) (sz := 1) rfl e1 (show A.eval (.const (.int .i64 0)) = _ from rfl) Tryz.underlying88 (by kernel_rfl) (by decide)) rfl
    · refine Ri.StepT.q (fun _ _ _ h => Ri.TX.of_q h) ⟨rfl, fun f W hq hf A hA hB hO => ?_⟩
      have e1 := (hA 86 8 (by kernel_rfl) (by simp)).trans (show f 8 = _ from hf 8 (by kernel_rfl))
      exact Ri.wp_value _ (Ri.run_ld1 rfl e1 Tryz.underlying3 rfl ((cell_of_row W g2 0 _ _ _ ((hq.block g2 hs2 (by omega)).trans HR2.out)).trans rfl)) rfl
    · refine Ri.StepT.q (fun _ _ _ h => Ri.TX.of_q h) ⟨rfl, fun f W hq hf A hA hB hO => ?_⟩
      have e1 := (hB 2 (by kernel_rfl)).trans (show _ = .int .i64 z by simp [Act.eval])
      exact Ri.wp_value _ (Ri.run_mv rfl e1) rfl
    · refine Ri.StepT.q (fun _ _ _ h => Ri.TX.of_q h) ⟨rfl, fun f W hq hf A hA hB hO => ?_⟩
      have e1 := (hA 87 9 (by kernel_rfl) (by simp)).trans (show f 9 = _ from hf 9 (by kernel_rfl))
      have e2 := (hA 88 10 (by kernel_rfl) (by simp)).trans (show f 10 = _ from hf 10 (by kernel_rfl))
      exact Ri.wp_value _ (Ri.run_add rfl e1 e2 Tryz.underlying3 (by omega) (by omega)) rfl
    · refine Ri.StepT.q (fun _ _ _ h => Ri.TX.of_q h) ⟨rfl, fun f W hq hf A hA hB hO => ?_⟩
      have hRW : RmR W ⟨some ⟨g, 0, none⟩, n, cg, B, k, d, ⟨1, m1, m2, bl.set j (x', z), ys,  (x' + z), m6, m7 + 1, fl⟩⟩ := RmR.keep HRC0.out HRV9.out HFR9.out (b := w.heap.size + 1) (by omega) hb1w (fun g hg hne => hq.block g hg hne) hq.size
      have e1 := (hA 78 0 (by kernel_rfl) (by simp)).trans (show f 0 = _ from hf 0 (by kernel_rfl))
      have e2 := (hA 85 7 (by kernel_rfl) (by simp)).trans (show f 7 = _ from hf 7 (by kernel_rfl))
      have e3 := (hA 89 11 (by kernel_rfl) (by simp)).trans (show f 11 = _ from hf 11 (by kernel_rfl))
      refine Ri.wp_call #[(⟨some ⟨g, 0, none⟩, n, cg, B, k, d, ⟨1, m1, m2, bl.set j (x', z), ys,  (x' + z), m6, m7 + 1, fl⟩⟩ : RV).val, .int .i64 (fN : Int), .int .i64 (tN : Int), .int .i64 (-1)] rfl ?_ Tryz.func56 (by kernel_rfl) (by kernel_rfl) ((HST.out W _ rfl hRW).mono ?_)
      · simp only [List.map_toArray, List.map_cons, List.map_nil, e1, e2, e3, HF5.out, HT5.out]
        rfl
      · rintro e w3 ⟨v6, rfl, hm, hR, hF, hq3⟩
        exact ⟨_, rfl, hq3, v6, rfl, hm, hR, Fr.trans HFR9.out hF (Nat.le_trans hs79 hq.size)⟩
    · refine Ri.StepT.q (fun _ _ _ h => Ri.TX.of_q h) ⟨rfl, fun f W hq hf A hA hB hO => ?_⟩
      obtain ⟨v6, hv, hm, hR, hF⟩ : rmV M5 ⟨some ⟨b1, o1, none⟩, n, c, B, k, d, ⟨1, m1, m2, bl, ys, m5, m6, m7 + 1, fl⟩⟩ w7.heap.size (f 12) W := hf 12 (by kernel_rfl)
      have e1 := (hA 90 12 (by kernel_rfl) (by simp)).trans hv
      refine Ri.wp_call #[v6.val] rfl (by simp [e1]) Tryz.func55 (by kernel_rfl) (by kernel_rfl) ((HPK.out W v6 hm hR).mono ?_)
      rintro e w3 ⟨rfl, hq3⟩
      exact ⟨_, rfl, hq3, v6.withM (peakR v6.m), rfl, by rw [← hm]; rfl, (hR.up hq3).withM rfl rfl, hF.withM rfl rfl⟩
    · refine Ri.StepT.q (fun _ _ _ h => Ri.TX.of_q h) ⟨rfl, fun f W hq hf A hA hB hO => ?_⟩
      have e1 := (hB 11 (by kernel_rfl)).trans (show _ = .pointer (some ⟨g2, 0, none⟩) by simp [Act.eval])
      exact Ri.wp_value _ (Ri.run_idxA (k := 0) (sz := 1) rfl e1 (show A.eval (.const (.int .i64 0)) = _ from rfl) Tryz.underlying88 (by kernel_rfl) (by decide)) rfl
    · refine Ri.StepT.q (fun _ _ _ h => Ri.TX.of_q h) ⟨rfl, fun f W hq hf A hA hB hO => ?_⟩
      have e1 := (hA 92 14 (by kernel_rfl) (by simp)).trans (show f 14 = _ from hf 14 (by kernel_rfl))
      exact Ri.wp_value _ (Ri.run_ld1 rfl e1 Tryz.underlying3 rfl ((cell_of_row W g2 0 _ _ _ ((hq.block g2 hs2 (by omega)).trans HR2.out)).trans rfl)) rfl
    · refine ⟨rfl, fun f W hq hf A hA hB hO => ?_⟩
      obtain ⟨v6, hv, hm, hR, hF⟩ : rmV (peakR M5) ⟨some ⟨b1, o1, none⟩, n, c, B, k, d, ⟨1, m1, m2, bl, ys, m5, m6, m7 + 1, fl⟩⟩ w7.heap.size (f 13) W := hf 13 (by kernel_rfl)
      have e1 := (hB 6 (by kernel_rfl)).trans (show _ = .pointer (some ⟨w.heap.size + 1, 0, none⟩) by simp [Act.eval])
      have e2 := (hA 91 13 (by kernel_rfl) (by simp)).trans hv
      obtain ⟨old, hold, hos⟩ : ∃ old, W.heap[w.heap.size + 1]? = some (.cells old MT (0, 0)) ∧ old.size = 9 := by
        rcases hq.at_ hs1 with e | e
        · exact ⟨_, e.trans HR1.out, rfl⟩
        · rw [HXD.out] at e
          obtain ⟨v', e, -⟩ := e
          exact ⟨_, e, rfl⟩
      have hX2 : X (W.setRow (w.heap.size + 1) v6.cells) := by
        rw [HXD.out]
        exact ⟨v6, setRow_heap _ _ _ _ _ _ hold, hm, RmR.keep HRC0.out hR hF (by omega) hb1w (fun g _ hne => setRow_other _ _ _ _ hne) (by simp), hF⟩
      exact Ri.wp_row rfl e1 e2 rfl hold (by kernel_rfl) hos (by simp [RV.cells, Value.oneCell']) (Ri.TX.setRow hX2) hX2
    · refine Ri.StepT.q (fun _ _ _ h => Ri.TX.of_q h) ⟨rfl, fun f W hq hf A hA hB hO => ?_⟩
      have e1 := (hA 93 15 (by kernel_rfl) (by simp)).trans (show f 15 = _ from hf 15 (by kernel_rfl))
      exact Ri.wp_value _ (Ri.run_asg rfl e1) rfl
    · refine Ri.StepT.q (fun _ _ _ h => Ri.TX.of_q h) ⟨rfl, fun f W hq hf A hA hB hO => ?_⟩
      have e1 : A.eval (.const (.int .i64 0)) = .int .i64 0 := rfl
      exact Ri.wp_value _ (Ri.run_asg rfl e1) rfl
  · intro f W hq hf
    have hX2 : X W := hf 16 (by simp)
    have e17 : f 17 = .int .i64 x' := hf 17 (by simp)
    have e18 : f 18 = .int .i64 0 := hf 18 (by simp)
    rw [HXD.out] at hX2
    obtain ⟨v', hg, hm, hR, hF⟩ := hX2
    have hqw : Q w W := Ri.TX.q_of (w0 := w) (w := w9) HQ.out ⟨hq.os, hq.tape, hq.output, hq.size, hq.block, hq.at_⟩ (by omega)
    simp only [Ri.acts, Act.put, List.setIfInBounds_toArray, List.set_cons_zero, List.set_cons_succ, Nat.zero_add, Nat.reduceAdd]
    rw [e17, e18]
    clear hf hq
    go_wp2_with fail
    refine bodyPost_ret (v := .tuple #[.agg v'.cells, .int .i64 x', .int .i64 0]) (ret_m3 (p := 6) (u := 7) (x := 8) rfl rfl (by simp) (by simp) (by simp) hg) rfl ?_
    exact ⟨v', rfl, hm, hR, Fr.trans (v1 := ⟨some ⟨b1, o1, none⟩, n, c, B, k, d, ⟨1, m1, m2, bl, ys, m5, m6, m7 + 1, fl⟩⟩) ⟨.inl ⟨rfl, rfl⟩, .inl ⟨rfl, rfl⟩⟩ hF (by omega), hqw⟩

set_option maxRecDepth 100000 in
set_option maxHeartbeats 8000000 in
theorem rResize_stay_b (v : RV) (at_ z : Int) (j : Nat) (x y : Int) (w : World) (H : RmR w v) (N : RmN v.m) (hz : (decide (1 ≤ z) && decide (z ≤ 4096)) = true) (hx : v.m.bl[j]? = some (x, y)) (hi : idxI (fun p => p.1 == at_) v.m.bl = (j : Int)) (hf : (countR v.m).2 = false) (hcl : v.m.calls < 1000000) (hst : staysR (countR v.m).1 j x y z = true) (hfit : x + z ≤ v.m.size) (hkd : v.m.kind = 2) (heq : x + y = v.m.top) :
    Calls Tryz.prog 25 #[v.val, .int .i64 at_, .int .i64 z] w (MPost2 (peakR (setR (growR (countR v.m).1 j x y z) (x + min z y).toNat (x + z).toNat (-1)), x, 0) w v) := by
  have HWI : Hid (∀ W, Calls Tryz.prog 15 #[.int .i64 z, .int .i64 1, .int .i64 4096] W fun e w' => e = .returned (.bool true) ∧ W = w') := fun W => by
    have := within_any z 1 4096 W
    rw [hz] at this
    exact this
  have HBG := hide fun (W : World) (h : Q w W) => begins_any v at_ W (H.up h) N
  rw [hi] at HBG
  have HCN := hide fun (W : World) => rCounted_any v W N
  obtain ⟨fl, hfl⟩ : ∃ fl, fl = (countR v.m).1.fail := ⟨_, rfl⟩
  have hcm : (countR v.m).1 = { v.m with calls := v.m.calls + 1, fail := fl } := by rw [hfl]; rfl
  rw [hf, hcm] at HCN
  have HRM := hide H
  have HRN := hide N
  have h7 := N.cl
  have hnl := H.b.len
  have hnl2 := N.n
  have hsl := H.b.pr j (by have := (List.getElem?_eq_some_iff.1 hx).1; omega)
  have N1 := N.count hcl
  have HSY : Hid (∀ W, Q w W → Calls Tryz.prog 60 #[(v.withM { v.m with calls := v.m.calls + 1, fail := fl }).val, .int .i64 (j : Int), .int .i64 z] W fun e w' => e = .returned (.bool true) ∧ Q W w') := fun W h => by
    simp only [Bool.and_eq_true, decide_eq_true_eq] at hz
    have h1 := rStays_any (v.withM (countR v.m).1) j x y z W ((H.up h).withM rfl rfl) N1 hx hz.2 (by omega)
    rw [hcm] at h1
    rw [hcm] at hst
    rw [show staysR (v.withM { v.m with calls := v.m.calls + 1, fail := fl }).m j x y z = true from hst] at h1
    exact h1
  have hx0 : 0 ≤ x ∧ 0 ≤ y ∧ x + y ≤ v.m.size := N.all _ (List.mem_of_getElem? hx)
  have hz12 : 1 ≤ z ∧ z ≤ 4096 := by simpa using hz
  have hsz12 := N.sz
  have hj100 : j < v.m.bl.length := (List.getElem?_eq_some_iff.1 hx).1
  rw [hcm] at N1
  rw [hcm]
  have N5 : RmN (growR { v.m with calls := v.m.calls + 1, fail := fl } j x y z) := by
    refine ⟨N1.sz, N1.pc, by show (v.m.bl.set j _).length ≤ 100; rw [List.length_set]; exact N.n, N1.k, fun p hp => ?_, ?_, N1.pk, N1.cl, N1.fl⟩
    · rcases List.mem_or_eq_of_mem_set hp with hp | rfl
      · exact N.all p hp
      · exact ⟨hx0.1, by omega, hfit⟩
    · have := N.tp
      show 0 ≤ (if (v.m.kind = 1 ∨ v.m.kind = 2) ∧ x + y = v.m.top then x + z else v.m.top) ∧ (if (v.m.kind = 1 ∨ v.m.kind = 2) ∧ x + y = v.m.top then x + z else v.m.top) ≤ 4096
      split <;> omega
  obtain ⟨fN, hf5⟩ : ∃ fN : Nat, x + min z y = (fN : Int) := ⟨(x + min z y).toNat, by omega⟩
  obtain ⟨tN, ht5⟩ : ∃ tN : Nat, x + z = (tN : Int) := ⟨(x + z).toNat, by omega⟩
  have HST : Hid (∀ W v5, v5.m = growR { v.m with calls := v.m.calls + 1, fail := fl } j x y z → RmR W v5 → Calls Tryz.prog 56 #[v5.val, .int .i64 (fN : Int), .int .i64 (tN : Int), .int .i64 (-1)] W (isRm (setR (growR { v.m with calls := v.m.calls + 1, fail := fl } j x y z) (x + min z y).toNat (x + z).toNat (-1)) W v5)) := fun W v5 e h2 => by
    rw [hf5, ht5, Int.toNat_natCast, Int.toNat_natCast, ← e]
    have e2 : v5.m.size = v.m.size := by rw [e]; rfl
    exact rSet_fr v5 fN tN (-1) W h2 (by rw [e]; exact N5) (by omega) (by omega) (by omega)
  obtain ⟨M5, hM5⟩ : ∃ M5, M5 = setR (growR { v.m with calls := v.m.calls + 1, fail := fl } j x y z) (x + min z y).toNat (x + z).toNat (-1) := ⟨_, rfl⟩
  have N6 : RmN M5 := by rw [hM5]; exact N5.set _ _ _
  rw [← hM5] at HST ⊢
  have HPK : Hid (∀ W v6, v6.m = M5 → RmR W v6 → Calls Tryz.prog 55 #[v6.val] W fun e w' => e = .returned (v6.withM (peakR v6.m)).val ∧ Q W w') := fun W v6 e h2 => rPeaked_any v6 W h2 (by rw [e]; exact N6)
  have HG5 : Hid (growR { v.m with calls := v.m.calls + 1, fail := fl } j x y z = ⟨v.m.kind, v.m.size, v.m.piece, v.m.bl.set j (x, z), v.m.ys, x + z, v.m.peak, v.m.calls + 1, fl⟩) := by
    refine hide ?_
    unfold growR
    dsimp only
    rw [if_pos ⟨by omega, heq⟩]
  rw [HG5.out] at HST
  have HRC : Hid (∀ W, Q w W → RmR W (v.withM { v.m with calls := v.m.calls + 1, fail := fl })) := fun W h => (H.up h).withM rfl rfl
  have HF5 := hide hf5
  have HT5 := hide ht5
  have hf5k : fN ≤ 100000 := by omega
  have ht5k : tN ≤ 100000 := by omega
  clear hf5 ht5
  clear hz H N N1 N5 N6 hi hf hfl hcm hst HG5 hM5
  unfold RV.withM at HRC
  unfold RV.withM RV.val RV.cells at HCN HSY
  unfold RV.val RV.cells at HBG ⊢
  obtain ⟨A0, n, c, B, k, d, ⟨m0, m1, m2, bl, ys, m5, m6, m7, m8⟩⟩ := v
  dsimp only at HRC HSY HST HPK hx hx0 hkd heq hsz12 hj100 hfit HBG HCN h7 hnl hnl2 hsl ⊢
  obtain ⟨h70, h71⟩ := h7
  obtain ⟨b1, o1, x', y', rfl, hb1, hx', x1, x2⟩ := hsl
  obtain ⟨hx01, hx02, hx03⟩ := hx0
  obtain ⟨hz1, hz2⟩ := hz12
  have hji : (j : Int) ≤ 100 := by omega
  have hjn : j < n := by omega
  have hjni : (j : Int) < (n : Int) := by omega
  have hni : (n : Int) ≤ 100 := by omega
  have hx4 : x ≤ 4096 := by omega
  have hy4 : y ≤ 4096 := by omega
  have hneg : decide ((j : Int) < 0) = false := by simp
  have hd0 : decide (j < n) = true := by simpa using hjn
  obtain ⟨rfl, rfl⟩ : x' = x ∧ y' = y := by
    rw [hx] at hx'
    cases hx'
    exact ⟨rfl, rfl⟩
  have HX1 := hide x1
  have HX2 := hide x2
  have HX := hide hx
  obtain rfl : m0 = 2 := hkd
  have deq : decide (x' + y' = m5) = true := by simpa using heq
  have beq5 : (x' + y' == m5) = true := by simpa using heq
  have HEQ := hide heq
  have HNL := hide hnl
  obtain ⟨w1, hw1⟩ : ∃ w1, (w.alloc (.cells #[.int .i64 2, .int .i64 m1, .int .i64 m2, .slice (some ⟨b1, o1, none⟩) n c, .slice B k d, .int .i64 m5, .int .i64 m6, .int .i64 m7, .int .i64 m8] MT)).alloc (.cells #[.int .i64 0, .int .i64 0, .int .i64 0, .slice none 0 0, .slice none 0 0, .int .i64 0, .int .i64 0, .int .i64 0, .int .i64 0] MT) = w1 := ⟨_, rfl⟩
  have hq1 : Q w w1 := by rw [← hw1]; exact ((Q.refl w).alloc _).alloc _
  have hs1 : w.heap.size + 1 < w1.heap.size := by rw [← hw1]; simp
  have hs0 : w.heap.size < w1.heap.size := by omega
  have q0 : w1.heap[w.heap.size]? = some (.cells #[.int .i64 2, .int .i64 m1, .int .i64 m2, .slice (some ⟨b1, o1, none⟩) n c, .slice B k d, .int .i64 m5, .int .i64 m6, .int .i64 m7, .int .i64 m8] MT (0, 0)) := by
    rw [← hw1, ((Q.refl (w.alloc _)).alloc _).below.block _ (by simp)]
    exact heap_alloc_new w _
  have q1 : w1.heap[w.heap.size + 1]? = some (.cells #[.int .i64 0, .int .i64 0, .int .i64 0, .slice none 0 0, .slice none 0 0, .int .i64 0, .int .i64 0, .int .i64 0, .int .i64 0] MT (0, 0)) := by
    have h := heap_alloc_new (w.alloc (.cells #[.int .i64 2, .int .i64 m1, .int .i64 m2, .slice (some ⟨b1, o1, none⟩) n c, .slice B k d, .int .i64 m5, .int .i64 m6, .int .i64 m7, .int .i64 m8] MT)) (.cells #[.int .i64 0, .int .i64 0, .int .i64 0, .slice none 0 0, .slice none 0 0, .int .i64 0, .int .i64 0, .int .i64 0, .int .i64 0] MT)
    rw [show (w.alloc (.cells #[.int .i64 2, .int .i64 m1, .int .i64 m2, .slice (some ⟨b1, o1, none⟩) n c, .slice B k d, .int .i64 m5, .int .i64 m6, .int .i64 m7, .int .i64 m8] MT)).heap.size = w.heap.size + 1 by simp, hw1] at h
    exact h
  have HW1 := hide hw1
  have HR0 := hide q0
  have HR1 := hide q1
  have HQ1 := hide hq1
  have HBW := hide (HBG.out w1 hq1)
  obtain ⟨k0, k1, k2, k3, k4, k5, k6, k7, k8⟩ := cells9 q0
  obtain ⟨z0, z1, z2, z3, z4, z5, z6, z7, z8⟩ := cells9 q1
  obtain ⟨y0, y1, y2, y3, y4, y5, y6, y7, y8⟩ := free9 q1
  clear hw1 hq1 q0 q1 HBG hx hx' hnl hnl2 heq x1 x2 hj100 hsz12 hfit
  go_enter Tryz.func25, Tryz.ntmps25
  go_wp2_with (go_at_call 15; refine (HWI.out _).mono ?_; rintro e w2 ⟨rfl, rfl⟩; rw [HW1.out])
  refine HBW.out.mono ?_
  rintro e w2 ⟨rfl, hq2⟩
  have q0 := (hq2.below.block _ hs0).trans HR0.out
  have q1 := (hq2.below.block _ hs1).trans HR1.out
  obtain ⟨k0, k1, k2, k3, k4, k5, k6, k7, k8⟩ := cells9 q0
  obtain ⟨z0, z1, z2, z3, z4, z5, z6, z7, z8⟩ := cells9 q1
  obtain ⟨y0, y1, y2, y3, y4, y5, y6, y7, y8⟩ := free9 q1
  have HR0 := hide q0
  have HR1 := hide q1
  have HQ := hide (HQ1.out.trans hq2)
  have hs0 : w.heap.size < w2.heap.size := by have := hq2.size; omega
  have hs1 : w.heap.size + 1 < w2.heap.size := by have := hq2.size; omega
  clear q0 q1 hq2
  go_wp2_with fail
  refine (HCN.out w2).mono ?_
  rintro e w3 ⟨rfl, hq3⟩
  have q0 := (hq3.below.block _ hs0).trans HR0.out
  have q1 := (hq3.below.block _ hs1).trans HR1.out
  obtain ⟨k0, k1, k2, k3, k4, k5, k6, k7, k8⟩ := cells9 q0
  obtain ⟨f0, f1, f2, f3, f4, f5, f6, f7, f8⟩ := free9 q0
  obtain ⟨z0, z1, z2, z3, z4, z5, z6, z7, z8⟩ := cells9 q1
  obtain ⟨y0, y1, y2, y3, y4, y5, y6, y7, y8⟩ := free9 q1
  have HR0 := hide q0
  have HR1 := hide q1
  have HQ := hide (HQ.out.trans hq3)
  have hs0 : w.heap.size < w3.heap.size := by have := hq3.size; omega
  have hs1 : w.heap.size + 1 < w3.heap.size := by have := hq3.size; omega
  clear q0 q1 hq3
  have x1 := (HQ.out.facts.1 b1 _ hb1).trans HX1.out
  have x2 := (HQ.out.facts.1 b1 _ hb1).trans HX2.out
  clear HBW HCN
  go_wp2_with fail
  obtain ⟨w4, hw4⟩ : ∃ w4, w4 = (((((((((w3.setCell ⟨w.heap.size, 0, none⟩ (.int .i64 2)).setCell ⟨w.heap.size, 1, none⟩ (.int .i64 m1)).setCell ⟨w.heap.size, 2, none⟩ (.int .i64 m2)).setCell ⟨w.heap.size, 3, none⟩ (.slice (some ⟨b1, o1, none⟩) n c)).setCell ⟨w.heap.size, 4, none⟩ (.slice B k d)).setCell ⟨w.heap.size, 5, none⟩ (.int .i64 m5)).setCell ⟨w.heap.size, 6, none⟩ (.int .i64 m6)).setCell ⟨w.heap.size, 7, none⟩ (.int .i64 (m7 + 1))).setCell ⟨w.heap.size, 8, none⟩ (.int .i64 fl)) := ⟨_, rfl⟩
  rw [← hw4]
  have q0 : w4.heap[w.heap.size]? = some (.cells #[.int .i64 2, .int .i64 m1, .int .i64 m2, .slice (some ⟨b1, o1, none⟩) n c, .slice B k d, .int .i64 m5, .int .i64 m6, .int .i64 (m7 + 1), .int .i64 fl] MT (0, 0)) := by
    rw [hw4]
    exact row9g (w := w3) (b := w.heap.size) (.int .i64 2) (.int .i64 m1) (.int .i64 m2) (.slice (some ⟨b1, o1, none⟩) n c) (.slice B k d) (.int .i64 m5) (.int .i64 m6) (.int .i64 (m7 + 1)) (.int .i64 fl) HR0.out
  have q1 : w4.heap[w.heap.size + 1]? = some (.cells #[.int .i64 0, .int .i64 0, .int .i64 0, .slice none 0 0, .slice none 0 0, .int .i64 0, .int .i64 0, .int .i64 0, .int .i64 0] MT (0, 0)) := by
    rw [hw4, keep9 w3 w.heap.size (.int .i64 2) (.int .i64 m1) (.int .i64 m2) (.slice (some ⟨b1, o1, none⟩) n c) (.slice B k d) (.int .i64 m5) (.int .i64 m6) (.int .i64 (m7 + 1)) (.int .i64 fl) (w.heap.size + 1) (by omega)]
    exact HR1.out
  have HQ := hide (show Q w w4 by
    rw [hw4]
    exact q9 (w0 := w) (w := w3) (b := w.heap.size) (.int .i64 2) (.int .i64 m1) (.int .i64 m2) (.slice (some ⟨b1, o1, none⟩) n c) (.slice B k d) (.int .i64 m5) (.int .i64 m6) (.int .i64 (m7 + 1)) (.int .i64 fl) HQ.out (Nat.le_refl _))
  have hs0 : w.heap.size < w4.heap.size := by have : w4.heap.size = w3.heap.size := (by rw [hw4]; simp [World.setCell]); omega
  have hs1 : w.heap.size + 1 < w4.heap.size := by have : w4.heap.size = w3.heap.size := (by rw [hw4]; simp [World.setCell]); omega
  have HR0 := hide q0
  have HR1 := hide q1
  obtain ⟨w5, hw5⟩ : ∃ w5, w4.alloc (.cells #[.int .i64 x', .int .i64 y'] 88) = w5 := ⟨_, rfl⟩
  rw [hw5]
  have hw4s : w4.heap.size = w3.heap.size := by rw [hw4]; simp [World.setCell]
  have hq45 : Q w4 w5 := by rw [← hw5]; exact (Q.refl w4).alloc _
  have q0 := (hq45.below.block _ hs0).trans HR0.out
  have q1 := (hq45.below.block _ hs1).trans HR1.out
  have q2 : w5.heap[w3.heap.size]? = some (.cells #[.int .i64 x', .int .i64 y'] 88 (0, 0)) := by rw [← hw5, ← hw4s]; exact heap_alloc_new w4 _
  have HQ := hide (HQ.out.trans hq45)
  have hs2 : w3.heap.size < w5.heap.size := blk_lt q2
  have hs3 : w.heap.size + 1 < w3.heap.size := by omega
  have hs1 : w.heap.size + 1 < w5.heap.size := by omega
  have hs0 : w.heap.size < w5.heap.size := by omega
  have HR0 := hide q0
  have HR1 := hide q1
  have HR2 := hide q2
  obtain ⟨g2, hg2⟩ : ∃ g2, g2 = w3.heap.size := ⟨_, rfl⟩
  rw [← hg2] at hs2 hs3 HR2 ⊢
  clear hw5 hw4 hw4s hq45 q0 q1 q2 hg2
  refine (HSY.out w5 HQ.out).mono ?_
  rintro e w6 ⟨rfl, hq6⟩
  have q2 := (hq6.below.block _ hs2).trans HR2.out
  have d0 : w6.cell? ⟨g2, 0, none⟩ = some (.int .i64 x') := by rw [cell_of_row _ _ _ _ _ _ q2]; rfl
  have d1 : w6.cell? ⟨g2, 1, none⟩ = some (.int .i64 y') := by rw [cell_of_row _ _ _ _ _ _ q2]; rfl
  have HR2 := hide q2
  have hs2 : g2 < w6.heap.size := by have := hq6.size; omega
  clear q2
  have q0 := (hq6.below.block _ hs0).trans HR0.out
  have q1 := (hq6.below.block _ hs1).trans HR1.out
  obtain ⟨k0, k1, k2, k3, k4, k5, k6, k7, k8⟩ := cells9 q0
  obtain ⟨-, -, -, -, -, f5, -, -, -⟩ := free9 q0
  obtain ⟨z0, z1, z2, z3, z4, z5, z6, z7, z8⟩ := cells9 q1
  obtain ⟨y0, y1, y2, y3, y4, y5, y6, y7, y8⟩ := free9 q1
  have HR0 := hide q0
  have HR1 := hide q1
  have HQ := hide (HQ.out.trans hq6)
  have hs0 : w.heap.size < w6.heap.size := by have := hq6.size; omega
  have hs1 : w.heap.size + 1 < w6.heap.size := by have := hq6.size; omega
  clear q0 q1 hq6
  clear HSY
  go_upto_region 13 with fail
  obtain ⟨w7, hw7⟩ : ∃ w7, (w6.setCell ⟨w.heap.size, 5, none⟩ (.int .i64 (x' + z))) = w7 := ⟨_, rfl⟩
  rw [hw7]
  have q0 : w7.heap[w.heap.size]? = some (.cells #[.int .i64 2, .int .i64 m1, .int .i64 m2, .slice (some ⟨b1, o1, none⟩) n c, .slice B k d, .int .i64 (x' + z), .int .i64 m6, .int .i64 (m7 + 1), .int .i64 fl] MT (0, 0)) := by rw [← hw7]; exact heap_setCell_same w6 w.heap.size 5 _ _ (.int .i64 (x' + z)) HR0.out
  have q1 : w7.heap[w.heap.size + 1]? = some (.cells #[.int .i64 0, .int .i64 0, .int .i64 0, .slice none 0 0, .slice none 0 0, .int .i64 0, .int .i64 0, .int .i64 0, .int .i64 0] MT (0, 0)) := by rw [← hw7]; exact (heap_setCell_other _ _ _ _ (by simp)).trans HR1.out
  have q2 : w7.heap[g2]? = some (.cells #[.int .i64 x', .int .i64 y'] 88 (0, 0)) := by rw [← hw7]; exact (heap_setCell_other _ _ _ _ (by show g2 ≠ w.heap.size; omega)).trans HR2.out
  have HQ := hide (show Q w w7 by rw [← hw7]; exact HQ.out.set (p := ⟨w.heap.size, 5, none⟩) (Nat.le_refl _) _)
  have hw7s : w7.heap.size = w6.heap.size := by rw [← hw7]; simp [World.setCell]
  have hs0 : w.heap.size < w7.heap.size := by omega
  have hs1 : w.heap.size + 1 < w7.heap.size := by omega
  have hs2 : g2 < w7.heap.size := by omega
  have HR0 := hide q0
  have HR1 := hide q1
  have HR2 := hide q2
  clear hw7 hw7s q0 q1 q2
  have HLT := hide (own_lit0 w7 w7.heap.size 88 2 w7.heap.size rfl (Nat.le_refl _))
  have HSL := hide (HRC.out w7 HQ.out).b
  dsimp only at HSL
  have k3 : w7.cell? ⟨w.heap.size, 3, none⟩ = some (.slice (some ⟨b1, o1, none⟩) n c) := by rw [cell_of_row _ _ _ _ _ _ HR0.out]; rfl
  go_wp2_with (at_builtin; go_loud (refine wpList_appnew rfl El_pair _ _ rfl rfl rfl HLT.out (fun h => by cases h) ?_ (HSL.out.up ((Q.refl w7).alloc _)).rd (one_encP _) ?_ ?_ ?_; (focus (rw [flatMap_length (k := 2) (fun _ => rfl), HNL.out])); (focus omega); (focus (simp; done)); intro v8 w8 hv8 hq8; have HV8 := hide hv8; have HQ78 := hide (show Q w7 w8 from ((Q.refl w7).alloc _).trans hq8); have HQ8 := hide (HQ.out.trans HQ78.out); obtain ⟨g, cg, e5, hgb, hgl, hgn, hgm, hcell, hfz⟩ := own_at hv8 (by omega); subst e5; have q0 := (HQ78.out.below.block _ hs0).trans HR0.out; have k3 : w8.cell? ⟨w.heap.size, 3, none⟩ = some (.slice (some ⟨b1, o1, none⟩) n c) := (by rw [cell_of_row _ _ _ _ _ _ q0]; rfl); have f3 : w8.frozen? ⟨w.heap.size, 3, none⟩ = false := frozen_of_row _ _ _ _ _ q0; have q2 := (HQ78.out.below.block _ hs2).trans HR2.out; have d0 : w8.cell? ⟨g2, 0, none⟩ = some (.int .i64 x') := (by rw [cell_of_row _ _ _ _ _ _ q2]; rfl); have hcA := hcell (j * 2) _ (flatP0 HX.out); have hcB := hcell (j * 2 + 1) _ (flatP1 HX.out); have hfA := hfz (j * 2); have hfB := hfz (j * 2 + 1); have hg01 : g ≠ w.heap.size := (by omega); have hg02 : g ≠ g2 := (by omega); have hg03 : g ≠ w.heap.size + 1 := (by omega); clear hv8 hq8 hcell hfz q0 q2))
  clear HSL
  obtain ⟨w9, hw9⟩ : ∃ w9, (((w8.setCell ⟨w.heap.size, 3, none⟩ (.slice (some ⟨g, 0, none⟩) n cg)).setCell ⟨g, j * 2, none⟩ (.int .i64 x')).setCell ⟨g, j * 2 + 1, none⟩ (.int .i64 z)) = w9 := ⟨_, rfl⟩
  rw [hw9]
  have hw9s : w9.heap.size = w8.heap.size := by rw [← hw9]; simp [World.setCell]
  have hO9 : w9.ownsRow w7.heap.size 88 2 (.slice (some ⟨g, 0, none⟩) n cg) n ((bl.set j (x', z)).flatMap encP) := by
    rw [← hw9, ← flat_setP bl j x' z y' HX.out]
    exact own_set (own_set (own1 HV8.out hs0) _ _) _ _
  have q0 : w9.heap[w.heap.size]? = some (.cells #[.int .i64 2, .int .i64 m1, .int .i64 m2, .slice (some ⟨g, 0, none⟩) n cg, .slice B k d, .int .i64 (x' + z), .int .i64 m6, .int .i64 (m7 + 1), .int .i64 fl] MT (0, 0)) := by
    rw [← hw9]
    exact (heap_setCell_other _ _ _ _ (by show w.heap.size ≠ g; omega)).trans ((heap_setCell_other _ _ _ _ (by show w.heap.size ≠ g; omega)).trans (heap_setCell_same w8 w.heap.size 3 _ _ _ ((HQ78.out.below.block _ hs0).trans HR0.out)))
  have q1 : w9.heap[w.heap.size + 1]? = some (.cells #[.int .i64 0, .int .i64 0, .int .i64 0, .slice none 0 0, .slice none 0 0, .int .i64 0, .int .i64 0, .int .i64 0, .int .i64 0] MT (0, 0)) := by
    rw [← hw9]
    exact (heap_setCell_other _ _ _ _ (by show w.heap.size + 1 ≠ g; omega)).trans ((heap_setCell_other _ _ _ _ (by show w.heap.size + 1 ≠ g; omega)).trans (((heap_setCell_other _ _ _ _ (by simp)).trans ((HQ78.out.below.block _ hs1).trans HR1.out))))
  have q2 : w9.heap[g2]? = some (.cells #[.int .i64 x', .int .i64 y'] 88 (0, 0)) := by
    rw [← hw9]
    exact (heap_setCell_other _ _ _ _ (by show g2 ≠ g; omega)).trans ((heap_setCell_other _ _ _ _ (by show g2 ≠ g; omega)).trans (((heap_setCell_other _ _ _ _ (by show g2 ≠ w.heap.size; omega)).trans ((HQ78.out.below.block _ hs2).trans HR2.out))))
  have hQ9 : Q w w9 := by
    rw [← hw9]
    exact ((HQ8.out.set (p := ⟨w.heap.size, 3, none⟩) (Nat.le_refl _) _).set (p := ⟨g, j * 2, none⟩) (by show w.heap.size ≤ g; omega) _).set (p := ⟨g, j * 2 + 1, none⟩) (by show w.heap.size ≤ g; omega) _
  have hs78 := HQ78.out.size
  have HRV : RmR w9 ⟨some ⟨g, 0, none⟩, n, cg, B, k, d, ⟨2, m1, m2, bl.set j (x', z), ys,  (x' + z), m6, m7 + 1, fl⟩⟩ := ⟨Sl.own hO9 (fun _ => rfl) (by decide), HRM.out.y.up hQ9, fun h => (by cases h), HRM.out.yn, TyA.own hO9, HRM.out.tb.up hQ9⟩
  have HFR5 : Fr w7.heap.size ⟨some ⟨b1, o1, none⟩, n, c, B, k, d, ⟨2, m1, m2, bl, ys, m5, m6, m7 + 1, fl⟩⟩ ⟨some ⟨g, 0, none⟩, n, cg, B, k, d, ⟨2, m1, m2, bl.set j (x', z), ys,  (x' + z), m6, m7 + 1, fl⟩⟩ := ⟨fr_own hO9, .inl ⟨rfl, rfl⟩⟩
  have HRC0 := hide (HRC.out w (Q.refl w))
  have HRV9 := hide HRV
  have HFR9 := hide HFR5
  have HR0 := hide q0
  have HR1 := hide q1
  have HR2 := hide q2
  have HQ := hide hQ9
  have hs79 : w7.heap.size ≤ w9.heap.size := by omega
  have hb1w : w.heap.size + 1 < w7.heap.size := hs1
  have hg27 : g2 < w7.heap.size := hs2
  have hs0 : w.heap.size < w9.heap.size := by omega
  have hs1 : w.heap.size + 1 < w9.heap.size := by omega
  have hs2 : g2 < w9.heap.size := by omega
  clear hw9 hw9s hO9 q0 q1 q2 hQ9 HRV HFR5 HV8 HQ78 HQ8 hcA hcB hfA hfB hgb hgl hgn hgm k3 f3 HLT
  obtain ⟨X, hX⟩ : ∃ X, X = rmX (w.heap.size + 1) (peakR M5) ⟨some ⟨b1, o1, none⟩, n, c, B, k, d, ⟨2, m1, m2, bl, ys, m5, m6, m7 + 1, fl⟩⟩ w7.heap.size := ⟨_, rfl⟩
  have hXq : ∀ w w', X w → Q w w' → X w' := by rw [hX]; exact rmX_q _ _ _ _
  have HXD := hide hX
  clear hX
  refine Ri.madeT (T := Ri.TX (w.heap.size + 1) X) (fun _ => Ri.TX.refl _ _ _) (fun _ _ _ h k => Ri.TX.trans hXq h k) (Ri.phi [Ri.isV (.agg #[.int .i64 2, .int .i64 m1, .int .i64 m2, .slice (some ⟨g, 0, none⟩) n cg, .slice B k d, .int .i64 (x' + z), .int .i64 m6, .int .i64 (m7 + 1), .int .i64 fl]), Ri.isV (.pointer (some ⟨g2, 0, none⟩)), Ri.isV (.int .i64 x'), Ri.isV (.int .i64 z), Ri.isV (.pointer (some ⟨g2, 1, none⟩)), Ri.isV (.int .i64 y'), Ri.isV ((.int .i64 (min z y'))), Ri.isV ((.int .i64 (x' + min z y'))), Ri.isV (.pointer (some ⟨g2, 0, none⟩)), Ri.isV (.int .i64 x'), Ri.isV (.int .i64 z), Ri.isV ((.int .i64 (x' + z))), rmV M5 ⟨some ⟨b1, o1, none⟩, n, c, B, k, d, ⟨2, m1, m2, bl, ys, m5, m6, m7 + 1, fl⟩⟩ w7.heap.size, rmV (peakR M5) ⟨some ⟨b1, o1, none⟩, n, c, B, k, d, ⟨2, m1, m2, bl, ys, m5, m6, m7 + 1, fl⟩⟩ w7.heap.size, Ri.isV (.pointer (some ⟨g2, 0, none⟩)), Ri.isV (.int .i64 x'), (fun _ W => X W), Ri.isV (.int .i64 x'), Ri.isV (.int .i64 0)]) (by kernel_rfl) (by kernel_rfl) (fun i => Ri.phi_monoT ?_ i) ?_ ?_
  · exact ⟨Ri.mono_isT _, Ri.mono_isT _, Ri.mono_isT _, Ri.mono_isT _, Ri.mono_isT _, Ri.mono_isT _, Ri.mono_isT _, Ri.mono_isT _, Ri.mono_isT _, Ri.mono_isT _, Ri.mono_isT _, Ri.mono_isT _, (fun v w1 w2 h _ ht => rmV_t (M2 := peakR M5) HRC0.out (by omega) hb1w h (by rw [← HXD.out]; exact ht)), (fun v w1 w2 h _ ht => rmV_t (M2 := peakR M5) HRC0.out (by omega) hb1w h (by rw [← HXD.out]; exact ht)), Ri.mono_isT _, Ri.mono_isT _, (fun v w1 w2 h h0 ht => Ri.TX.keepX hXq h ht (Nat.lt_of_lt_of_le hs1 h0.size)), Ri.mono_isT _, Ri.mono_isT _, trivial⟩
  · refine Ri.All.cons ?_ (Ri.All.cons ?_ (Ri.All.cons ?_ (Ri.All.cons ?_ (Ri.All.cons ?_ (Ri.All.cons ?_ (Ri.All.cons ?_ (Ri.All.cons ?_ (Ri.All.cons ?_ (Ri.All.cons ?_ (Ri.All.cons ?_ (Ri.All.cons ?_ (Ri.All.cons ?_ (Ri.All.cons ?_ (Ri.All.cons ?_ (Ri.All.cons ?_ (Ri.All.cons ?_ (Ri.All.cons ?_ (Ri.All.cons ?_ (Ri.All.nil)))))))))))))))))))
    · refine Ri.StepT.q (fun _ _ _ h => Ri.TX.of_q h) ⟨rfl, fun f W hq hf A hA hB hO => ?_⟩
      have e1 := (hB 3 (by kernel_rfl)).trans (show _ = .pointer (some ⟨w.heap.size, 0, none⟩) by simp [Act.eval])
      exact Ri.wp_value _ (Ri.run_ldrow rfl e1 ((hq.block _ hs0 (by omega)).trans HR0.out) Tryz.underlying32 rfl (by kernel_rfl)) rfl
    · refine Ri.StepT.q (fun _ _ _ h => Ri.TX.of_q h) ⟨rfl, fun f W hq hf A hA hB hO => ?_⟩
      have e1 := (hB 11 (by kernel_rfl)).trans (show _ = .pointer (some ⟨g2, 0, none⟩) by simp [Act.eval])
      exact Ri.wp_value _ (Ri.run_idxA (k := 0) (sz := 1) rfl e1 (show A.eval (.const (.int .i64 0)) = _ from rfl) Tryz.underlying88 (by kernel_rfl) (by decide)) rfl
    · refine Ri.StepT.q (fun _ _ _ h => Ri.TX.of_q h) ⟨rfl, fun f W hq hf A hA hB hO => ?_⟩
      have e1 := (hA 79 1 (by kernel_rfl) (by simp)).trans (show f 1 = _ from hf 1 (by kernel_rfl))
      exact Ri.wp_value _ (Ri.run_ld1 rfl e1 Tryz.underlying3 rfl ((cell_of_row W g2 0 _ _ _ ((hq.block g2 hs2 (by omega)).trans HR2.out)).trans rfl)) rfl
    · refine Ri.StepT.q (fun _ _ _ h => Ri.TX.of_q h) ⟨rfl, fun f W hq hf A hA hB hO => ?_⟩
      have e1 := (hB 2 (by kernel_rfl)).trans (show _ = .int .i64 z by simp [Act.eval])
      exact Ri.wp_value _ (Ri.run_mv rfl e1) rfl
    · refine Ri.StepT.q (fun _ _ _ h => Ri.TX.of_q h) ⟨rfl, fun f W hq hf A hA hB hO => ?_⟩
      have e1 := (hB 11 (by kernel_rfl)).trans (show _ = .pointer (some ⟨g2, 0, none⟩) by simp [Act.eval])
      exact Ri.wp_value _ (Ri.run_idxA (k := 1) (sz := 1) rfl e1 (show A.eval (.const (.int .i64 1)) = _ from rfl) Tryz.underlying88 (by kernel_rfl) (by decide)) rfl
    · refine Ri.StepT.q (fun _ _ _ h => Ri.TX.of_q h) ⟨rfl, fun f W hq hf A hA hB hO => ?_⟩
      have e1 := (hA 82 4 (by kernel_rfl) (by simp)).trans (show f 4 = _ from hf 4 (by kernel_rfl))
      exact Ri.wp_value _ (Ri.run_ld1 rfl e1 Tryz.underlying3 rfl ((cell_of_row W g2 1 _ _ _ ((hq.block g2 hs2 (by omega)).trans HR2.out)).trans rfl)) rfl
    · refine Ri.StepT.q (fun _ _ _ h => Ri.TX.of_q h) ⟨rfl, fun f W hq hf A hA hB hO => ?_⟩
      have e1 := (hA 81 3 (by kernel_rfl) (by simp)).trans (show f 3 = _ from hf 3 (by kernel_rfl))
      have e2 := (hA 83 5 (by kernel_rfl) (by simp)).trans (show f 5 = _ from hf 5 (by kernel_rfl))
      exact Ri.wp_value _ (Ri.run_mini rfl e1 e2) rfl
    · refine Ri.StepT.q (fun _ _ _ h => Ri.TX.of_q h) ⟨rfl, fun f W hq hf A hA hB hO => ?_⟩
      have e1 := (hA 80 2 (by kernel_rfl) (by simp)).trans (show f 2 = _ from hf 2 (by kernel_rfl))
      have e2 := (hA 84 6 (by kernel_rfl) (by simp)).trans (show f 6 = _ from hf 6 (by kernel_rfl))
      exact Ri.wp_value _ (Ri.run_add rfl e1 e2 Tryz.underlying3 (by omega) (by omega)) rfl
    · refine Ri.StepT.q (fun _ _ _ h => Ri.TX.of_q h) ⟨rfl, fun f W hq hf A hA hB hO => ?_⟩
      have e1 := (hB 11 (by kernel_rfl)).trans (show _ = .pointer (some ⟨g2, 0, none⟩) by simp [Act.eval])
      exact Ri.wp_value _ (Ri.run_idxA (k := 0) (sz := 1) rfl e1 (show A.eval (.const (.int .i64 0)) = _ from rfl) Tryz.underlying88 (by kernel_rfl) (by decide)) rfl
    · refine Ri.StepT.q (fun _ _ _ h => Ri.TX.of_q h) ⟨rfl, fun f W hq hf A hA hB hO => ?_⟩
      have e1 := (hA 86 8 (by kernel_rfl) (by simp)).trans (show f 8 = _ from hf 8 (by kernel_rfl))
      exact Ri.wp_value _ (Ri.run_ld1 rfl e1 Tryz.underlying3 rfl ((cell_of_row W g2 0 _ _ _ ((hq.block g2 hs2 (by omega)).trans HR2.out)).trans rfl)) rfl
    · refine Ri.StepT.q (fun _ _ _ h => Ri.TX.of_q h) ⟨rfl, fun f W hq hf A hA hB hO => ?_⟩
      have e1 := (hB 2 (by kernel_rfl)).trans (show _ = .int .i64 z by simp [Act.eval])
      exact Ri.wp_value _ (Ri.run_mv rfl e1) rfl
    · refine Ri.StepT.q (fun _ _ _ h => Ri.TX.of_q h) ⟨rfl, fun f W hq hf A hA hB hO => ?_⟩
      have e1 := (hA 87 9 (by kernel_rfl) (by simp)).trans (show f 9 = _ from hf 9 (by kernel_rfl))
      have e2 := (hA 88 10 (by kernel_rfl) (by simp)).trans (show f 10 = _ from hf 10 (by kernel_rfl))
      exact Ri.wp_value _ (Ri.run_add rfl e1 e2 Tryz.underlying3 (by omega) (by omega)) rfl
    · refine Ri.StepT.q (fun _ _ _ h => Ri.TX.of_q h) ⟨rfl, fun f W hq hf A hA hB hO => ?_⟩
      have hRW : RmR W ⟨some ⟨g, 0, none⟩, n, cg, B, k, d, ⟨2, m1, m2, bl.set j (x', z), ys,  (x' + z), m6, m7 + 1, fl⟩⟩ := RmR.keep HRC0.out HRV9.out HFR9.out (b := w.heap.size + 1) (by omega) hb1w (fun g hg hne => hq.block g hg hne) hq.size
      have e1 := (hA 78 0 (by kernel_rfl) (by simp)).trans (show f 0 = _ from hf 0 (by kernel_rfl))
      have e2 := (hA 85 7 (by kernel_rfl) (by simp)).trans (show f 7 = _ from hf 7 (by kernel_rfl))
      have e3 := (hA 89 11 (by kernel_rfl) (by simp)).trans (show f 11 = _ from hf 11 (by kernel_rfl))
      refine Ri.wp_call #[(⟨some ⟨g, 0, none⟩, n, cg, B, k, d, ⟨2, m1, m2, bl.set j (x', z), ys,  (x' + z), m6, m7 + 1, fl⟩⟩ : RV).val, .int .i64 (fN : Int), .int .i64 (tN : Int), .int .i64 (-1)] rfl ?_ Tryz.func56 (by kernel_rfl) (by kernel_rfl) ((HST.out W _ rfl hRW).mono ?_)
      · simp only [List.map_toArray, List.map_cons, List.map_nil, e1, e2, e3, HF5.out, HT5.out]
        rfl
      · rintro e w3 ⟨v6, rfl, hm, hR, hF, hq3⟩
        exact ⟨_, rfl, hq3, v6, rfl, hm, hR, Fr.trans HFR9.out hF (Nat.le_trans hs79 hq.size)⟩
    · refine Ri.StepT.q (fun _ _ _ h => Ri.TX.of_q h) ⟨rfl, fun f W hq hf A hA hB hO => ?_⟩
      obtain ⟨v6, hv, hm, hR, hF⟩ : rmV M5 ⟨some ⟨b1, o1, none⟩, n, c, B, k, d, ⟨2, m1, m2, bl, ys, m5, m6, m7 + 1, fl⟩⟩ w7.heap.size (f 12) W := hf 12 (by kernel_rfl)
      have e1 := (hA 90 12 (by kernel_rfl) (by simp)).trans hv
      refine Ri.wp_call #[v6.val] rfl (by simp [e1]) Tryz.func55 (by kernel_rfl) (by kernel_rfl) ((HPK.out W v6 hm hR).mono ?_)
      rintro e w3 ⟨rfl, hq3⟩
      exact ⟨_, rfl, hq3, v6.withM (peakR v6.m), rfl, by rw [← hm]; rfl, (hR.up hq3).withM rfl rfl, hF.withM rfl rfl⟩
    · refine Ri.StepT.q (fun _ _ _ h => Ri.TX.of_q h) ⟨rfl, fun f W hq hf A hA hB hO => ?_⟩
      have e1 := (hB 11 (by kernel_rfl)).trans (show _ = .pointer (some ⟨g2, 0, none⟩) by simp [Act.eval])
      exact Ri.wp_value _ (Ri.run_idxA (k := 0) (sz := 1) rfl e1 (show A.eval (.const (.int .i64 0)) = _ from rfl) Tryz.underlying88 (by kernel_rfl) (by decide)) rfl
    · refine Ri.StepT.q (fun _ _ _ h => Ri.TX.of_q h) ⟨rfl, fun f W hq hf A hA hB hO => ?_⟩
      have e1 := (hA 92 14 (by kernel_rfl) (by simp)).trans (show f 14 = _ from hf 14 (by kernel_rfl))
      exact Ri.wp_value _ (Ri.run_ld1 rfl e1 Tryz.underlying3 rfl ((cell_of_row W g2 0 _ _ _ ((hq.block g2 hs2 (by omega)).trans HR2.out)).trans rfl)) rfl
    · refine ⟨rfl, fun f W hq hf A hA hB hO => ?_⟩
      obtain ⟨v6, hv, hm, hR, hF⟩ : rmV (peakR M5) ⟨some ⟨b1, o1, none⟩, n, c, B, k, d, ⟨2, m1, m2, bl, ys, m5, m6, m7 + 1, fl⟩⟩ w7.heap.size (f 13) W := hf 13 (by kernel_rfl)
      have e1 := (hB 6 (by kernel_rfl)).trans (show _ = .pointer (some ⟨w.heap.size + 1, 0, none⟩) by simp [Act.eval])
      have e2 := (hA 91 13 (by kernel_rfl) (by simp)).trans hv
      obtain ⟨old, hold, hos⟩ : ∃ old, W.heap[w.heap.size + 1]? = some (.cells old MT (0, 0)) ∧ old.size = 9 := by
        rcases hq.at_ hs1 with e | e
        · exact ⟨_, e.trans HR1.out, rfl⟩
        · rw [HXD.out] at e
          obtain ⟨v', e, -⟩ := e
          exact ⟨_, e, rfl⟩
      have hX2 : X (W.setRow (w.heap.size + 1) v6.cells) := by
        rw [HXD.out]
        exact ⟨v6, setRow_heap _ _ _ _ _ _ hold, hm, RmR.keep HRC0.out hR hF (by omega) hb1w (fun g _ hne => setRow_other _ _ _ _ hne) (by simp), hF⟩
      exact Ri.wp_row rfl e1 e2 rfl hold (by kernel_rfl) hos (by simp [RV.cells, Value.oneCell']) (Ri.TX.setRow hX2) hX2
    · refine Ri.StepT.q (fun _ _ _ h => Ri.TX.of_q h) ⟨rfl, fun f W hq hf A hA hB hO => ?_⟩
      have e1 := (hA 93 15 (by kernel_rfl) (by simp)).trans (show f 15 = _ from hf 15 (by kernel_rfl))
      exact Ri.wp_value _ (Ri.run_asg rfl e1) rfl
    · refine Ri.StepT.q (fun _ _ _ h => Ri.TX.of_q h) ⟨rfl, fun f W hq hf A hA hB hO => ?_⟩
      have e1 : A.eval (.const (.int .i64 0)) = .int .i64 0 := rfl
      exact Ri.wp_value _ (Ri.run_asg rfl e1) rfl
  · intro f W hq hf
    have hX2 : X W := hf 16 (by simp)
    have e17 : f 17 = .int .i64 x' := hf 17 (by simp)
    have e18 : f 18 = .int .i64 0 := hf 18 (by simp)
    rw [HXD.out] at hX2
    obtain ⟨v', hg, hm, hR, hF⟩ := hX2
    have hqw : Q w W := Ri.TX.q_of (w0 := w) (w := w9) HQ.out ⟨hq.os, hq.tape, hq.output, hq.size, hq.block, hq.at_⟩ (by omega)
    simp only [Ri.acts, Act.put, List.setIfInBounds_toArray, List.set_cons_zero, List.set_cons_succ, Nat.zero_add, Nat.reduceAdd]
    rw [e17, e18]
    clear hf hq
    go_wp2_with fail
    refine bodyPost_ret (v := .tuple #[.agg v'.cells, .int .i64 x', .int .i64 0]) (ret_m3 (p := 6) (u := 7) (x := 8) rfl rfl (by simp) (by simp) (by simp) hg) rfl ?_
    exact ⟨v', rfl, hm, hR, Fr.trans (v1 := ⟨some ⟨b1, o1, none⟩, n, c, B, k, d, ⟨2, m1, m2, bl, ys, m5, m6, m7 + 1, fl⟩⟩) ⟨.inl ⟨rfl, rfl⟩, .inl ⟨rfl, rfl⟩⟩ hF (by omega), hqw⟩

set_option maxRecDepth 100000 in
set_option maxHeartbeats 8000000 in
theorem rResize_stay_c (v : RV) (at_ z : Int) (j : Nat) (x y : Int) (w : World) (H : RmR w v) (N : RmN v.m) (hz : (decide (1 ≤ z) && decide (z ≤ 4096)) = true) (hx : v.m.bl[j]? = some (x, y)) (hi : idxI (fun p => p.1 == at_) v.m.bl = (j : Int)) (hf : (countR v.m).2 = false) (hcl : v.m.calls < 1000000) (hst : staysR (countR v.m).1 j x y z = true) (hfit : x + z ≤ v.m.size) (hkd : v.m.kind = 1) (heq : ¬ x + y = v.m.top) :
    Calls Tryz.prog 25 #[v.val, .int .i64 at_, .int .i64 z] w (MPost2 (peakR (setR (growR (countR v.m).1 j x y z) (x + min z y).toNat (x + z).toNat (-1)), x, 0) w v) := by
  have HWI : Hid (∀ W, Calls Tryz.prog 15 #[.int .i64 z, .int .i64 1, .int .i64 4096] W fun e w' => e = .returned (.bool true) ∧ W = w') := fun W => by
    have := within_any z 1 4096 W
    rw [hz] at this
    exact this
  have HBG := hide fun (W : World) (h : Q w W) => begins_any v at_ W (H.up h) N
  rw [hi] at HBG
  have HCN := hide fun (W : World) => rCounted_any v W N
  obtain ⟨fl, hfl⟩ : ∃ fl, fl = (countR v.m).1.fail := ⟨_, rfl⟩
  have hcm : (countR v.m).1 = { v.m with calls := v.m.calls + 1, fail := fl } := by rw [hfl]; rfl
  rw [hf, hcm] at HCN
  have HRM := hide H
  have HRN := hide N
  have h7 := N.cl
  have hnl := H.b.len
  have hnl2 := N.n
  have hsl := H.b.pr j (by have := (List.getElem?_eq_some_iff.1 hx).1; omega)
  have N1 := N.count hcl
  have HSY : Hid (∀ W, Q w W → Calls Tryz.prog 60 #[(v.withM { v.m with calls := v.m.calls + 1, fail := fl }).val, .int .i64 (j : Int), .int .i64 z] W fun e w' => e = .returned (.bool true) ∧ Q W w') := fun W h => by
    simp only [Bool.and_eq_true, decide_eq_true_eq] at hz
    have h1 := rStays_any (v.withM (countR v.m).1) j x y z W ((H.up h).withM rfl rfl) N1 hx hz.2 (by omega)
    rw [hcm] at h1
    rw [hcm] at hst
    rw [show staysR (v.withM { v.m with calls := v.m.calls + 1, fail := fl }).m j x y z = true from hst] at h1
    exact h1
  have hx0 : 0 ≤ x ∧ 0 ≤ y ∧ x + y ≤ v.m.size := N.all _ (List.mem_of_getElem? hx)
  have hz12 : 1 ≤ z ∧ z ≤ 4096 := by simpa using hz
  have hsz12 := N.sz
  have hj100 : j < v.m.bl.length := (List.getElem?_eq_some_iff.1 hx).1
  rw [hcm] at N1
  rw [hcm]
  have N5 : RmN (growR { v.m with calls := v.m.calls + 1, fail := fl } j x y z) := by
    refine ⟨N1.sz, N1.pc, by show (v.m.bl.set j _).length ≤ 100; rw [List.length_set]; exact N.n, N1.k, fun p hp => ?_, ?_, N1.pk, N1.cl, N1.fl⟩
    · rcases List.mem_or_eq_of_mem_set hp with hp | rfl
      · exact N.all p hp
      · exact ⟨hx0.1, by omega, hfit⟩
    · have := N.tp
      show 0 ≤ (if (v.m.kind = 1 ∨ v.m.kind = 2) ∧ x + y = v.m.top then x + z else v.m.top) ∧ (if (v.m.kind = 1 ∨ v.m.kind = 2) ∧ x + y = v.m.top then x + z else v.m.top) ≤ 4096
      split <;> omega
  obtain ⟨fN, hf5⟩ : ∃ fN : Nat, x + min z y = (fN : Int) := ⟨(x + min z y).toNat, by omega⟩
  obtain ⟨tN, ht5⟩ : ∃ tN : Nat, x + z = (tN : Int) := ⟨(x + z).toNat, by omega⟩
  have HST : Hid (∀ W v5, v5.m = growR { v.m with calls := v.m.calls + 1, fail := fl } j x y z → RmR W v5 → Calls Tryz.prog 56 #[v5.val, .int .i64 (fN : Int), .int .i64 (tN : Int), .int .i64 (-1)] W (isRm (setR (growR { v.m with calls := v.m.calls + 1, fail := fl } j x y z) (x + min z y).toNat (x + z).toNat (-1)) W v5)) := fun W v5 e h2 => by
    rw [hf5, ht5, Int.toNat_natCast, Int.toNat_natCast, ← e]
    have e2 : v5.m.size = v.m.size := by rw [e]; rfl
    exact rSet_fr v5 fN tN (-1) W h2 (by rw [e]; exact N5) (by omega) (by omega) (by omega)
  obtain ⟨M5, hM5⟩ : ∃ M5, M5 = setR (growR { v.m with calls := v.m.calls + 1, fail := fl } j x y z) (x + min z y).toNat (x + z).toNat (-1) := ⟨_, rfl⟩
  have N6 : RmN M5 := by rw [hM5]; exact N5.set _ _ _
  rw [← hM5] at HST ⊢
  have HPK : Hid (∀ W v6, v6.m = M5 → RmR W v6 → Calls Tryz.prog 55 #[v6.val] W fun e w' => e = .returned (v6.withM (peakR v6.m)).val ∧ Q W w') := fun W v6 e h2 => rPeaked_any v6 W h2 (by rw [e]; exact N6)
  have HG5 : Hid (growR { v.m with calls := v.m.calls + 1, fail := fl } j x y z = ⟨v.m.kind, v.m.size, v.m.piece, v.m.bl.set j (x, z), v.m.ys, v.m.top, v.m.peak, v.m.calls + 1, fl⟩) := by
    refine hide ?_
    unfold growR
    dsimp only
    rw [if_neg (fun h => heq h.2)]
  rw [HG5.out] at HST
  have HRC : Hid (∀ W, Q w W → RmR W (v.withM { v.m with calls := v.m.calls + 1, fail := fl })) := fun W h => (H.up h).withM rfl rfl
  have HF5 := hide hf5
  have HT5 := hide ht5
  have hf5k : fN ≤ 100000 := by omega
  have ht5k : tN ≤ 100000 := by omega
  clear hf5 ht5
  clear hz H N N1 N5 N6 hi hf hfl hcm hst HG5 hM5
  unfold RV.withM at HRC
  unfold RV.withM RV.val RV.cells at HCN HSY
  unfold RV.val RV.cells at HBG ⊢
  obtain ⟨A0, n, c, B, k, d, ⟨m0, m1, m2, bl, ys, m5, m6, m7, m8⟩⟩ := v
  dsimp only at HRC HSY HST HPK hx hx0 hkd heq hsz12 hj100 hfit HBG HCN h7 hnl hnl2 hsl ⊢
  obtain ⟨h70, h71⟩ := h7
  obtain ⟨b1, o1, x', y', rfl, hb1, hx', x1, x2⟩ := hsl
  obtain ⟨hx01, hx02, hx03⟩ := hx0
  obtain ⟨hz1, hz2⟩ := hz12
  have hji : (j : Int) ≤ 100 := by omega
  have hjn : j < n := by omega
  have hjni : (j : Int) < (n : Int) := by omega
  have hni : (n : Int) ≤ 100 := by omega
  have hx4 : x ≤ 4096 := by omega
  have hy4 : y ≤ 4096 := by omega
  have hneg : decide ((j : Int) < 0) = false := by simp
  have hd0 : decide (j < n) = true := by simpa using hjn
  obtain ⟨rfl, rfl⟩ : x' = x ∧ y' = y := by
    rw [hx] at hx'
    cases hx'
    exact ⟨rfl, rfl⟩
  have HX1 := hide x1
  have HX2 := hide x2
  have HX := hide hx
  obtain rfl : m0 = 1 := hkd
  have deq : decide (x' + y' = m5) = false := by simpa using heq
  have beq5 : (x' + y' == m5) = false := by simpa using heq
  have HEQ := hide heq
  have HNL := hide hnl
  obtain ⟨w1, hw1⟩ : ∃ w1, (w.alloc (.cells #[.int .i64 1, .int .i64 m1, .int .i64 m2, .slice (some ⟨b1, o1, none⟩) n c, .slice B k d, .int .i64 m5, .int .i64 m6, .int .i64 m7, .int .i64 m8] MT)).alloc (.cells #[.int .i64 0, .int .i64 0, .int .i64 0, .slice none 0 0, .slice none 0 0, .int .i64 0, .int .i64 0, .int .i64 0, .int .i64 0] MT) = w1 := ⟨_, rfl⟩
  have hq1 : Q w w1 := by rw [← hw1]; exact ((Q.refl w).alloc _).alloc _
  have hs1 : w.heap.size + 1 < w1.heap.size := by rw [← hw1]; simp
  have hs0 : w.heap.size < w1.heap.size := by omega
  have q0 : w1.heap[w.heap.size]? = some (.cells #[.int .i64 1, .int .i64 m1, .int .i64 m2, .slice (some ⟨b1, o1, none⟩) n c, .slice B k d, .int .i64 m5, .int .i64 m6, .int .i64 m7, .int .i64 m8] MT (0, 0)) := by
    rw [← hw1, ((Q.refl (w.alloc _)).alloc _).below.block _ (by simp)]
    exact heap_alloc_new w _
  have q1 : w1.heap[w.heap.size + 1]? = some (.cells #[.int .i64 0, .int .i64 0, .int .i64 0, .slice none 0 0, .slice none 0 0, .int .i64 0, .int .i64 0, .int .i64 0, .int .i64 0] MT (0, 0)) := by
    have h := heap_alloc_new (w.alloc (.cells #[.int .i64 1, .int .i64 m1, .int .i64 m2, .slice (some ⟨b1, o1, none⟩) n c, .slice B k d, .int .i64 m5, .int .i64 m6, .int .i64 m7, .int .i64 m8] MT)) (.cells #[.int .i64 0, .int .i64 0, .int .i64 0, .slice none 0 0, .slice none 0 0, .int .i64 0, .int .i64 0, .int .i64 0, .int .i64 0] MT)
    rw [show (w.alloc (.cells #[.int .i64 1, .int .i64 m1, .int .i64 m2, .slice (some ⟨b1, o1, none⟩) n c, .slice B k d, .int .i64 m5, .int .i64 m6, .int .i64 m7, .int .i64 m8] MT)).heap.size = w.heap.size + 1 by simp, hw1] at h
    exact h
  have HW1 := hide hw1
  have HR0 := hide q0
  have HR1 := hide q1
  have HQ1 := hide hq1
  have HBW := hide (HBG.out w1 hq1)
  obtain ⟨k0, k1, k2, k3, k4, k5, k6, k7, k8⟩ := cells9 q0
  obtain ⟨z0, z1, z2, z3, z4, z5, z6, z7, z8⟩ := cells9 q1
  obtain ⟨y0, y1, y2, y3, y4, y5, y6, y7, y8⟩ := free9 q1
  clear hw1 hq1 q0 q1 HBG hx hx' hnl hnl2 heq x1 x2 hj100 hsz12 hfit
  go_enter Tryz.func25, Tryz.ntmps25
  go_wp2_with (go_at_call 15; refine (HWI.out _).mono ?_; rintro e w2 ⟨rfl, rfl⟩; rw [HW1.out])
  refine HBW.out.mono ?_
  rintro e w2 ⟨rfl, hq2⟩
  have q0 := (hq2.below.block _ hs0).trans HR0.out
  have q1 := (hq2.below.block _ hs1).trans HR1.out
  obtain ⟨k0, k1, k2, k3, k4, k5, k6, k7, k8⟩ := cells9 q0
  obtain ⟨z0, z1, z2, z3, z4, z5, z6, z7, z8⟩ := cells9 q1
  obtain ⟨y0, y1, y2, y3, y4, y5, y6, y7, y8⟩ := free9 q1
  have HR0 := hide q0
  have HR1 := hide q1
  have HQ := hide (HQ1.out.trans hq2)
  have hs0 : w.heap.size < w2.heap.size := by have := hq2.size; omega
  have hs1 : w.heap.size + 1 < w2.heap.size := by have := hq2.size; omega
  clear q0 q1 hq2
  go_wp2_with fail
  refine (HCN.out w2).mono ?_
  rintro e w3 ⟨rfl, hq3⟩
  have q0 := (hq3.below.block _ hs0).trans HR0.out
  have q1 := (hq3.below.block _ hs1).trans HR1.out
  obtain ⟨k0, k1, k2, k3, k4, k5, k6, k7, k8⟩ := cells9 q0
  obtain ⟨f0, f1, f2, f3, f4, f5, f6, f7, f8⟩ := free9 q0
  obtain ⟨z0, z1, z2, z3, z4, z5, z6, z7, z8⟩ := cells9 q1
  obtain ⟨y0, y1, y2, y3, y4, y5, y6, y7, y8⟩ := free9 q1
  have HR0 := hide q0
  have HR1 := hide q1
  have HQ := hide (HQ.out.trans hq3)
  have hs0 : w.heap.size < w3.heap.size := by have := hq3.size; omega
  have hs1 : w.heap.size + 1 < w3.heap.size := by have := hq3.size; omega
  clear q0 q1 hq3
  have x1 := (HQ.out.facts.1 b1 _ hb1).trans HX1.out
  have x2 := (HQ.out.facts.1 b1 _ hb1).trans HX2.out
  clear HBW HCN
  go_wp2_with fail
  obtain ⟨w4, hw4⟩ : ∃ w4, w4 = (((((((((w3.setCell ⟨w.heap.size, 0, none⟩ (.int .i64 1)).setCell ⟨w.heap.size, 1, none⟩ (.int .i64 m1)).setCell ⟨w.heap.size, 2, none⟩ (.int .i64 m2)).setCell ⟨w.heap.size, 3, none⟩ (.slice (some ⟨b1, o1, none⟩) n c)).setCell ⟨w.heap.size, 4, none⟩ (.slice B k d)).setCell ⟨w.heap.size, 5, none⟩ (.int .i64 m5)).setCell ⟨w.heap.size, 6, none⟩ (.int .i64 m6)).setCell ⟨w.heap.size, 7, none⟩ (.int .i64 (m7 + 1))).setCell ⟨w.heap.size, 8, none⟩ (.int .i64 fl)) := ⟨_, rfl⟩
  rw [← hw4]
  have q0 : w4.heap[w.heap.size]? = some (.cells #[.int .i64 1, .int .i64 m1, .int .i64 m2, .slice (some ⟨b1, o1, none⟩) n c, .slice B k d, .int .i64 m5, .int .i64 m6, .int .i64 (m7 + 1), .int .i64 fl] MT (0, 0)) := by
    rw [hw4]
    exact row9g (w := w3) (b := w.heap.size) (.int .i64 1) (.int .i64 m1) (.int .i64 m2) (.slice (some ⟨b1, o1, none⟩) n c) (.slice B k d) (.int .i64 m5) (.int .i64 m6) (.int .i64 (m7 + 1)) (.int .i64 fl) HR0.out
  have q1 : w4.heap[w.heap.size + 1]? = some (.cells #[.int .i64 0, .int .i64 0, .int .i64 0, .slice none 0 0, .slice none 0 0, .int .i64 0, .int .i64 0, .int .i64 0, .int .i64 0] MT (0, 0)) := by
    rw [hw4, keep9 w3 w.heap.size (.int .i64 1) (.int .i64 m1) (.int .i64 m2) (.slice (some ⟨b1, o1, none⟩) n c) (.slice B k d) (.int .i64 m5) (.int .i64 m6) (.int .i64 (m7 + 1)) (.int .i64 fl) (w.heap.size + 1) (by omega)]
    exact HR1.out
  have HQ := hide (show Q w w4 by
    rw [hw4]
    exact q9 (w0 := w) (w := w3) (b := w.heap.size) (.int .i64 1) (.int .i64 m1) (.int .i64 m2) (.slice (some ⟨b1, o1, none⟩) n c) (.slice B k d) (.int .i64 m5) (.int .i64 m6) (.int .i64 (m7 + 1)) (.int .i64 fl) HQ.out (Nat.le_refl _))
  have hs0 : w.heap.size < w4.heap.size := by have : w4.heap.size = w3.heap.size := (by rw [hw4]; simp [World.setCell]); omega
  have hs1 : w.heap.size + 1 < w4.heap.size := by have : w4.heap.size = w3.heap.size := (by rw [hw4]; simp [World.setCell]); omega
  have HR0 := hide q0
  have HR1 := hide q1
  obtain ⟨w5, hw5⟩ : ∃ w5, w4.alloc (.cells #[.int .i64 x', .int .i64 y'] 88) = w5 := ⟨_, rfl⟩
  rw [hw5]
  have hw4s : w4.heap.size = w3.heap.size := by rw [hw4]; simp [World.setCell]
  have hq45 : Q w4 w5 := by rw [← hw5]; exact (Q.refl w4).alloc _
  have q0 := (hq45.below.block _ hs0).trans HR0.out
  have q1 := (hq45.below.block _ hs1).trans HR1.out
  have q2 : w5.heap[w3.heap.size]? = some (.cells #[.int .i64 x', .int .i64 y'] 88 (0, 0)) := by rw [← hw5, ← hw4s]; exact heap_alloc_new w4 _
  have HQ := hide (HQ.out.trans hq45)
  have hs2 : w3.heap.size < w5.heap.size := blk_lt q2
  have hs3 : w.heap.size + 1 < w3.heap.size := by omega
  have hs1 : w.heap.size + 1 < w5.heap.size := by omega
  have hs0 : w.heap.size < w5.heap.size := by omega
  have HR0 := hide q0
  have HR1 := hide q1
  have HR2 := hide q2
  obtain ⟨g2, hg2⟩ : ∃ g2, g2 = w3.heap.size := ⟨_, rfl⟩
  rw [← hg2] at hs2 hs3 HR2 ⊢
  clear hw5 hw4 hw4s hq45 q0 q1 q2 hg2
  refine (HSY.out w5 HQ.out).mono ?_
  rintro e w6 ⟨rfl, hq6⟩
  have q2 := (hq6.below.block _ hs2).trans HR2.out
  have d0 : w6.cell? ⟨g2, 0, none⟩ = some (.int .i64 x') := by rw [cell_of_row _ _ _ _ _ _ q2]; rfl
  have d1 : w6.cell? ⟨g2, 1, none⟩ = some (.int .i64 y') := by rw [cell_of_row _ _ _ _ _ _ q2]; rfl
  have HR2 := hide q2
  have hs2 : g2 < w6.heap.size := by have := hq6.size; omega
  clear q2
  have q0 := (hq6.below.block _ hs0).trans HR0.out
  have q1 := (hq6.below.block _ hs1).trans HR1.out
  obtain ⟨k0, k1, k2, k3, k4, k5, k6, k7, k8⟩ := cells9 q0
  obtain ⟨-, -, -, -, -, f5, -, -, -⟩ := free9 q0
  obtain ⟨z0, z1, z2, z3, z4, z5, z6, z7, z8⟩ := cells9 q1
  obtain ⟨y0, y1, y2, y3, y4, y5, y6, y7, y8⟩ := free9 q1
  have HR0 := hide q0
  have HR1 := hide q1
  have HQ := hide (HQ.out.trans hq6)
  have hs0 : w.heap.size < w6.heap.size := by have := hq6.size; omega
  have hs1 : w.heap.size + 1 < w6.heap.size := by have := hq6.size; omega
  clear q0 q1 hq6
  clear HSY
  go_upto_region 13 with fail
  obtain ⟨w7, hw7⟩ : ∃ w7, w7 = w6 := ⟨_, rfl⟩
  rw [← hw7] at HR0 HR1 HR2 HQ hs0 hs1 hs2 ⊢
  have hs3' := hs3
  clear hw7
  have HLT := hide (own_lit0 w7 w7.heap.size 88 2 w7.heap.size rfl (Nat.le_refl _))
  have HSL := hide (HRC.out w7 HQ.out).b
  dsimp only at HSL
  have k3 : w7.cell? ⟨w.heap.size, 3, none⟩ = some (.slice (some ⟨b1, o1, none⟩) n c) := by rw [cell_of_row _ _ _ _ _ _ HR0.out]; rfl
  go_wp2_with (at_builtin; go_loud (refine wpList_appnew rfl El_pair _ _ rfl rfl rfl HLT.out (fun h => by cases h) ?_ (HSL.out.up ((Q.refl w7).alloc _)).rd (one_encP _) ?_ ?_ ?_; (focus (rw [flatMap_length (k := 2) (fun _ => rfl), HNL.out])); (focus omega); (focus (simp; done)); intro v8 w8 hv8 hq8; have HV8 := hide hv8; have HQ78 := hide (show Q w7 w8 from ((Q.refl w7).alloc _).trans hq8); have HQ8 := hide (HQ.out.trans HQ78.out); obtain ⟨g, cg, e5, hgb, hgl, hgn, hgm, hcell, hfz⟩ := own_at hv8 (by omega); subst e5; have q0 := (HQ78.out.below.block _ hs0).trans HR0.out; have k3 : w8.cell? ⟨w.heap.size, 3, none⟩ = some (.slice (some ⟨b1, o1, none⟩) n c) := (by rw [cell_of_row _ _ _ _ _ _ q0]; rfl); have f3 : w8.frozen? ⟨w.heap.size, 3, none⟩ = false := frozen_of_row _ _ _ _ _ q0; have q2 := (HQ78.out.below.block _ hs2).trans HR2.out; have d0 : w8.cell? ⟨g2, 0, none⟩ = some (.int .i64 x') := (by rw [cell_of_row _ _ _ _ _ _ q2]; rfl); have hcA := hcell (j * 2) _ (flatP0 HX.out); have hcB := hcell (j * 2 + 1) _ (flatP1 HX.out); have hfA := hfz (j * 2); have hfB := hfz (j * 2 + 1); have hg01 : g ≠ w.heap.size := (by omega); have hg02 : g ≠ g2 := (by omega); have hg03 : g ≠ w.heap.size + 1 := (by omega); clear hv8 hq8 hcell hfz q0 q2))
  clear HSL
  obtain ⟨w9, hw9⟩ : ∃ w9, (((w8.setCell ⟨w.heap.size, 3, none⟩ (.slice (some ⟨g, 0, none⟩) n cg)).setCell ⟨g, j * 2, none⟩ (.int .i64 x')).setCell ⟨g, j * 2 + 1, none⟩ (.int .i64 z)) = w9 := ⟨_, rfl⟩
  rw [hw9]
  have hw9s : w9.heap.size = w8.heap.size := by rw [← hw9]; simp [World.setCell]
  have hO9 : w9.ownsRow w7.heap.size 88 2 (.slice (some ⟨g, 0, none⟩) n cg) n ((bl.set j (x', z)).flatMap encP) := by
    rw [← hw9, ← flat_setP bl j x' z y' HX.out]
    exact own_set (own_set (own1 HV8.out hs0) _ _) _ _
  have q0 : w9.heap[w.heap.size]? = some (.cells #[.int .i64 1, .int .i64 m1, .int .i64 m2, .slice (some ⟨g, 0, none⟩) n cg, .slice B k d, .int .i64 m5, .int .i64 m6, .int .i64 (m7 + 1), .int .i64 fl] MT (0, 0)) := by
    rw [← hw9]
    exact (heap_setCell_other _ _ _ _ (by show w.heap.size ≠ g; omega)).trans ((heap_setCell_other _ _ _ _ (by show w.heap.size ≠ g; omega)).trans (heap_setCell_same w8 w.heap.size 3 _ _ _ ((HQ78.out.below.block _ hs0).trans HR0.out)))
  have q1 : w9.heap[w.heap.size + 1]? = some (.cells #[.int .i64 0, .int .i64 0, .int .i64 0, .slice none 0 0, .slice none 0 0, .int .i64 0, .int .i64 0, .int .i64 0, .int .i64 0] MT (0, 0)) := by
    rw [← hw9]
    exact (heap_setCell_other _ _ _ _ (by show w.heap.size + 1 ≠ g; omega)).trans ((heap_setCell_other _ _ _ _ (by show w.heap.size + 1 ≠ g; omega)).trans (((heap_setCell_other _ _ _ _ (by simp)).trans ((HQ78.out.below.block _ hs1).trans HR1.out))))
  have q2 : w9.heap[g2]? = some (.cells #[.int .i64 x', .int .i64 y'] 88 (0, 0)) := by
    rw [← hw9]
    exact (heap_setCell_other _ _ _ _ (by show g2 ≠ g; omega)).trans ((heap_setCell_other _ _ _ _ (by show g2 ≠ g; omega)).trans (((heap_setCell_other _ _ _ _ (by show g2 ≠ w.heap.size; omega)).trans ((HQ78.out.below.block _ hs2).trans HR2.out))))
  have hQ9 : Q w w9 := by
    rw [← hw9]
    exact ((HQ8.out.set (p := ⟨w.heap.size, 3, none⟩) (Nat.le_refl _) _).set (p := ⟨g, j * 2, none⟩) (by show w.heap.size ≤ g; omega) _).set (p := ⟨g, j * 2 + 1, none⟩) (by show w.heap.size ≤ g; omega) _
  have hs78 := HQ78.out.size
  have HRV : RmR w9 ⟨some ⟨g, 0, none⟩, n, cg, B, k, d, ⟨1, m1, m2, bl.set j (x', z), ys,  m5, m6, m7 + 1, fl⟩⟩ := ⟨Sl.own hO9 (fun _ => rfl) (by decide), HRM.out.y.up hQ9, fun h => (by cases h), HRM.out.yn, TyA.own hO9, HRM.out.tb.up hQ9⟩
  have HFR5 : Fr w7.heap.size ⟨some ⟨b1, o1, none⟩, n, c, B, k, d, ⟨1, m1, m2, bl, ys, m5, m6, m7 + 1, fl⟩⟩ ⟨some ⟨g, 0, none⟩, n, cg, B, k, d, ⟨1, m1, m2, bl.set j (x', z), ys,  m5, m6, m7 + 1, fl⟩⟩ := ⟨fr_own hO9, .inl ⟨rfl, rfl⟩⟩
  have HRC0 := hide (HRC.out w (Q.refl w))
  have HRV9 := hide HRV
  have HFR9 := hide HFR5
  have HR0 := hide q0
  have HR1 := hide q1
  have HR2 := hide q2
  have HQ := hide hQ9
  have hs79 : w7.heap.size ≤ w9.heap.size := by omega
  have hb1w : w.heap.size + 1 < w7.heap.size := hs1
  have hg27 : g2 < w7.heap.size := hs2
  have hs0 : w.heap.size < w9.heap.size := by omega
  have hs1 : w.heap.size + 1 < w9.heap.size := by omega
  have hs2 : g2 < w9.heap.size := by omega
  clear hw9 hw9s hO9 q0 q1 q2 hQ9 HRV HFR5 HV8 HQ78 HQ8 hcA hcB hfA hfB hgb hgl hgn hgm k3 f3 HLT
  obtain ⟨X, hX⟩ : ∃ X, X = rmX (w.heap.size + 1) (peakR M5) ⟨some ⟨b1, o1, none⟩, n, c, B, k, d, ⟨1, m1, m2, bl, ys, m5, m6, m7 + 1, fl⟩⟩ w7.heap.size := ⟨_, rfl⟩
  have hXq : ∀ w w', X w → Q w w' → X w' := by rw [hX]; exact rmX_q _ _ _ _
  have HXD := hide hX
  clear hX
  refine Ri.madeT (T := Ri.TX (w.heap.size + 1) X) (fun _ => Ri.TX.refl _ _ _) (fun _ _ _ h k => Ri.TX.trans hXq h k) (Ri.phi [Ri.isV (.agg #[.int .i64 1, .int .i64 m1, .int .i64 m2, .slice (some ⟨g, 0, none⟩) n cg, .slice B k d, .int .i64 m5, .int .i64 m6, .int .i64 (m7 + 1), .int .i64 fl]), Ri.isV (.pointer (some ⟨g2, 0, none⟩)), Ri.isV (.int .i64 x'), Ri.isV (.int .i64 z), Ri.isV (.pointer (some ⟨g2, 1, none⟩)), Ri.isV (.int .i64 y'), Ri.isV ((.int .i64 (min z y'))), Ri.isV ((.int .i64 (x' + min z y'))), Ri.isV (.pointer (some ⟨g2, 0, none⟩)), Ri.isV (.int .i64 x'), Ri.isV (.int .i64 z), Ri.isV ((.int .i64 (x' + z))), rmV M5 ⟨some ⟨b1, o1, none⟩, n, c, B, k, d, ⟨1, m1, m2, bl, ys, m5, m6, m7 + 1, fl⟩⟩ w7.heap.size, rmV (peakR M5) ⟨some ⟨b1, o1, none⟩, n, c, B, k, d, ⟨1, m1, m2, bl, ys, m5, m6, m7 + 1, fl⟩⟩ w7.heap.size, Ri.isV (.pointer (some ⟨g2, 0, none⟩)), Ri.isV (.int .i64 x'), (fun _ W => X W), Ri.isV (.int .i64 x'), Ri.isV (.int .i64 0)]) (by kernel_rfl) (by kernel_rfl) (fun i => Ri.phi_monoT ?_ i) ?_ ?_
  · exact ⟨Ri.mono_isT _, Ri.mono_isT _, Ri.mono_isT _, Ri.mono_isT _, Ri.mono_isT _, Ri.mono_isT _, Ri.mono_isT _, Ri.mono_isT _, Ri.mono_isT _, Ri.mono_isT _, Ri.mono_isT _, Ri.mono_isT _, (fun v w1 w2 h _ ht => rmV_t (M2 := peakR M5) HRC0.out (by omega) hb1w h (by rw [← HXD.out]; exact ht)), (fun v w1 w2 h _ ht => rmV_t (M2 := peakR M5) HRC0.out (by omega) hb1w h (by rw [← HXD.out]; exact ht)), Ri.mono_isT _, Ri.mono_isT _, (fun v w1 w2 h h0 ht => Ri.TX.keepX hXq h ht (Nat.lt_of_lt_of_le hs1 h0.size)), Ri.mono_isT _, Ri.mono_isT _, trivial⟩
  · refine Ri.All.cons ?_ (Ri.All.cons ?_ (Ri.All.cons ?_ (Ri.All.cons ?_ (Ri.All.cons ?_ (Ri.All.cons ?_ (Ri.All.cons ?_ (Ri.All.cons ?_ (Ri.All.cons ?_ (Ri.All.cons ?_ (Ri.All.cons ?_ (Ri.All.cons ?_ (Ri.All.cons ?_ (Ri.All.cons ?_ (Ri.All.cons ?_ (Ri.All.cons ?_ (Ri.All.cons ?_ (Ri.All.cons ?_ (Ri.All.cons ?_ (Ri.All.nil)))))))))))))))))))
    · refine Ri.StepT.q (fun _ _ _ h => Ri.TX.of_q h) ⟨rfl, fun f W hq hf A hA hB hO => ?_⟩
      have e1 := (hB 3 (by kernel_rfl)).trans (show _ = .pointer (some ⟨w.heap.size, 0, none⟩) by simp [Act.eval])
      exact Ri.wp_value _ (Ri.run_ldrow rfl e1 ((hq.block _ hs0 (by omega)).trans HR0.out) Tryz.underlying32 rfl (by kernel_rfl)) rfl
    · refine Ri.StepT.q (fun _ _ _ h => Ri.TX.of_q h) ⟨rfl, fun f W hq hf A hA hB hO => ?_⟩
      have e1 := (hB 11 (by kernel_rfl)).trans (show _ = .pointer (some ⟨g2, 0, none⟩) by simp [Act.eval])
      exact Ri.wp_value _ (Ri.run_idxA (k := 0) (sz := 1) rfl e1 (show A.eval (.const (.int .i64 0)) = _ from rfl) Tryz.underlying88 (by kernel_rfl) (by decide)) rfl
    · refine Ri.StepT.q (fun _ _ _ h => Ri.TX.of_q h) ⟨rfl, fun f W hq hf A hA hB hO => ?_⟩
      have e1 := (hA 79 1 (by kernel_rfl) (by simp)).trans (show f 1 = _ from hf 1 (by kernel_rfl))
      exact Ri.wp_value _ (Ri.run_ld1 rfl e1 Tryz.underlying3 rfl ((cell_of_row W g2 0 _ _ _ ((hq.block g2 hs2 (by omega)).trans HR2.out)).trans rfl)) rfl
    · refine Ri.StepT.q (fun _ _ _ h => Ri.TX.of_q h) ⟨rfl, fun f W hq hf A hA hB hO => ?_⟩
      have e1 := (hB 2 (by kernel_rfl)).trans (show _ = .int .i64 z by simp [Act.eval])
      exact Ri.wp_value _ (Ri.run_mv rfl e1) rfl
    · refine Ri.StepT.q (fun _ _ _ h => Ri.TX.of_q h) ⟨rfl, fun f W hq hf A hA hB hO => ?_⟩
      have e1 := (hB 11 (by kernel_rfl)).trans (show _ = .pointer (some ⟨g2, 0, none⟩) by simp [Act.eval])
      exact Ri.wp_value _ (Ri.run_idxA (k := 1) (sz := 1) rfl e1 (show A.eval (.const (.int .i64 1)) = _ from rfl) Tryz.underlying88 (by kernel_rfl) (by decide)) rfl
    · refine Ri.StepT.q (fun _ _ _ h => Ri.TX.of_q h) ⟨rfl, fun f W hq hf A hA hB hO => ?_⟩
      have e1 := (hA 82 4 (by kernel_rfl) (by simp)).trans (show f 4 = _ from hf 4 (by kernel_rfl))
      exact Ri.wp_value _ (Ri.run_ld1 rfl e1 Tryz.underlying3 rfl ((cell_of_row W g2 1 _ _ _ ((hq.block g2 hs2 (by omega)).trans HR2.out)).trans rfl)) rfl
    · refine Ri.StepT.q (fun _ _ _ h => Ri.TX.of_q h) ⟨rfl, fun f W hq hf A hA hB hO => ?_⟩
      have e1 := (hA 81 3 (by kernel_rfl) (by simp)).trans (show f 3 = _ from hf 3 (by kernel_rfl))
      have e2 := (hA 83 5 (by kernel_rfl) (by simp)).trans (show f 5 = _ from hf 5 (by kernel_rfl))
      exact Ri.wp_value _ (Ri.run_mini rfl e1 e2) rfl
    · refine Ri.StepT.q (fun _ _ _ h => Ri.TX.of_q h) ⟨rfl, fun f W hq hf A hA hB hO => ?_⟩
      have e1 := (hA 80 2 (by kernel_rfl) (by simp)).trans (show f 2 = _ from hf 2 (by kernel_rfl))
      have e2 := (hA 84 6 (by kernel_rfl) (by simp)).trans (show f 6 = _ from hf 6 (by kernel_rfl))
      exact Ri.wp_value _ (Ri.run_add rfl e1 e2 Tryz.underlying3 (by omega) (by omega)) rfl
    · refine Ri.StepT.q (fun _ _ _ h => Ri.TX.of_q h) ⟨rfl, fun f W hq hf A hA hB hO => ?_⟩
      have e1 := (hB 11 (by kernel_rfl)).trans (show _ = .pointer (some ⟨g2, 0, none⟩) by simp [Act.eval])
      exact Ri.wp_value _ (Ri.run_idxA (k := 0) (sz := 1) rfl e1 (show A.eval (.const (.int .i64 0)) = _ from rfl) Tryz.underlying88 (by kernel_rfl) (by decide)) rfl
    · refine Ri.StepT.q (fun _ _ _ h => Ri.TX.of_q h) ⟨rfl, fun f W hq hf A hA hB hO => ?_⟩
      have e1 := (hA 86 8 (by kernel_rfl) (by simp)).trans (show f 8 = _ from hf 8 (by kernel_rfl))
      exact Ri.wp_value _ (Ri.run_ld1 rfl e1 Tryz.underlying3 rfl ((cell_of_row W g2 0 _ _ _ ((hq.block g2 hs2 (by omega)).trans HR2.out)).trans rfl)) rfl
    · refine Ri.StepT.q (fun _ _ _ h => Ri.TX.of_q h) ⟨rfl, fun f W hq hf A hA hB hO => ?_⟩
      have e1 := (hB 2 (by kernel_rfl)).trans (show _ = .int .i64 z by simp [Act.eval])
      exact Ri.wp_value _ (Ri.run_mv rfl e1) rfl
    · refine Ri.StepT.q (fun _ _ _ h => Ri.TX.of_q h) ⟨rfl, fun f W hq hf A hA hB hO => ?_⟩
      have e1 := (hA 87 9 (by kernel_rfl) (by simp)).trans (show f 9 = _ from hf 9 (by kernel_rfl))
      have e2 := (hA 88 10 (by kernel_rfl) (by simp)).trans (show f 10 = _ from hf 10 (by kernel_rfl))
      exact Ri.wp_value _ (Ri.run_add rfl e1 e2 Tryz.underlying3 (by omega) (by omega)) rfl
    · refine Ri.StepT.q (fun _ _ _ h => Ri.TX.of_q h) ⟨rfl, fun f W hq hf A hA hB hO => ?_⟩
      have hRW : RmR W ⟨some ⟨g, 0, none⟩, n, cg, B, k, d, ⟨1, m1, m2, bl.set j (x', z), ys,  m5, m6, m7 + 1, fl⟩⟩ := RmR.keep HRC0.out HRV9.out HFR9.out (b := w.heap.size + 1) (by omega) hb1w (fun g hg hne => hq.block g hg hne) hq.size
      have e1 := (hA 78 0 (by kernel_rfl) (by simp)).trans (show f 0 = _ from hf 0 (by kernel_rfl))
      have e2 := (hA 85 7 (by kernel_rfl) (by simp)).trans (show f 7 = _ from hf 7 (by kernel_rfl))
      have e3 := (hA 89 11 (by kernel_rfl) (by simp)).trans (show f 11 = _ from hf 11 (by kernel_rfl))
      refine Ri.wp_call #[(⟨some ⟨g, 0, none⟩, n, cg, B, k, d, ⟨1, m1, m2, bl.set j (x', z), ys,  m5, m6, m7 + 1, fl⟩⟩ : RV).val, .int .i64 (fN : Int), .int .i64 (tN : Int), .int .i64 (-1)] rfl ?_ Tryz.func56 (by kernel_rfl) (by kernel_rfl) ((HST.out W _ rfl hRW).mono ?_)
      · simp only [List.map_toArray, List.map_cons, List.map_nil, e1, e2, e3, HF5.out, HT5.out]
        rfl
      · rintro e w3 ⟨v6, rfl, hm, hR, hF, hq3⟩
        exact ⟨_, rfl, hq3, v6, rfl, hm, hR, Fr.trans HFR9.out hF (Nat.le_trans hs79 hq.size)⟩
    · refine Ri.StepT.q (fun _ _ _ h => Ri.TX.of_q h) ⟨rfl, fun f W hq hf A hA hB hO => ?_⟩
      obtain ⟨v6, hv, hm, hR, hF⟩ : rmV M5 ⟨some ⟨b1, o1, none⟩, n, c, B, k, d, ⟨1, m1, m2, bl, ys, m5, m6, m7 + 1, fl⟩⟩ w7.heap.size (f 12) W := hf 12 (by kernel_rfl)
      have e1 := (hA 90 12 (by kernel_rfl) (by simp)).trans hv
      refine Ri.wp_call #[v6.val] rfl (by simp [e1]) Tryz.func55 (by kernel_rfl) (by kernel_rfl) ((HPK.out W v6 hm hR).mono ?_)
      rintro e w3 ⟨rfl, hq3⟩
      exact ⟨_, rfl, hq3, v6.withM (peakR v6.m), rfl, by rw [← hm]; rfl, (hR.up hq3).withM rfl rfl, hF.withM rfl rfl⟩
    · refine Ri.StepT.q (fun _ _ _ h => Ri.TX.of_q h) ⟨rfl, fun f W hq hf A hA hB hO => ?_⟩
      have e1 := (hB 11 (by kernel_rfl)).trans (show _ = .pointer (some ⟨g2, 0, none⟩) by simp [Act.eval])
      exact Ri.wp_value _ (Ri.run_idxA (k := 0) (sz := 1) rfl e1 (show A.eval (.const (.int .i64 0)) = _ from rfl) Tryz.underlying88 (by kernel_rfl) (by decide)) rfl
    · refine Ri.StepT.q (fun _ _ _ h => Ri.TX.of_q h) ⟨rfl, fun f W hq hf A hA hB hO => ?_⟩
      have e1 := (hA 92 14 (by kernel_rfl) (by simp)).trans (show f 14 = _ from hf 14 (by kernel_rfl))
      exact Ri.wp_value _ (Ri.run_ld1 rfl e1 Tryz.underlying3 rfl ((cell_of_row W g2 0 _ _ _ ((hq.block g2 hs2 (by omega)).trans HR2.out)).trans rfl)) rfl
    · refine ⟨rfl, fun f W hq hf A hA hB hO => ?_⟩
      obtain ⟨v6, hv, hm, hR, hF⟩ : rmV (peakR M5) ⟨some ⟨b1, o1, none⟩, n, c, B, k, d, ⟨1, m1, m2, bl, ys, m5, m6, m7 + 1, fl⟩⟩ w7.heap.size (f 13) W := hf 13 (by kernel_rfl)
      have e1 := (hB 6 (by kernel_rfl)).trans (show _ = .pointer (some ⟨w.heap.size + 1, 0, none⟩) by simp [Act.eval])
      have e2 := (hA 91 13 (by kernel_rfl) (by simp)).trans hv
      obtain ⟨old, hold, hos⟩ : ∃ old, W.heap[w.heap.size + 1]? = some (.cells old MT (0, 0)) ∧ old.size = 9 := by
        rcases hq.at_ hs1 with e | e
        · exact ⟨_, e.trans HR1.out, rfl⟩
        · rw [HXD.out] at e
          obtain ⟨v', e, -⟩ := e
          exact ⟨_, e, rfl⟩
      have hX2 : X (W.setRow (w.heap.size + 1) v6.cells) := by
        rw [HXD.out]
        exact ⟨v6, setRow_heap _ _ _ _ _ _ hold, hm, RmR.keep HRC0.out hR hF (by omega) hb1w (fun g _ hne => setRow_other _ _ _ _ hne) (by simp), hF⟩
      exact Ri.wp_row rfl e1 e2 rfl hold (by kernel_rfl) hos (by simp [RV.cells, Value.oneCell']) (Ri.TX.setRow hX2) hX2
    · refine Ri.StepT.q (fun _ _ _ h => Ri.TX.of_q h) ⟨rfl, fun f W hq hf A hA hB hO => ?_⟩
      have e1 := (hA 93 15 (by kernel_rfl) (by simp)).trans (show f 15 = _ from hf 15 (by kernel_rfl))
      exact Ri.wp_value _ (Ri.run_asg rfl e1) rfl
    · refine Ri.StepT.q (fun _ _ _ h => Ri.TX.of_q h) ⟨rfl, fun f W hq hf A hA hB hO => ?_⟩
      have e1 : A.eval (.const (.int .i64 0)) = .int .i64 0 := rfl
      exact Ri.wp_value _ (Ri.run_asg rfl e1) rfl
  · intro f W hq hf
    have hX2 : X W := hf 16 (by simp)
    have e17 : f 17 = .int .i64 x' := hf 17 (by simp)
    have e18 : f 18 = .int .i64 0 := hf 18 (by simp)
    rw [HXD.out] at hX2
    obtain ⟨v', hg, hm, hR, hF⟩ := hX2
    have hqw : Q w W := Ri.TX.q_of (w0 := w) (w := w9) HQ.out ⟨hq.os, hq.tape, hq.output, hq.size, hq.block, hq.at_⟩ (by omega)
    simp only [Ri.acts, Act.put, List.setIfInBounds_toArray, List.set_cons_zero, List.set_cons_succ, Nat.zero_add, Nat.reduceAdd]
    rw [e17, e18]
    clear hf hq
    go_wp2_with fail
    refine bodyPost_ret (v := .tuple #[.agg v'.cells, .int .i64 x', .int .i64 0]) (ret_m3 (p := 6) (u := 7) (x := 8) rfl rfl (by simp) (by simp) (by simp) hg) rfl ?_
    exact ⟨v', rfl, hm, hR, Fr.trans (v1 := ⟨some ⟨b1, o1, none⟩, n, c, B, k, d, ⟨1, m1, m2, bl, ys, m5, m6, m7 + 1, fl⟩⟩) ⟨.inl ⟨rfl, rfl⟩, .inl ⟨rfl, rfl⟩⟩ hF (by omega), hqw⟩

set_option maxRecDepth 100000 in
set_option maxHeartbeats 8000000 in
theorem rResize_stay_d (v : RV) (at_ z : Int) (j : Nat) (x y : Int) (w : World) (H : RmR w v) (N : RmN v.m) (hz : (decide (1 ≤ z) && decide (z ≤ 4096)) = true) (hx : v.m.bl[j]? = some (x, y)) (hi : idxI (fun p => p.1 == at_) v.m.bl = (j : Int)) (hf : (countR v.m).2 = false) (hcl : v.m.calls < 1000000) (hst : staysR (countR v.m).1 j x y z = true) (hfit : x + z ≤ v.m.size) (hkd : v.m.kind = 2) (heq : ¬ x + y = v.m.top) :
    Calls Tryz.prog 25 #[v.val, .int .i64 at_, .int .i64 z] w (MPost2 (peakR (setR (growR (countR v.m).1 j x y z) (x + min z y).toNat (x + z).toNat (-1)), x, 0) w v) := by
  have HWI : Hid (∀ W, Calls Tryz.prog 15 #[.int .i64 z, .int .i64 1, .int .i64 4096] W fun e w' => e = .returned (.bool true) ∧ W = w') := fun W => by
    have := within_any z 1 4096 W
    rw [hz] at this
    exact this
  have HBG := hide fun (W : World) (h : Q w W) => begins_any v at_ W (H.up h) N
  rw [hi] at HBG
  have HCN := hide fun (W : World) => rCounted_any v W N
  obtain ⟨fl, hfl⟩ : ∃ fl, fl = (countR v.m).1.fail := ⟨_, rfl⟩
  have hcm : (countR v.m).1 = { v.m with calls := v.m.calls + 1, fail := fl } := by rw [hfl]; rfl
  rw [hf, hcm] at HCN
  have HRM := hide H
  have HRN := hide N
  have h7 := N.cl
  have hnl := H.b.len
  have hnl2 := N.n
  have hsl := H.b.pr j (by have := (List.getElem?_eq_some_iff.1 hx).1; omega)
  have N1 := N.count hcl
  have HSY : Hid (∀ W, Q w W → Calls Tryz.prog 60 #[(v.withM { v.m with calls := v.m.calls + 1, fail := fl }).val, .int .i64 (j : Int), .int .i64 z] W fun e w' => e = .returned (.bool true) ∧ Q W w') := fun W h => by
    simp only [Bool.and_eq_true, decide_eq_true_eq] at hz
    have h1 := rStays_any (v.withM (countR v.m).1) j x y z W ((H.up h).withM rfl rfl) N1 hx hz.2 (by omega)
    rw [hcm] at h1
    rw [hcm] at hst
    rw [show staysR (v.withM { v.m with calls := v.m.calls + 1, fail := fl }).m j x y z = true from hst] at h1
    exact h1
  have hx0 : 0 ≤ x ∧ 0 ≤ y ∧ x + y ≤ v.m.size := N.all _ (List.mem_of_getElem? hx)
  have hz12 : 1 ≤ z ∧ z ≤ 4096 := by simpa using hz
  have hsz12 := N.sz
  have hj100 : j < v.m.bl.length := (List.getElem?_eq_some_iff.1 hx).1
  rw [hcm] at N1
  rw [hcm]
  have N5 : RmN (growR { v.m with calls := v.m.calls + 1, fail := fl } j x y z) := by
    refine ⟨N1.sz, N1.pc, by show (v.m.bl.set j _).length ≤ 100; rw [List.length_set]; exact N.n, N1.k, fun p hp => ?_, ?_, N1.pk, N1.cl, N1.fl⟩
    · rcases List.mem_or_eq_of_mem_set hp with hp | rfl
      · exact N.all p hp
      · exact ⟨hx0.1, by omega, hfit⟩
    · have := N.tp
      show 0 ≤ (if (v.m.kind = 1 ∨ v.m.kind = 2) ∧ x + y = v.m.top then x + z else v.m.top) ∧ (if (v.m.kind = 1 ∨ v.m.kind = 2) ∧ x + y = v.m.top then x + z else v.m.top) ≤ 4096
      split <;> omega
  obtain ⟨fN, hf5⟩ : ∃ fN : Nat, x + min z y = (fN : Int) := ⟨(x + min z y).toNat, by omega⟩
  obtain ⟨tN, ht5⟩ : ∃ tN : Nat, x + z = (tN : Int) := ⟨(x + z).toNat, by omega⟩
  have HST : Hid (∀ W v5, v5.m = growR { v.m with calls := v.m.calls + 1, fail := fl } j x y z → RmR W v5 → Calls Tryz.prog 56 #[v5.val, .int .i64 (fN : Int), .int .i64 (tN : Int), .int .i64 (-1)] W (isRm (setR (growR { v.m with calls := v.m.calls + 1, fail := fl } j x y z) (x + min z y).toNat (x + z).toNat (-1)) W v5)) := fun W v5 e h2 => by
    rw [hf5, ht5, Int.toNat_natCast, Int.toNat_natCast, ← e]
    have e2 : v5.m.size = v.m.size := by rw [e]; rfl
    exact rSet_fr v5 fN tN (-1) W h2 (by rw [e]; exact N5) (by omega) (by omega) (by omega)
  obtain ⟨M5, hM5⟩ : ∃ M5, M5 = setR (growR { v.m with calls := v.m.calls + 1, fail := fl } j x y z) (x + min z y).toNat (x + z).toNat (-1) := ⟨_, rfl⟩
  have N6 : RmN M5 := by rw [hM5]; exact N5.set _ _ _
  rw [← hM5] at HST ⊢
  have HPK : Hid (∀ W v6, v6.m = M5 → RmR W v6 → Calls Tryz.prog 55 #[v6.val] W fun e w' => e = .returned (v6.withM (peakR v6.m)).val ∧ Q W w') := fun W v6 e h2 => rPeaked_any v6 W h2 (by rw [e]; exact N6)
  have HG5 : Hid (growR { v.m with calls := v.m.calls + 1, fail := fl } j x y z = ⟨v.m.kind, v.m.size, v.m.piece, v.m.bl.set j (x, z), v.m.ys, v.m.top, v.m.peak, v.m.calls + 1, fl⟩) := by
    refine hide ?_
    unfold growR
    dsimp only
    rw [if_neg (fun h => heq h.2)]
  rw [HG5.out] at HST
  have HRC : Hid (∀ W, Q w W → RmR W (v.withM { v.m with calls := v.m.calls + 1, fail := fl })) := fun W h => (H.up h).withM rfl rfl
  have HF5 := hide hf5
  have HT5 := hide ht5
  have hf5k : fN ≤ 100000 := by omega
  have ht5k : tN ≤ 100000 := by omega
  clear hf5 ht5
  clear hz H N N1 N5 N6 hi hf hfl hcm hst HG5 hM5
  unfold RV.withM at HRC
  unfold RV.withM RV.val RV.cells at HCN HSY
  unfold RV.val RV.cells at HBG ⊢
  obtain ⟨A0, n, c, B, k, d, ⟨m0, m1, m2, bl, ys, m5, m6, m7, m8⟩⟩ := v
  dsimp only at HRC HSY HST HPK hx hx0 hkd heq hsz12 hj100 hfit HBG HCN h7 hnl hnl2 hsl ⊢
  obtain ⟨h70, h71⟩ := h7
  obtain ⟨b1, o1, x', y', rfl, hb1, hx', x1, x2⟩ := hsl
  obtain ⟨hx01, hx02, hx03⟩ := hx0
  obtain ⟨hz1, hz2⟩ := hz12
  have hji : (j : Int) ≤ 100 := by omega
  have hjn : j < n := by omega
  have hjni : (j : Int) < (n : Int) := by omega
  have hni : (n : Int) ≤ 100 := by omega
  have hx4 : x ≤ 4096 := by omega
  have hy4 : y ≤ 4096 := by omega
  have hneg : decide ((j : Int) < 0) = false := by simp
  have hd0 : decide (j < n) = true := by simpa using hjn
  obtain ⟨rfl, rfl⟩ : x' = x ∧ y' = y := by
    rw [hx] at hx'
    cases hx'
    exact ⟨rfl, rfl⟩
  have HX1 := hide x1
  have HX2 := hide x2
  have HX := hide hx
  obtain rfl : m0 = 2 := hkd
  have deq : decide (x' + y' = m5) = false := by simpa using heq
  have beq5 : (x' + y' == m5) = false := by simpa using heq
  have HEQ := hide heq
  have HNL := hide hnl
  obtain ⟨w1, hw1⟩ : ∃ w1, (w.alloc (.cells #[.int .i64 2, .int .i64 m1, .int .i64 m2, .slice (some ⟨b1, o1, none⟩) n c, .slice B k d, .int .i64 m5, .int .i64 m6, .int .i64 m7, .int .i64 m8] MT)).alloc (.cells #[.int .i64 0, .int .i64 0, .int .i64 0, .slice none 0 0, .slice none 0 0, .int .i64 0, .int .i64 0, .int .i64 0, .int .i64 0] MT) = w1 := ⟨_, rfl⟩
  have hq1 : Q w w1 := by rw [← hw1]; exact ((Q.refl w).alloc _).alloc _
  have hs1 : w.heap.size + 1 < w1.heap.size := by rw [← hw1]; simp
  have hs0 : w.heap.size < w1.heap.size := by omega
  have q0 : w1.heap[w.heap.size]? = some (.cells #[.int .i64 2, .int .i64 m1, .int .i64 m2, .slice (some ⟨b1, o1, none⟩) n c, .slice B k d, .int .i64 m5, .int .i64 m6, .int .i64 m7, .int .i64 m8] MT (0, 0)) := by
    rw [← hw1, ((Q.refl (w.alloc _)).alloc _).below.block _ (by simp)]
    exact heap_alloc_new w _
  have q1 : w1.heap[w.heap.size + 1]? = some (.cells #[.int .i64 0, .int .i64 0, .int .i64 0, .slice none 0 0, .slice none 0 0, .int .i64 0, .int .i64 0, .int .i64 0, .int .i64 0] MT (0, 0)) := by
    have h := heap_alloc_new (w.alloc (.cells #[.int .i64 2, .int .i64 m1, .int .i64 m2, .slice (some ⟨b1, o1, none⟩) n c, .slice B k d, .int .i64 m5, .int .i64 m6, .int .i64 m7, .int .i64 m8] MT)) (.cells #[.int .i64 0, .int .i64 0, .int .i64 0, .slice none 0 0, .slice none 0 0, .int .i64 0, .int .i64 0, .int .i64 0, .int .i64 0] MT)
    rw [show (w.alloc (.cells #[.int .i64 2, .int .i64 m1, .int .i64 m2, .slice (some ⟨b1, o1, none⟩) n c, .slice B k d, .int .i64 m5, .int .i64 m6, .int .i64 m7, .int .i64 m8] MT)).heap.size = w.heap.size + 1 by simp, hw1] at h
    exact h
  have HW1 := hide hw1
  have HR0 := hide q0
  have HR1 := hide q1
  have HQ1 := hide hq1
  have HBW := hide (HBG.out w1 hq1)
  obtain ⟨k0, k1, k2, k3, k4, k5, k6, k7, k8⟩ := cells9 q0
  obtain ⟨z0, z1, z2, z3, z4, z5, z6, z7, z8⟩ := cells9 q1
  obtain ⟨y0, y1, y2, y3, y4, y5, y6, y7, y8⟩ := free9 q1
  clear hw1 hq1 q0 q1 HBG hx hx' hnl hnl2 heq x1 x2 hj100 hsz12 hfit
  go_enter Tryz.func25, Tryz.ntmps25
  go_wp2_with (go_at_call 15; refine (HWI.out _).mono ?_; rintro e w2 ⟨rfl, rfl⟩; rw [HW1.out])
  refine HBW.out.mono ?_
  rintro e w2 ⟨rfl, hq2⟩
  have q0 := (hq2.below.block _ hs0).trans HR0.out
  have q1 := (hq2.below.block _ hs1).trans HR1.out
  obtain ⟨k0, k1, k2, k3, k4, k5, k6, k7, k8⟩ := cells9 q0
  obtain ⟨z0, z1, z2, z3, z4, z5, z6, z7, z8⟩ := cells9 q1
  obtain ⟨y0, y1, y2, y3, y4, y5, y6, y7, y8⟩ := free9 q1
  have HR0 := hide q0
  have HR1 := hide q1
  have HQ := hide (HQ1.out.trans hq2)
  have hs0 : w.heap.size < w2.heap.size := by have := hq2.size; omega
  have hs1 : w.heap.size + 1 < w2.heap.size := by have := hq2.size; omega
  clear q0 q1 hq2
  go_wp2_with fail
  refine (HCN.out w2).mono ?_
  rintro e w3 ⟨rfl, hq3⟩
  have q0 := (hq3.below.block _ hs0).trans HR0.out
  have q1 := (hq3.below.block _ hs1).trans HR1.out
  obtain ⟨k0, k1, k2, k3, k4, k5, k6, k7, k8⟩ := cells9 q0
  obtain ⟨f0, f1, f2, f3, f4, f5, f6, f7, f8⟩ := free9 q0
  obtain ⟨z0, z1, z2, z3, z4, z5, z6, z7, z8⟩ := cells9 q1
  obtain ⟨y0, y1, y2, y3, y4, y5, y6, y7, y8⟩ := free9 q1
  have HR0 := hide q0
  have HR1 := hide q1
  have HQ := hide (HQ.out.trans hq3)
  have hs0 : w.heap.size < w3.heap.size := by have := hq3.size; omega
  have hs1 : w.heap.size + 1 < w3.heap.size := by have := hq3.size; omega
  clear q0 q1 hq3
  have x1 := (HQ.out.facts.1 b1 _ hb1).trans HX1.out
  have x2 := (HQ.out.facts.1 b1 _ hb1).trans HX2.out
  clear HBW HCN
  go_wp2_with fail
  obtain ⟨w4, hw4⟩ : ∃ w4, w4 = (((((((((w3.setCell ⟨w.heap.size, 0, none⟩ (.int .i64 2)).setCell ⟨w.heap.size, 1, none⟩ (.int .i64 m1)).setCell ⟨w.heap.size, 2, none⟩ (.int .i64 m2)).setCell ⟨w.heap.size, 3, none⟩ (.slice (some ⟨b1, o1, none⟩) n c)).setCell ⟨w.heap.size, 4, none⟩ (.slice B k d)).setCell ⟨w.heap.size, 5, none⟩ (.int .i64 m5)).setCell ⟨w.heap.size, 6, none⟩ (.int .i64 m6)).setCell ⟨w.heap.size, 7, none⟩ (.int .i64 (m7 + 1))).setCell ⟨w.heap.size, 8, none⟩ (.int .i64 fl)) := ⟨_, rfl⟩
  rw [← hw4]
  have q0 : w4.heap[w.heap.size]? = some (.cells #[.int .i64 2, .int .i64 m1, .int .i64 m2, .slice (some ⟨b1, o1, none⟩) n c, .slice B k d, .int .i64 m5, .int .i64 m6, .int .i64 (m7 + 1), .int .i64 fl] MT (0, 0)) := by
    rw [hw4]
    exact row9g (w := w3) (b := w.heap.size) (.int .i64 2) (.int .i64 m1) (.int .i64 m2) (.slice (some ⟨b1, o1, none⟩) n c) (.slice B k d) (.int .i64 m5) (.int .i64 m6) (.int .i64 (m7 + 1)) (.int .i64 fl) HR0.out
  have q1 : w4.heap[w.heap.size + 1]? = some (.cells #[.int .i64 0, .int .i64 0, .int .i64 0, .slice none 0 0, .slice none 0 0, .int .i64 0, .int .i64 0, .int .i64 0, .int .i64 0] MT (0, 0)) := by
    rw [hw4, keep9 w3 w.heap.size (.int .i64 2) (.int .i64 m1) (.int .i64 m2) (.slice (some ⟨b1, o1, none⟩) n c) (.slice B k d) (.int .i64 m5) (.int .i64 m6) (.int .i64 (m7 + 1)) (.int .i64 fl) (w.heap.size + 1) (by omega)]
    exact HR1.out
  have HQ := hide (show Q w w4 by
    rw [hw4]
    exact q9 (w0 := w) (w := w3) (b := w.heap.size) (.int .i64 2) (.int .i64 m1) (.int .i64 m2) (.slice (some ⟨b1, o1, none⟩) n c) (.slice B k d) (.int .i64 m5) (.int .i64 m6) (.int .i64 (m7 + 1)) (.int .i64 fl) HQ.out (Nat.le_refl _))
  have hs0 : w.heap.size < w4.heap.size := by have : w4.heap.size = w3.heap.size := (by rw [hw4]; simp [World.setCell]); omega
  have hs1 : w.heap.size + 1 < w4.heap.size := by have : w4.heap.size = w3.heap.size := (by rw [hw4]; simp [World.setCell]); omega
  have HR0 := hide q0
  have HR1 := hide q1
  obtain ⟨w5, hw5⟩ : ∃ w5, w4.alloc (.cells #[.int .i64 x', .int .i64 y'] 88) = w5 := ⟨_, rfl⟩
  rw [hw5]
  have hw4s : w4.heap.size = w3.heap.size := by rw [hw4]; simp [World.setCell]
  have hq45 : Q w4 w5 := by rw [← hw5]; exact (Q.refl w4).alloc _
  have q0 := (hq45.below.block _ hs0).trans HR0.out
  have q1 := (hq45.below.block _ hs1).trans HR1.out
  have q2 : w5.heap[w3.heap.size]? = some (.cells #[.int .i64 x', .int .i64 y'] 88 (0, 0)) := by rw [← hw5, ← hw4s]; exact heap_alloc_new w4 _
  have HQ := hide (HQ.out.trans hq45)
  have hs2 : w3.heap.size < w5.heap.size := blk_lt q2
  have hs3 : w.heap.size + 1 < w3.heap.size := by omega
  have hs1 : w.heap.size + 1 < w5.heap.size := by omega
  have hs0 : w.heap.size < w5.heap.size := by omega
  have HR0 := hide q0
  have HR1 := hide q1
  have HR2 := hide q2
  obtain ⟨g2, hg2⟩ : ∃ g2, g2 = w3.heap.size := ⟨_, rfl⟩
  rw [← hg2] at hs2 hs3 HR2 ⊢
  clear hw5 hw4 hw4s hq45 q0 q1 q2 hg2
  refine (HSY.out w5 HQ.out).mono ?_
  rintro e w6 ⟨rfl, hq6⟩
  have q2 := (hq6.below.block _ hs2).trans HR2.out
  have d0 : w6.cell? ⟨g2, 0, none⟩ = some (.int .i64 x') := by rw [cell_of_row _ _ _ _ _ _ q2]; rfl
  have d1 : w6.cell? ⟨g2, 1, none⟩ = some (.int .i64 y') := by rw [cell_of_row _ _ _ _ _ _ q2]; rfl
  have HR2 := hide q2
  have hs2 : g2 < w6.heap.size := by have := hq6.size; omega
  clear q2
  have q0 := (hq6.below.block _ hs0).trans HR0.out
  have q1 := (hq6.below.block _ hs1).trans HR1.out
  obtain ⟨k0, k1, k2, k3, k4, k5, k6, k7, k8⟩ := cells9 q0
  obtain ⟨-, -, -, -, -, f5, -, -, -⟩ := free9 q0
  obtain ⟨z0, z1, z2, z3, z4, z5, z6, z7, z8⟩ := cells9 q1
  obtain ⟨y0, y1, y2, y3, y4, y5, y6, y7, y8⟩ := free9 q1
  have HR0 := hide q0
  have HR1 := hide q1
  have HQ := hide (HQ.out.trans hq6)
  have hs0 : w.heap.size < w6.heap.size := by have := hq6.size; omega
  have hs1 : w.heap.size + 1 < w6.heap.size := by have := hq6.size; omega
  clear q0 q1 hq6
  clear HSY
  go_upto_region 13 with fail
  obtain ⟨w7, hw7⟩ : ∃ w7, w7 = w6 := ⟨_, rfl⟩
  rw [← hw7] at HR0 HR1 HR2 HQ hs0 hs1 hs2 ⊢
  have hs3' := hs3
  clear hw7
  have HLT := hide (own_lit0 w7 w7.heap.size 88 2 w7.heap.size rfl (Nat.le_refl _))
  have HSL := hide (HRC.out w7 HQ.out).b
  dsimp only at HSL
  have k3 : w7.cell? ⟨w.heap.size, 3, none⟩ = some (.slice (some ⟨b1, o1, none⟩) n c) := by rw [cell_of_row _ _ _ _ _ _ HR0.out]; rfl
  go_wp2_with (at_builtin; go_loud (refine wpList_appnew rfl El_pair _ _ rfl rfl rfl HLT.out (fun h => by cases h) ?_ (HSL.out.up ((Q.refl w7).alloc _)).rd (one_encP _) ?_ ?_ ?_; (focus (rw [flatMap_length (k := 2) (fun _ => rfl), HNL.out])); (focus omega); (focus (simp; done)); intro v8 w8 hv8 hq8; have HV8 := hide hv8; have HQ78 := hide (show Q w7 w8 from ((Q.refl w7).alloc _).trans hq8); have HQ8 := hide (HQ.out.trans HQ78.out); obtain ⟨g, cg, e5, hgb, hgl, hgn, hgm, hcell, hfz⟩ := own_at hv8 (by omega); subst e5; have q0 := (HQ78.out.below.block _ hs0).trans HR0.out; have k3 : w8.cell? ⟨w.heap.size, 3, none⟩ = some (.slice (some ⟨b1, o1, none⟩) n c) := (by rw [cell_of_row _ _ _ _ _ _ q0]; rfl); have f3 : w8.frozen? ⟨w.heap.size, 3, none⟩ = false := frozen_of_row _ _ _ _ _ q0; have q2 := (HQ78.out.below.block _ hs2).trans HR2.out; have d0 : w8.cell? ⟨g2, 0, none⟩ = some (.int .i64 x') := (by rw [cell_of_row _ _ _ _ _ _ q2]; rfl); have hcA := hcell (j * 2) _ (flatP0 HX.out); have hcB := hcell (j * 2 + 1) _ (flatP1 HX.out); have hfA := hfz (j * 2); have hfB := hfz (j * 2 + 1); have hg01 : g ≠ w.heap.size := (by omega); have hg02 : g ≠ g2 := (by omega); have hg03 : g ≠ w.heap.size + 1 := (by omega); clear hv8 hq8 hcell hfz q0 q2))
  clear HSL
  obtain ⟨w9, hw9⟩ : ∃ w9, (((w8.setCell ⟨w.heap.size, 3, none⟩ (.slice (some ⟨g, 0, none⟩) n cg)).setCell ⟨g, j * 2, none⟩ (.int .i64 x')).setCell ⟨g, j * 2 + 1, none⟩ (.int .i64 z)) = w9 := ⟨_, rfl⟩
  rw [hw9]
  have hw9s : w9.heap.size = w8.heap.size := by rw [← hw9]; simp [World.setCell]
  have hO9 : w9.ownsRow w7.heap.size 88 2 (.slice (some ⟨g, 0, none⟩) n cg) n ((bl.set j (x', z)).flatMap encP) := by
    rw [← hw9, ← flat_setP bl j x' z y' HX.out]
    exact own_set (own_set (own1 HV8.out hs0) _ _) _ _
  have q0 : w9.heap[w.heap.size]? = some (.cells #[.int .i64 2, .int .i64 m1, .int .i64 m2, .slice (some ⟨g, 0, none⟩) n cg, .slice B k d, .int .i64 m5, .int .i64 m6, .int .i64 (m7 + 1), .int .i64 fl] MT (0, 0)) := by
    rw [← hw9]
    exact (heap_setCell_other _ _ _ _ (by show w.heap.size ≠ g; omega)).trans ((heap_setCell_other _ _ _ _ (by show w.heap.size ≠ g; omega)).trans (heap_setCell_same w8 w.heap.size 3 _ _ _ ((HQ78.out.below.block _ hs0).trans HR0.out)))
  have q1 : w9.heap[w.heap.size + 1]? = some (.cells #[.int .i64 0, .int .i64 0, .int .i64 0, .slice none 0 0, .slice none 0 0, .int .i64 0, .int .i64 0, .int .i64 0, .int .i64 0] MT (0, 0)) := by
    rw [← hw9]
    exact (heap_setCell_other _ _ _ _ (by show w.heap.size + 1 ≠ g; omega)).trans ((heap_setCell_other _ _ _ _ (by show w.heap.size + 1 ≠ g; omega)).trans (((heap_setCell_other _ _ _ _ (by simp)).trans ((HQ78.out.below.block _ hs1).trans HR1.out))))
  have q2 : w9.heap[g2]? = some (.cells #[.int .i64 x', .int .i64 y'] 88 (0, 0)) := by
    rw [← hw9]
    exact (heap_setCell_other _ _ _ _ (by show g2 ≠ g; omega)).trans ((heap_setCell_other _ _ _ _ (by show g2 ≠ g; omega)).trans (((heap_setCell_other _ _ _ _ (by show g2 ≠ w.heap.size; omega)).trans ((HQ78.out.below.block _ hs2).trans HR2.out))))
  have hQ9 : Q w w9 := by
    rw [← hw9]
    exact ((HQ8.out.set (p := ⟨w.heap.size, 3, none⟩) (Nat.le_refl _) _).set (p := ⟨g, j * 2, none⟩) (by show w.heap.size ≤ g; omega) _).set (p := ⟨g, j * 2 + 1, none⟩) (by show w.heap.size ≤ g; omega) _
  have hs78 := HQ78.out.size
  have HRV : RmR w9 ⟨some ⟨g, 0, none⟩, n, cg, B, k, d, ⟨2, m1, m2, bl.set j (x', z), ys,  m5, m6, m7 + 1, fl⟩⟩ := ⟨Sl.own hO9 (fun _ => rfl) (by decide), HRM.out.y.up hQ9, fun h => (by cases h), HRM.out.yn, TyA.own hO9, HRM.out.tb.up hQ9⟩
  have HFR5 : Fr w7.heap.size ⟨some ⟨b1, o1, none⟩, n, c, B, k, d, ⟨2, m1, m2, bl, ys, m5, m6, m7 + 1, fl⟩⟩ ⟨some ⟨g, 0, none⟩, n, cg, B, k, d, ⟨2, m1, m2, bl.set j (x', z), ys,  m5, m6, m7 + 1, fl⟩⟩ := ⟨fr_own hO9, .inl ⟨rfl, rfl⟩⟩
  have HRC0 := hide (HRC.out w (Q.refl w))
  have HRV9 := hide HRV
  have HFR9 := hide HFR5
  have HR0 := hide q0
  have HR1 := hide q1
  have HR2 := hide q2
  have HQ := hide hQ9
  have hs79 : w7.heap.size ≤ w9.heap.size := by omega
  have hb1w : w.heap.size + 1 < w7.heap.size := hs1
  have hg27 : g2 < w7.heap.size := hs2
  have hs0 : w.heap.size < w9.heap.size := by omega
  have hs1 : w.heap.size + 1 < w9.heap.size := by omega
  have hs2 : g2 < w9.heap.size := by omega
  clear hw9 hw9s hO9 q0 q1 q2 hQ9 HRV HFR5 HV8 HQ78 HQ8 hcA hcB hfA hfB hgb hgl hgn hgm k3 f3 HLT
  obtain ⟨X, hX⟩ : ∃ X, X = rmX (w.heap.size + 1) (peakR M5) ⟨some ⟨b1, o1, none⟩, n, c, B, k, d, ⟨2, m1, m2, bl, ys, m5, m6, m7 + 1, fl⟩⟩ w7.heap.size := ⟨_, rfl⟩
  have hXq : ∀ w w', X w → Q w w' → X w' := by rw [hX]; exact rmX_q _ _ _ _
  have HXD := hide hX
  clear hX
  refine Ri.madeT (T := Ri.TX (w.heap.size + 1) X) (fun _ => Ri.TX.refl _ _ _) (fun _ _ _ h k => Ri.TX.trans hXq h k) (Ri.phi [Ri.isV (.agg #[.int .i64 2, .int .i64 m1, .int .i64 m2, .slice (some ⟨g, 0, none⟩) n cg, .slice B k d, .int .i64 m5, .int .i64 m6, .int .i64 (m7 + 1), .int .i64 fl]), Ri.isV (.pointer (some ⟨g2, 0, none⟩)), Ri.isV (.int .i64 x'), Ri.isV (.int .i64 z), Ri.isV (.pointer (some ⟨g2, 1, none⟩)), Ri.isV (.int .i64 y'), Ri.isV ((.int .i64 (min z y'))), Ri.isV ((.int .i64 (x' + min z y'))), Ri.isV (.pointer (some ⟨g2, 0, none⟩)), Ri.isV (.int .i64 x'), Ri.isV (.int .i64 z), Ri.isV ((.int .i64 (x' + z))), rmV M5 ⟨some ⟨b1, o1, none⟩, n, c, B, k, d, ⟨2, m1, m2, bl, ys, m5, m6, m7 + 1, fl⟩⟩ w7.heap.size, rmV (peakR M5) ⟨some ⟨b1, o1, none⟩, n, c, B, k, d, ⟨2, m1, m2, bl, ys, m5, m6, m7 + 1, fl⟩⟩ w7.heap.size, Ri.isV (.pointer (some ⟨g2, 0, none⟩)), Ri.isV (.int .i64 x'), (fun _ W => X W), Ri.isV (.int .i64 x'), Ri.isV (.int .i64 0)]) (by kernel_rfl) (by kernel_rfl) (fun i => Ri.phi_monoT ?_ i) ?_ ?_
  · exact ⟨Ri.mono_isT _, Ri.mono_isT _, Ri.mono_isT _, Ri.mono_isT _, Ri.mono_isT _, Ri.mono_isT _, Ri.mono_isT _, Ri.mono_isT _, Ri.mono_isT _, Ri.mono_isT _, Ri.mono_isT _, Ri.mono_isT _, (fun v w1 w2 h _ ht => rmV_t (M2 := peakR M5) HRC0.out (by omega) hb1w h (by rw [← HXD.out]; exact ht)), (fun v w1 w2 h _ ht => rmV_t (M2 := peakR M5) HRC0.out (by omega) hb1w h (by rw [← HXD.out]; exact ht)), Ri.mono_isT _, Ri.mono_isT _, (fun v w1 w2 h h0 ht => Ri.TX.keepX hXq h ht (Nat.lt_of_lt_of_le hs1 h0.size)), Ri.mono_isT _, Ri.mono_isT _, trivial⟩
  · refine Ri.All.cons ?_ (Ri.All.cons ?_ (Ri.All.cons ?_ (Ri.All.cons ?_ (Ri.All.cons ?_ (Ri.All.cons ?_ (Ri.All.cons ?_ (Ri.All.cons ?_ (Ri.All.cons ?_ (Ri.All.cons ?_ (Ri.All.cons ?_ (Ri.All.cons ?_ (Ri.All.cons ?_ (Ri.All.cons ?_ (Ri.All.cons ?_ (Ri.All.cons ?_ (Ri.All.cons ?_ (Ri.All.cons ?_ (Ri.All.cons ?_ (Ri.All.nil)))))))))))))))))))
    · refine Ri.StepT.q (fun _ _ _ h => Ri.TX.of_q h) ⟨rfl, fun f W hq hf A hA hB hO => ?_⟩
      have e1 := (hB 3 (by kernel_rfl)).trans (show _ = .pointer (some ⟨w.heap.size, 0, none⟩) by simp [Act.eval])
      exact Ri.wp_value _ (Ri.run_ldrow rfl e1 ((hq.block _ hs0 (by omega)).trans HR0.out) Tryz.underlying32 rfl (by kernel_rfl)) rfl
    · refine Ri.StepT.q (fun _ _ _ h => Ri.TX.of_q h) ⟨rfl, fun f W hq hf A hA hB hO => ?_⟩
      have e1 := (hB 11 (by kernel_rfl)).trans (show _ = .pointer (some ⟨g2, 0, none⟩) by simp [Act.eval])
      exact Ri.wp_value _ (Ri.run_idxA (k := 0) (sz := 1) rfl e1 (show A.eval (.const (.int .i64 0)) = _ from rfl) Tryz.underlying88 (by kernel_rfl) (by decide)) rfl
    · refine Ri.StepT.q (fun _ _ _ h => Ri.TX.of_q h) ⟨rfl, fun f W hq hf A hA hB hO => ?_⟩
      have e1 := (hA 79 1 (by kernel_rfl) (by simp)).trans (show f 1 = _ from hf 1 (by kernel_rfl))
      exact Ri.wp_value _ (Ri.run_ld1 rfl e1 Tryz.underlying3 rfl ((cell_of_row W g2 0 _ _ _ ((hq.block g2 hs2 (by omega)).trans HR2.out)).trans rfl)) rfl
    · refine Ri.StepT.q (fun _ _ _ h => Ri.TX.of_q h) ⟨rfl, fun f W hq hf A hA hB hO => ?_⟩
      have e1 := (hB 2 (by kernel_rfl)).trans (show _ = .int .i64 z by simp [Act.eval])
      exact Ri.wp_value _ (Ri.run_mv rfl e1) rfl
    · refine Ri.StepT.q (fun _ _ _ h => Ri.TX.of_q h) ⟨rfl, fun f W hq hf A hA hB hO => ?_⟩
      have e1 := (hB 11 (by kernel_rfl)).trans (show _ = .pointer (some ⟨g2, 0, none⟩) by simp [Act.eval])
      exact Ri.wp_value _ (Ri.run_idxA (k := 1) (sz := 1) rfl e1 (show A.eval (.const (.int .i64 1)) = _ from rfl) Tryz.underlying88 (by kernel_rfl) (by decide)) rfl
    · refine Ri.StepT.q (fun _ _ _ h => Ri.TX.of_q h) ⟨rfl, fun f W hq hf A hA hB hO => ?_⟩
      have e1 := (hA 82 4 (by kernel_rfl) (by simp)).trans (show f 4 = _ from hf 4 (by kernel_rfl))
      exact Ri.wp_value _ (Ri.run_ld1 rfl e1 Tryz.underlying3 rfl ((cell_of_row W g2 1 _ _ _ ((hq.block g2 hs2 (by omega)).trans HR2.out)).trans rfl)) rfl
    · refine Ri.StepT.q (fun _ _ _ h => Ri.TX.of_q h) ⟨rfl, fun f W hq hf A hA hB hO => ?_⟩
      have e1 := (hA 81 3 (by kernel_rfl) (by simp)).trans (show f 3 = _ from hf 3 (by kernel_rfl))
      have e2 := (hA 83 5 (by kernel_rfl) (by simp)).trans (show f 5 = _ from hf 5 (by kernel_rfl))
      exact Ri.wp_value _ (Ri.run_mini rfl e1 e2) rfl
    · refine Ri.StepT.q (fun _ _ _ h => Ri.TX.of_q h) ⟨rfl, fun f W hq hf A hA hB hO => ?_⟩
      have e1 := (hA 80 2 (by kernel_rfl) (by simp)).trans (show f 2 = _ from hf 2 (by kernel_rfl))
      have e2 := (hA 84 6 (by kernel_rfl) (by simp)).trans (show f 6 = _ from hf 6 (by kernel_rfl))
      exact Ri.wp_value _ (Ri.run_add rfl e1 e2 Tryz.underlying3 (by omega) (by omega)) rfl
    · refine Ri.StepT.q (fun _ _ _ h => Ri.TX.of_q h) ⟨rfl, fun f W hq hf A hA hB hO => ?_⟩
      have e1 := (hB 11 (by kernel_rfl)).trans (show _ = .pointer (some ⟨g2, 0, none⟩) by simp [Act.eval])
      exact Ri.wp_value _ (Ri.run_idxA (k := 0) (sz := 1) rfl e1 (show A.eval (.const (.int .i64 0)) = _ from rfl) Tryz.underlying88 (by kernel_rfl) (by decide)) rfl
    · refine Ri.StepT.q (fun _ _ _ h => Ri.TX.of_q h) ⟨rfl, fun f W hq hf A hA hB hO => ?_⟩
      have e1 := (hA 86 8 (by kernel_rfl) (by simp)).trans (show f 8 = _ from hf 8 (by kernel_rfl))
      exact Ri.wp_value _ (Ri.run_ld1 rfl e1 Tryz.underlying3 rfl ((cell_of_row W g2 0 _ _ _ ((hq.block g2 hs2 (by omega)).trans HR2.out)).trans rfl)) rfl
    · refine Ri.StepT.q (fun _ _ _ h => Ri.TX.of_q h) ⟨rfl, fun f W hq hf A hA hB hO => ?_⟩
      have e1 := (hB 2 (by kernel_rfl)).trans (show _ = .int .i64 z by simp [Act.eval])
      exact Ri.wp_value _ (Ri.run_mv rfl e1) rfl
    · refine Ri.StepT.q (fun _ _ _ h => Ri.TX.of_q h) ⟨rfl, fun f W hq hf A hA hB hO => ?_⟩
      have e1 := (hA 87 9 (by kernel_rfl) (by simp)).trans (show f 9 = _ from hf 9 (by kernel_rfl))
      have e2 := (hA 88 10 (by kernel_rfl) (by simp)).trans (show f 10 = _ from hf 10 (by kernel_rfl))
      exact Ri.wp_value _ (Ri.run_add rfl e1 e2 Tryz.underlying3 (by omega) (by omega)) rfl
    · refine Ri.StepT.q (fun _ _ _ h => Ri.TX.of_q h) ⟨rfl, fun f W hq hf A hA hB hO => ?_⟩
      have hRW : RmR W ⟨some ⟨g, 0, none⟩, n, cg, B, k, d, ⟨2, m1, m2, bl.set j (x', z), ys,  m5, m6, m7 + 1, fl⟩⟩ := RmR.keep HRC0.out HRV9.out HFR9.out (b := w.heap.size + 1) (by omega) hb1w (fun g hg hne => hq.block g hg hne) hq.size
      have e1 := (hA 78 0 (by kernel_rfl) (by simp)).trans (show f 0 = _ from hf 0 (by kernel_rfl))
      have e2 := (hA 85 7 (by kernel_rfl) (by simp)).trans (show f 7 = _ from hf 7 (by kernel_rfl))
      have e3 := (hA 89 11 (by kernel_rfl) (by simp)).trans (show f 11 = _ from hf 11 (by kernel_rfl))
      refine Ri.wp_call #[(⟨some ⟨g, 0, none⟩, n, cg, B, k, d, ⟨2, m1, m2, bl.set j (x', z), ys,  m5, m6, m7 + 1, fl⟩⟩ : RV).val, .int .i64 (fN : Int), .int .i64 (tN : Int), .int .i64 (-1)] rfl ?_ Tryz.func56 (by kernel_rfl) (by kernel_rfl) ((HST.out W _ rfl hRW).mono ?_)
      · simp only [List.map_toArray, List.map_cons, List.map_nil, e1, e2, e3, HF5.out, HT5.out]
        rfl
      · rintro e w3 ⟨v6, rfl, hm, hR, hF, hq3⟩
        exact ⟨_, rfl, hq3, v6, rfl, hm, hR, Fr.trans HFR9.out hF (Nat.le_trans hs79 hq.size)⟩
    · refine Ri.StepT.q (fun _ _ _ h => Ri.TX.of_q h) ⟨rfl, fun f W hq hf A hA hB hO => ?_⟩
      obtain ⟨v6, hv, hm, hR, hF⟩ : rmV M5 ⟨some ⟨b1, o1, none⟩, n, c, B, k, d, ⟨2, m1, m2, bl, ys, m5, m6, m7 + 1, fl⟩⟩ w7.heap.size (f 12) W := hf 12 (by kernel_rfl)
      have e1 := (hA 90 12 (by kernel_rfl) (by simp)).trans hv
      refine Ri.wp_call #[v6.val] rfl (by simp [e1]) Tryz.func55 (by kernel_rfl) (by kernel_rfl) ((HPK.out W v6 hm hR).mono ?_)
      rintro e w3 ⟨rfl, hq3⟩
      exact ⟨_, rfl, hq3, v6.withM (peakR v6.m), rfl, by rw [← hm]; rfl, (hR.up hq3).withM rfl rfl, hF.withM rfl rfl⟩
    · refine Ri.StepT.q (fun _ _ _ h => Ri.TX.of_q h) ⟨rfl, fun f W hq hf A hA hB hO => ?_⟩
      have e1 := (hB 11 (by kernel_rfl)).trans (show _ = .pointer (some ⟨g2, 0, none⟩) by simp [Act.eval])
      exact Ri.wp_value _ (Ri.run_idxA (k := 0) (sz := 1) rfl e1 (show A.eval (.const (.int .i64 0)) = _ from rfl) Tryz.underlying88 (by kernel_rfl) (by decide)) rfl
    · refine Ri.StepT.q (fun _ _ _ h => Ri.TX.of_q h) ⟨rfl, fun f W hq hf A hA hB hO => ?_⟩
      have e1 := (hA 92 14 (by kernel_rfl) (by simp)).trans (show f 14 = _ from hf 14 (by kernel_rfl))
      exact Ri.wp_value _ (Ri.run_ld1 rfl e1 Tryz.underlying3 rfl ((cell_of_row W g2 0 _ _ _ ((hq.block g2 hs2 (by omega)).trans HR2.out)).trans rfl)) rfl
    · refine ⟨rfl, fun f W hq hf A hA hB hO => ?_⟩
      obtain ⟨v6, hv, hm, hR, hF⟩ : rmV (peakR M5) ⟨some ⟨b1, o1, none⟩, n, c, B, k, d, ⟨2, m1, m2, bl, ys, m5, m6, m7 + 1, fl⟩⟩ w7.heap.size (f 13) W := hf 13 (by kernel_rfl)
      have e1 := (hB 6 (by kernel_rfl)).trans (show _ = .pointer (some ⟨w.heap.size + 1, 0, none⟩) by simp [Act.eval])
      have e2 := (hA 91 13 (by kernel_rfl) (by simp)).trans hv
      obtain ⟨old, hold, hos⟩ : ∃ old, W.heap[w.heap.size + 1]? = some (.cells old MT (0, 0)) ∧ old.size = 9 := by
        rcases hq.at_ hs1 with e | e
        · exact ⟨_, e.trans HR1.out, rfl⟩
        · rw [HXD.out] at e
          obtain ⟨v', e, -⟩ := e
          exact ⟨_, e, rfl⟩
      have hX2 : X (W.setRow (w.heap.size + 1) v6.cells) := by
        rw [HXD.out]
        exact ⟨v6, setRow_heap _ _ _ _ _ _ hold, hm, RmR.keep HRC0.out hR hF (by omega) hb1w (fun g _ hne => setRow_other _ _ _ _ hne) (by simp), hF⟩
      exact Ri.wp_row rfl e1 e2 rfl hold (by kernel_rfl) hos (by simp [RV.cells, Value.oneCell']) (Ri.TX.setRow hX2) hX2
    · refine Ri.StepT.q (fun _ _ _ h => Ri.TX.of_q h) ⟨rfl, fun f W hq hf A hA hB hO => ?_⟩
      have e1 := (hA 93 15 (by kernel_rfl) (by simp)).trans (show f 15 = _ from hf 15 (by kernel_rfl))
      exact Ri.wp_value _ (Ri.run_asg rfl e1) rfl
    · refine Ri.StepT.q (fun _ _ _ h => Ri.TX.of_q h) ⟨rfl, fun f W hq hf A hA hB hO => ?_⟩
      have e1 : A.eval (.const (.int .i64 0)) = .int .i64 0 := rfl
      exact Ri.wp_value _ (Ri.run_asg rfl e1) rfl
  · intro f W hq hf
    have hX2 : X W := hf 16 (by simp)
    have e17 : f 17 = .int .i64 x' := hf 17 (by simp)
    have e18 : f 18 = .int .i64 0 := hf 18 (by simp)
    rw [HXD.out] at hX2
    obtain ⟨v', hg, hm, hR, hF⟩ := hX2
    have hqw : Q w W := Ri.TX.q_of (w0 := w) (w := w9) HQ.out ⟨hq.os, hq.tape, hq.output, hq.size, hq.block, hq.at_⟩ (by omega)
    simp only [Ri.acts, Act.put, List.setIfInBounds_toArray, List.set_cons_zero, List.set_cons_succ, Nat.zero_add, Nat.reduceAdd]
    rw [e17, e18]
    clear hf hq
    go_wp2_with fail
    refine bodyPost_ret (v := .tuple #[.agg v'.cells, .int .i64 x', .int .i64 0]) (ret_m3 (p := 6) (u := 7) (x := 8) rfl rfl (by simp) (by simp) (by simp) hg) rfl ?_
    exact ⟨v', rfl, hm, hR, Fr.trans (v1 := ⟨some ⟨b1, o1, none⟩, n, c, B, k, d, ⟨2, m1, m2, bl, ys, m5, m6, m7 + 1, fl⟩⟩) ⟨.inl ⟨rfl, rfl⟩, .inl ⟨rfl, rfl⟩⟩ hF (by omega), hqw⟩

set_option maxRecDepth 100000 in
set_option maxHeartbeats 8000000 in
theorem rResize_stay_e (v : RV) (at_ z : Int) (j : Nat) (x y : Int) (w : World) (H : RmR w v) (N : RmN v.m) (hz : (decide (1 ≤ z) && decide (z ≤ 4096)) = true) (hx : v.m.bl[j]? = some (x, y)) (hi : idxI (fun p => p.1 == at_) v.m.bl = (j : Int)) (hf : (countR v.m).2 = false) (hcl : v.m.calls < 1000000) (hst : staysR (countR v.m).1 j x y z = true) (hfit : x + z ≤ v.m.size) (hkd : ¬ v.m.kind = 1 ∧ ¬ v.m.kind = 2) (heq : True) :
    Calls Tryz.prog 25 #[v.val, .int .i64 at_, .int .i64 z] w (MPost2 (peakR (setR (growR (countR v.m).1 j x y z) (x + min z y).toNat (x + z).toNat (-1)), x, 0) w v) := by
  have HWI : Hid (∀ W, Calls Tryz.prog 15 #[.int .i64 z, .int .i64 1, .int .i64 4096] W fun e w' => e = .returned (.bool true) ∧ W = w') := fun W => by
    have := within_any z 1 4096 W
    rw [hz] at this
    exact this
  have HBG := hide fun (W : World) (h : Q w W) => begins_any v at_ W (H.up h) N
  rw [hi] at HBG
  have HCN := hide fun (W : World) => rCounted_any v W N
  obtain ⟨fl, hfl⟩ : ∃ fl, fl = (countR v.m).1.fail := ⟨_, rfl⟩
  have hcm : (countR v.m).1 = { v.m with calls := v.m.calls + 1, fail := fl } := by rw [hfl]; rfl
  rw [hf, hcm] at HCN
  have HRM := hide H
  have HRN := hide N
  have h7 := N.cl
  have hnl := H.b.len
  have hnl2 := N.n
  have hsl := H.b.pr j (by have := (List.getElem?_eq_some_iff.1 hx).1; omega)
  have N1 := N.count hcl
  have HSY : Hid (∀ W, Q w W → Calls Tryz.prog 60 #[(v.withM { v.m with calls := v.m.calls + 1, fail := fl }).val, .int .i64 (j : Int), .int .i64 z] W fun e w' => e = .returned (.bool true) ∧ Q W w') := fun W h => by
    simp only [Bool.and_eq_true, decide_eq_true_eq] at hz
    have h1 := rStays_any (v.withM (countR v.m).1) j x y z W ((H.up h).withM rfl rfl) N1 hx hz.2 (by omega)
    rw [hcm] at h1
    rw [hcm] at hst
    rw [show staysR (v.withM { v.m with calls := v.m.calls + 1, fail := fl }).m j x y z = true from hst] at h1
    exact h1
  have hx0 : 0 ≤ x ∧ 0 ≤ y ∧ x + y ≤ v.m.size := N.all _ (List.mem_of_getElem? hx)
  have hz12 : 1 ≤ z ∧ z ≤ 4096 := by simpa using hz
  have hsz12 := N.sz
  have hj100 : j < v.m.bl.length := (List.getElem?_eq_some_iff.1 hx).1
  rw [hcm] at N1
  rw [hcm]
  have N5 : RmN (growR { v.m with calls := v.m.calls + 1, fail := fl } j x y z) := by
    refine ⟨N1.sz, N1.pc, by show (v.m.bl.set j _).length ≤ 100; rw [List.length_set]; exact N.n, N1.k, fun p hp => ?_, ?_, N1.pk, N1.cl, N1.fl⟩
    · rcases List.mem_or_eq_of_mem_set hp with hp | rfl
      · exact N.all p hp
      · exact ⟨hx0.1, by omega, hfit⟩
    · have := N.tp
      show 0 ≤ (if (v.m.kind = 1 ∨ v.m.kind = 2) ∧ x + y = v.m.top then x + z else v.m.top) ∧ (if (v.m.kind = 1 ∨ v.m.kind = 2) ∧ x + y = v.m.top then x + z else v.m.top) ≤ 4096
      split <;> omega
  obtain ⟨fN, hf5⟩ : ∃ fN : Nat, x + min z y = (fN : Int) := ⟨(x + min z y).toNat, by omega⟩
  obtain ⟨tN, ht5⟩ : ∃ tN : Nat, x + z = (tN : Int) := ⟨(x + z).toNat, by omega⟩
  have HST : Hid (∀ W v5, v5.m = growR { v.m with calls := v.m.calls + 1, fail := fl } j x y z → RmR W v5 → Calls Tryz.prog 56 #[v5.val, .int .i64 (fN : Int), .int .i64 (tN : Int), .int .i64 (-1)] W (isRm (setR (growR { v.m with calls := v.m.calls + 1, fail := fl } j x y z) (x + min z y).toNat (x + z).toNat (-1)) W v5)) := fun W v5 e h2 => by
    rw [hf5, ht5, Int.toNat_natCast, Int.toNat_natCast, ← e]
    have e2 : v5.m.size = v.m.size := by rw [e]; rfl
    exact rSet_fr v5 fN tN (-1) W h2 (by rw [e]; exact N5) (by omega) (by omega) (by omega)
  obtain ⟨M5, hM5⟩ : ∃ M5, M5 = setR (growR { v.m with calls := v.m.calls + 1, fail := fl } j x y z) (x + min z y).toNat (x + z).toNat (-1) := ⟨_, rfl⟩
  have N6 : RmN M5 := by rw [hM5]; exact N5.set _ _ _
  rw [← hM5] at HST ⊢
  have HPK : Hid (∀ W v6, v6.m = M5 → RmR W v6 → Calls Tryz.prog 55 #[v6.val] W fun e w' => e = .returned (v6.withM (peakR v6.m)).val ∧ Q W w') := fun W v6 e h2 => rPeaked_any v6 W h2 (by rw [e]; exact N6)
  have HG5 : Hid (growR { v.m with calls := v.m.calls + 1, fail := fl } j x y z = ⟨v.m.kind, v.m.size, v.m.piece, v.m.bl.set j (x, z), v.m.ys, v.m.top, v.m.peak, v.m.calls + 1, fl⟩) := by
    refine hide ?_
    unfold growR
    dsimp only
    rw [if_neg (fun h => by omega)]
  rw [HG5.out] at HST
  have HRC : Hid (∀ W, Q w W → RmR W (v.withM { v.m with calls := v.m.calls + 1, fail := fl })) := fun W h => (H.up h).withM rfl rfl
  have HF5 := hide hf5
  have HT5 := hide ht5
  have hf5k : fN ≤ 100000 := by omega
  have ht5k : tN ≤ 100000 := by omega
  clear hf5 ht5
  clear hz H N N1 N5 N6 hi hf hfl hcm hst HG5 hM5
  unfold RV.withM at HRC
  unfold RV.withM RV.val RV.cells at HCN HSY
  unfold RV.val RV.cells at HBG ⊢
  obtain ⟨A0, n, c, B, k, d, ⟨m0, m1, m2, bl, ys, m5, m6, m7, m8⟩⟩ := v
  dsimp only at HRC HSY HST HPK hx hx0 hkd heq hsz12 hj100 hfit HBG HCN h7 hnl hnl2 hsl ⊢
  obtain ⟨h70, h71⟩ := h7
  obtain ⟨b1, o1, x', y', rfl, hb1, hx', x1, x2⟩ := hsl
  obtain ⟨hx01, hx02, hx03⟩ := hx0
  obtain ⟨hz1, hz2⟩ := hz12
  have hji : (j : Int) ≤ 100 := by omega
  have hjn : j < n := by omega
  have hjni : (j : Int) < (n : Int) := by omega
  have hni : (n : Int) ≤ 100 := by omega
  have hx4 : x ≤ 4096 := by omega
  have hy4 : y ≤ 4096 := by omega
  have hneg : decide ((j : Int) < 0) = false := by simp
  have hd0 : decide (j < n) = true := by simpa using hjn
  obtain ⟨rfl, rfl⟩ : x' = x ∧ y' = y := by
    rw [hx] at hx'
    cases hx'
    exact ⟨rfl, rfl⟩
  have HX1 := hide x1
  have HX2 := hide x2
  have HX := hide hx
  have bk1 : (m0 == 1) = false := by simpa using hkd.1
  have bk2 : (m0 == 2) = false := by simpa using hkd.2
  have dk1 : decide (m0 = 1) = false := by simpa using hkd.1
  have dk2 : decide (m0 = 2) = false := by simpa using hkd.2
  have HEQ := hide heq
  have HNL := hide hnl
  obtain ⟨w1, hw1⟩ : ∃ w1, (w.alloc (.cells #[.int .i64 m0, .int .i64 m1, .int .i64 m2, .slice (some ⟨b1, o1, none⟩) n c, .slice B k d, .int .i64 m5, .int .i64 m6, .int .i64 m7, .int .i64 m8] MT)).alloc (.cells #[.int .i64 0, .int .i64 0, .int .i64 0, .slice none 0 0, .slice none 0 0, .int .i64 0, .int .i64 0, .int .i64 0, .int .i64 0] MT) = w1 := ⟨_, rfl⟩
  have hq1 : Q w w1 := by rw [← hw1]; exact ((Q.refl w).alloc _).alloc _
  have hs1 : w.heap.size + 1 < w1.heap.size := by rw [← hw1]; simp
  have hs0 : w.heap.size < w1.heap.size := by omega
  have q0 : w1.heap[w.heap.size]? = some (.cells #[.int .i64 m0, .int .i64 m1, .int .i64 m2, .slice (some ⟨b1, o1, none⟩) n c, .slice B k d, .int .i64 m5, .int .i64 m6, .int .i64 m7, .int .i64 m8] MT (0, 0)) := by
    rw [← hw1, ((Q.refl (w.alloc _)).alloc _).below.block _ (by simp)]
    exact heap_alloc_new w _
  have q1 : w1.heap[w.heap.size + 1]? = some (.cells #[.int .i64 0, .int .i64 0, .int .i64 0, .slice none 0 0, .slice none 0 0, .int .i64 0, .int .i64 0, .int .i64 0, .int .i64 0] MT (0, 0)) := by
    have h := heap_alloc_new (w.alloc (.cells #[.int .i64 m0, .int .i64 m1, .int .i64 m2, .slice (some ⟨b1, o1, none⟩) n c, .slice B k d, .int .i64 m5, .int .i64 m6, .int .i64 m7, .int .i64 m8] MT)) (.cells #[.int .i64 0, .int .i64 0, .int .i64 0, .slice none 0 0, .slice none 0 0, .int .i64 0, .int .i64 0, .int .i64 0, .int .i64 0] MT)
    rw [show (w.alloc (.cells #[.int .i64 m0, .int .i64 m1, .int .i64 m2, .slice (some ⟨b1, o1, none⟩) n c, .slice B k d, .int .i64 m5, .int .i64 m6, .int .i64 m7, .int .i64 m8] MT)).heap.size = w.heap.size + 1 by simp, hw1] at h
    exact h
  have HW1 := hide hw1
  have HR0 := hide q0
  have HR1 := hide q1
  have HQ1 := hide hq1
  have HBW := hide (HBG.out w1 hq1)
  obtain ⟨k0, k1, k2, k3, k4, k5, k6, k7, k8⟩ := cells9 q0
  obtain ⟨z0, z1, z2, z3, z4, z5, z6, z7, z8⟩ := cells9 q1
  obtain ⟨y0, y1, y2, y3, y4, y5, y6, y7, y8⟩ := free9 q1
  clear hw1 hq1 q0 q1 HBG hx hx' hnl hnl2 heq x1 x2 hj100 hsz12 hfit hkd
  go_enter Tryz.func25, Tryz.ntmps25
  go_wp2_with (go_at_call 15; refine (HWI.out _).mono ?_; rintro e w2 ⟨rfl, rfl⟩; rw [HW1.out])
  refine HBW.out.mono ?_
  rintro e w2 ⟨rfl, hq2⟩
  have q0 := (hq2.below.block _ hs0).trans HR0.out
  have q1 := (hq2.below.block _ hs1).trans HR1.out
  obtain ⟨k0, k1, k2, k3, k4, k5, k6, k7, k8⟩ := cells9 q0
  obtain ⟨z0, z1, z2, z3, z4, z5, z6, z7, z8⟩ := cells9 q1
  obtain ⟨y0, y1, y2, y3, y4, y5, y6, y7, y8⟩ := free9 q1
  have HR0 := hide q0
  have HR1 := hide q1
  have HQ := hide (HQ1.out.trans hq2)
  have hs0 : w.heap.size < w2.heap.size := by have := hq2.size; omega
  have hs1 : w.heap.size + 1 < w2.heap.size := by have := hq2.size; omega
  clear q0 q1 hq2
  go_wp2_with fail
  refine (HCN.out w2).mono ?_
  rintro e w3 ⟨rfl, hq3⟩
  have q0 := (hq3.below.block _ hs0).trans HR0.out
  have q1 := (hq3.below.block _ hs1).trans HR1.out
  obtain ⟨k0, k1, k2, k3, k4, k5, k6, k7, k8⟩ := cells9 q0
  obtain ⟨f0, f1, f2, f3, f4, f5, f6, f7, f8⟩ := free9 q0
  obtain ⟨z0, z1, z2, z3, z4, z5, z6, z7, z8⟩ := cells9 q1
  obtain ⟨y0, y1, y2, y3, y4, y5, y6, y7, y8⟩ := free9 q1
  have HR0 := hide q0
  have HR1 := hide q1
  have HQ := hide (HQ.out.trans hq3)
  have hs0 : w.heap.size < w3.heap.size := by have := hq3.size; omega
  have hs1 : w.heap.size + 1 < w3.heap.size := by have := hq3.size; omega
  clear q0 q1 hq3
  have x1 := (HQ.out.facts.1 b1 _ hb1).trans HX1.out
  have x2 := (HQ.out.facts.1 b1 _ hb1).trans HX2.out
  clear HBW HCN
  go_wp2_with fail
  obtain ⟨w4, hw4⟩ : ∃ w4, w4 = (((((((((w3.setCell ⟨w.heap.size, 0, none⟩ (.int .i64 m0)).setCell ⟨w.heap.size, 1, none⟩ (.int .i64 m1)).setCell ⟨w.heap.size, 2, none⟩ (.int .i64 m2)).setCell ⟨w.heap.size, 3, none⟩ (.slice (some ⟨b1, o1, none⟩) n c)).setCell ⟨w.heap.size, 4, none⟩ (.slice B k d)).setCell ⟨w.heap.size, 5, none⟩ (.int .i64 m5)).setCell ⟨w.heap.size, 6, none⟩ (.int .i64 m6)).setCell ⟨w.heap.size, 7, none⟩ (.int .i64 (m7 + 1))).setCell ⟨w.heap.size, 8, none⟩ (.int .i64 fl)) := ⟨_, rfl⟩
  rw [← hw4]
  have q0 : w4.heap[w.heap.size]? = some (.cells #[.int .i64 m0, .int .i64 m1, .int .i64 m2, .slice (some ⟨b1, o1, none⟩) n c, .slice B k d, .int .i64 m5, .int .i64 m6, .int .i64 (m7 + 1), .int .i64 fl] MT (0, 0)) := by
    rw [hw4]
    exact row9g (w := w3) (b := w.heap.size) (.int .i64 m0) (.int .i64 m1) (.int .i64 m2) (.slice (some ⟨b1, o1, none⟩) n c) (.slice B k d) (.int .i64 m5) (.int .i64 m6) (.int .i64 (m7 + 1)) (.int .i64 fl) HR0.out
  have q1 : w4.heap[w.heap.size + 1]? = some (.cells #[.int .i64 0, .int .i64 0, .int .i64 0, .slice none 0 0, .slice none 0 0, .int .i64 0, .int .i64 0, .int .i64 0, .int .i64 0] MT (0, 0)) := by
    rw [hw4, keep9 w3 w.heap.size (.int .i64 m0) (.int .i64 m1) (.int .i64 m2) (.slice (some ⟨b1, o1, none⟩) n c) (.slice B k d) (.int .i64 m5) (.int .i64 m6) (.int .i64 (m7 + 1)) (.int .i64 fl) (w.heap.size + 1) (by omega)]
    exact HR1.out
  have HQ := hide (show Q w w4 by
    rw [hw4]
    exact q9 (w0 := w) (w := w3) (b := w.heap.size) (.int .i64 m0) (.int .i64 m1) (.int .i64 m2) (.slice (some ⟨b1, o1, none⟩) n c) (.slice B k d) (.int .i64 m5) (.int .i64 m6) (.int .i64 (m7 + 1)) (.int .i64 fl) HQ.out (Nat.le_refl _))
  have hs0 : w.heap.size < w4.heap.size := by have : w4.heap.size = w3.heap.size := (by rw [hw4]; simp [World.setCell]); omega
  have hs1 : w.heap.size + 1 < w4.heap.size := by have : w4.heap.size = w3.heap.size := (by rw [hw4]; simp [World.setCell]); omega
  have HR0 := hide q0
  have HR1 := hide q1
  obtain ⟨w5, hw5⟩ : ∃ w5, w4.alloc (.cells #[.int .i64 x', .int .i64 y'] 88) = w5 := ⟨_, rfl⟩
  rw [hw5]
  have hw4s : w4.heap.size = w3.heap.size := by rw [hw4]; simp [World.setCell]
  have hq45 : Q w4 w5 := by rw [← hw5]; exact (Q.refl w4).alloc _
  have q0 := (hq45.below.block _ hs0).trans HR0.out
  have q1 := (hq45.below.block _ hs1).trans HR1.out
  have q2 : w5.heap[w3.heap.size]? = some (.cells #[.int .i64 x', .int .i64 y'] 88 (0, 0)) := by rw [← hw5, ← hw4s]; exact heap_alloc_new w4 _
  have HQ := hide (HQ.out.trans hq45)
  have hs2 : w3.heap.size < w5.heap.size := blk_lt q2
  have hs3 : w.heap.size + 1 < w3.heap.size := by omega
  have hs1 : w.heap.size + 1 < w5.heap.size := by omega
  have hs0 : w.heap.size < w5.heap.size := by omega
  have HR0 := hide q0
  have HR1 := hide q1
  have HR2 := hide q2
  obtain ⟨g2, hg2⟩ : ∃ g2, g2 = w3.heap.size := ⟨_, rfl⟩
  rw [← hg2] at hs2 hs3 HR2 ⊢
  clear hw5 hw4 hw4s hq45 q0 q1 q2 hg2
  refine (HSY.out w5 HQ.out).mono ?_
  rintro e w6 ⟨rfl, hq6⟩
  have q2 := (hq6.below.block _ hs2).trans HR2.out
  have d0 : w6.cell? ⟨g2, 0, none⟩ = some (.int .i64 x') := by rw [cell_of_row _ _ _ _ _ _ q2]; rfl
  have d1 : w6.cell? ⟨g2, 1, none⟩ = some (.int .i64 y') := by rw [cell_of_row _ _ _ _ _ _ q2]; rfl
  have HR2 := hide q2
  have hs2 : g2 < w6.heap.size := by have := hq6.size; omega
  clear q2
  have q0 := (hq6.below.block _ hs0).trans HR0.out
  have q1 := (hq6.below.block _ hs1).trans HR1.out
  obtain ⟨k0, k1, k2, k3, k4, k5, k6, k7, k8⟩ := cells9 q0
  obtain ⟨-, -, -, -, -, f5, -, -, -⟩ := free9 q0
  obtain ⟨z0, z1, z2, z3, z4, z5, z6, z7, z8⟩ := cells9 q1
  obtain ⟨y0, y1, y2, y3, y4, y5, y6, y7, y8⟩ := free9 q1
  have HR0 := hide q0
  have HR1 := hide q1
  have HQ := hide (HQ.out.trans hq6)
  have hs0 : w.heap.size < w6.heap.size := by have := hq6.size; omega
  have hs1 : w.heap.size + 1 < w6.heap.size := by have := hq6.size; omega
  clear q0 q1 hq6
  clear HSY
  go_upto_region 13 with fail
  obtain ⟨w7, hw7⟩ : ∃ w7, w7 = w6 := ⟨_, rfl⟩
  rw [← hw7] at HR0 HR1 HR2 HQ hs0 hs1 hs2 ⊢
  have hs3' := hs3
  clear hw7
  have HLT := hide (own_lit0 w7 w7.heap.size 88 2 w7.heap.size rfl (Nat.le_refl _))
  have HSL := hide (HRC.out w7 HQ.out).b
  dsimp only at HSL
  have k3 : w7.cell? ⟨w.heap.size, 3, none⟩ = some (.slice (some ⟨b1, o1, none⟩) n c) := by rw [cell_of_row _ _ _ _ _ _ HR0.out]; rfl
  go_wp2_with (at_builtin; go_loud (refine wpList_appnew rfl El_pair _ _ rfl rfl rfl HLT.out (fun h => by cases h) ?_ (HSL.out.up ((Q.refl w7).alloc _)).rd (one_encP _) ?_ ?_ ?_; (focus (rw [flatMap_length (k := 2) (fun _ => rfl), HNL.out])); (focus omega); (focus (simp; done)); intro v8 w8 hv8 hq8; have HV8 := hide hv8; have HQ78 := hide (show Q w7 w8 from ((Q.refl w7).alloc _).trans hq8); have HQ8 := hide (HQ.out.trans HQ78.out); obtain ⟨g, cg, e5, hgb, hgl, hgn, hgm, hcell, hfz⟩ := own_at hv8 (by omega); subst e5; have q0 := (HQ78.out.below.block _ hs0).trans HR0.out; have k3 : w8.cell? ⟨w.heap.size, 3, none⟩ = some (.slice (some ⟨b1, o1, none⟩) n c) := (by rw [cell_of_row _ _ _ _ _ _ q0]; rfl); have f3 : w8.frozen? ⟨w.heap.size, 3, none⟩ = false := frozen_of_row _ _ _ _ _ q0; have q2 := (HQ78.out.below.block _ hs2).trans HR2.out; have d0 : w8.cell? ⟨g2, 0, none⟩ = some (.int .i64 x') := (by rw [cell_of_row _ _ _ _ _ _ q2]; rfl); have hcA := hcell (j * 2) _ (flatP0 HX.out); have hcB := hcell (j * 2 + 1) _ (flatP1 HX.out); have hfA := hfz (j * 2); have hfB := hfz (j * 2 + 1); have hg01 : g ≠ w.heap.size := (by omega); have hg02 : g ≠ g2 := (by omega); have hg03 : g ≠ w.heap.size + 1 := (by omega); clear hv8 hq8 hcell hfz q0 q2))
  clear HSL
  obtain ⟨w9, hw9⟩ : ∃ w9, (((w8.setCell ⟨w.heap.size, 3, none⟩ (.slice (some ⟨g, 0, none⟩) n cg)).setCell ⟨g, j * 2, none⟩ (.int .i64 x')).setCell ⟨g, j * 2 + 1, none⟩ (.int .i64 z)) = w9 := ⟨_, rfl⟩
  rw [hw9]
  have hw9s : w9.heap.size = w8.heap.size := by rw [← hw9]; simp [World.setCell]
  have hO9 : w9.ownsRow w7.heap.size 88 2 (.slice (some ⟨g, 0, none⟩) n cg) n ((bl.set j (x', z)).flatMap encP) := by
    rw [← hw9, ← flat_setP bl j x' z y' HX.out]
    exact own_set (own_set (own1 HV8.out hs0) _ _) _ _
  have q0 : w9.heap[w.heap.size]? = some (.cells #[.int .i64 m0, .int .i64 m1, .int .i64 m2, .slice (some ⟨g, 0, none⟩) n cg, .slice B k d, .int .i64 m5, .int .i64 m6, .int .i64 (m7 + 1), .int .i64 fl] MT (0, 0)) := by
    rw [← hw9]
    exact (heap_setCell_other _ _ _ _ (by show w.heap.size ≠ g; omega)).trans ((heap_setCell_other _ _ _ _ (by show w.heap.size ≠ g; omega)).trans (heap_setCell_same w8 w.heap.size 3 _ _ _ ((HQ78.out.below.block _ hs0).trans HR0.out)))
  have q1 : w9.heap[w.heap.size + 1]? = some (.cells #[.int .i64 0, .int .i64 0, .int .i64 0, .slice none 0 0, .slice none 0 0, .int .i64 0, .int .i64 0, .int .i64 0, .int .i64 0] MT (0, 0)) := by
    rw [← hw9]
    exact (heap_setCell_other _ _ _ _ (by show w.heap.size + 1 ≠ g; omega)).trans ((heap_setCell_other _ _ _ _ (by show w.heap.size + 1 ≠ g; omega)).trans (((heap_setCell_other _ _ _ _ (by simp)).trans ((HQ78.out.below.block _ hs1).trans HR1.out))))
  have q2 : w9.heap[g2]? = some (.cells #[.int .i64 x', .int .i64 y'] 88 (0, 0)) := by
    rw [← hw9]
    exact (heap_setCell_other _ _ _ _ (by show g2 ≠ g; omega)).trans ((heap_setCell_other _ _ _ _ (by show g2 ≠ g; omega)).trans (((heap_setCell_other _ _ _ _ (by show g2 ≠ w.heap.size; omega)).trans ((HQ78.out.below.block _ hs2).trans HR2.out))))
  have hQ9 : Q w w9 := by
    rw [← hw9]
    exact ((HQ8.out.set (p := ⟨w.heap.size, 3, none⟩) (Nat.le_refl _) _).set (p := ⟨g, j * 2, none⟩) (by show w.heap.size ≤ g; omega) _).set (p := ⟨g, j * 2 + 1, none⟩) (by show w.heap.size ≤ g; omega) _
  have hs78 := HQ78.out.size
  have HRV : RmR w9 ⟨some ⟨g, 0, none⟩, n, cg, B, k, d, ⟨m0, m1, m2, bl.set j (x', z), ys,  m5, m6, m7 + 1, fl⟩⟩ := ⟨Sl.own hO9 (fun _ => rfl) (by decide), HRM.out.y.up hQ9, fun h => (by cases h), HRM.out.yn, TyA.own hO9, HRM.out.tb.up hQ9⟩
  have HFR5 : Fr w7.heap.size ⟨some ⟨b1, o1, none⟩, n, c, B, k, d, ⟨m0, m1, m2, bl, ys, m5, m6, m7 + 1, fl⟩⟩ ⟨some ⟨g, 0, none⟩, n, cg, B, k, d, ⟨m0, m1, m2, bl.set j (x', z), ys,  m5, m6, m7 + 1, fl⟩⟩ := ⟨fr_own hO9, .inl ⟨rfl, rfl⟩⟩
  have HRC0 := hide (HRC.out w (Q.refl w))
  have HRV9 := hide HRV
  have HFR9 := hide HFR5
  have HR0 := hide q0
  have HR1 := hide q1
  have HR2 := hide q2
  have HQ := hide hQ9
  have hs79 : w7.heap.size ≤ w9.heap.size := by omega
  have hb1w : w.heap.size + 1 < w7.heap.size := hs1
  have hg27 : g2 < w7.heap.size := hs2
  have hs0 : w.heap.size < w9.heap.size := by omega
  have hs1 : w.heap.size + 1 < w9.heap.size := by omega
  have hs2 : g2 < w9.heap.size := by omega
  clear hw9 hw9s hO9 q0 q1 q2 hQ9 HRV HFR5 HV8 HQ78 HQ8 hcA hcB hfA hfB hgb hgl hgn hgm k3 f3 HLT
  obtain ⟨X, hX⟩ : ∃ X, X = rmX (w.heap.size + 1) (peakR M5) ⟨some ⟨b1, o1, none⟩, n, c, B, k, d, ⟨m0, m1, m2, bl, ys, m5, m6, m7 + 1, fl⟩⟩ w7.heap.size := ⟨_, rfl⟩
  have hXq : ∀ w w', X w → Q w w' → X w' := by rw [hX]; exact rmX_q _ _ _ _
  have HXD := hide hX
  clear hX
  refine Ri.madeT (T := Ri.TX (w.heap.size + 1) X) (fun _ => Ri.TX.refl _ _ _) (fun _ _ _ h k => Ri.TX.trans hXq h k) (Ri.phi [Ri.isV (.agg #[.int .i64 m0, .int .i64 m1, .int .i64 m2, .slice (some ⟨g, 0, none⟩) n cg, .slice B k d, .int .i64 m5, .int .i64 m6, .int .i64 (m7 + 1), .int .i64 fl]), Ri.isV (.pointer (some ⟨g2, 0, none⟩)), Ri.isV (.int .i64 x'), Ri.isV (.int .i64 z), Ri.isV (.pointer (some ⟨g2, 1, none⟩)), Ri.isV (.int .i64 y'), Ri.isV ((.int .i64 (min z y'))), Ri.isV ((.int .i64 (x' + min z y'))), Ri.isV (.pointer (some ⟨g2, 0, none⟩)), Ri.isV (.int .i64 x'), Ri.isV (.int .i64 z), Ri.isV ((.int .i64 (x' + z))), rmV M5 ⟨some ⟨b1, o1, none⟩, n, c, B, k, d, ⟨m0, m1, m2, bl, ys, m5, m6, m7 + 1, fl⟩⟩ w7.heap.size, rmV (peakR M5) ⟨some ⟨b1, o1, none⟩, n, c, B, k, d, ⟨m0, m1, m2, bl, ys, m5, m6, m7 + 1, fl⟩⟩ w7.heap.size, Ri.isV (.pointer (some ⟨g2, 0, none⟩)), Ri.isV (.int .i64 x'), (fun _ W => X W), Ri.isV (.int .i64 x'), Ri.isV (.int .i64 0)]) (by kernel_rfl) (by kernel_rfl) (fun i => Ri.phi_monoT ?_ i) ?_ ?_
  · exact ⟨Ri.mono_isT _, Ri.mono_isT _, Ri.mono_isT _, Ri.mono_isT _, Ri.mono_isT _, Ri.mono_isT _, Ri.mono_isT _, Ri.mono_isT _, Ri.mono_isT _, Ri.mono_isT _, Ri.mono_isT _, Ri.mono_isT _, (fun v w1 w2 h _ ht => rmV_t (M2 := peakR M5) HRC0.out (by omega) hb1w h (by rw [← HXD.out]; exact ht)), (fun v w1 w2 h _ ht => rmV_t (M2 := peakR M5) HRC0.out (by omega) hb1w h (by rw [← HXD.out]; exact ht)), Ri.mono_isT _, Ri.mono_isT _, (fun v w1 w2 h h0 ht => Ri.TX.keepX hXq h ht (Nat.lt_of_lt_of_le hs1 h0.size)), Ri.mono_isT _, Ri.mono_isT _, trivial⟩
  · refine Ri.All.cons ?_ (Ri.All.cons ?_ (Ri.All.cons ?_ (Ri.All.cons ?_ (Ri.All.cons ?_ (Ri.All.cons ?_ (Ri.All.cons ?_ (Ri.All.cons ?_ (Ri.All.cons ?_ (Ri.All.cons ?_ (Ri.All.cons ?_ (Ri.All.cons ?_ (Ri.All.cons ?_ (Ri.All.cons ?_ (Ri.All.cons ?_ (Ri.All.cons ?_ (Ri.All.cons ?_ (Ri.All.cons ?_ (Ri.All.cons ?_ (Ri.All.nil)))))))))))))))))))
    · refine Ri.StepT.q (fun _ _ _ h => Ri.TX.of_q h) ⟨rfl, fun f W hq hf A hA hB hO => ?_⟩
      have e1 := (hB 3 (by kernel_rfl)).trans (show _ = .pointer (some ⟨w.heap.size, 0, none⟩) by simp [Act.eval])
      exact Ri.wp_value _ (Ri.run_ldrow rfl e1 ((hq.block _ hs0 (by omega)).trans HR0.out) Tryz.underlying32 rfl (by kernel_rfl)) rfl
    · refine Ri.StepT.q (fun _ _ _ h => Ri.TX.of_q h) ⟨rfl, fun f W hq hf A hA hB hO => ?_⟩
      have e1 := (hB 11 (by kernel_rfl)).trans (show _ = .pointer (some ⟨g2, 0, none⟩) by simp [Act.eval])
      exact Ri.wp_value _ (Ri.run_idxA (k := 0) (sz := 1) rfl e1 (show A.eval (.const (.int .i64 0)) = _ from rfl) Tryz.underlying88 (by kernel_rfl) (by decide)) rfl
    · refine Ri.StepT.q (fun _ _ _ h => Ri.TX.of_q h) ⟨rfl, fun f W hq hf A hA hB hO => ?_⟩
      have e1 := (hA 79 1 (by kernel_rfl) (by simp)).trans (show f 1 = _ from hf 1 (by kernel_rfl))
      exact Ri.wp_value _ (Ri.run_ld1 rfl e1 Tryz.underlying3 rfl ((cell_of_row W g2 0 _ _ _ ((hq.block g2 hs2 (by omega)).trans HR2.out)).trans rfl)) rfl
    · refine Ri.StepT.q (fun _ _ _ h => Ri.TX.of_q h) ⟨rfl, fun f W hq hf A hA hB hO => ?_⟩
      have e1 := (hB 2 (by kernel_rfl)).trans (show _ = .int .i64 z by simp [Act.eval])
      exact Ri.wp_value _ (Ri.run_mv rfl e1) rfl
    · refine Ri.StepT.q (fun _ _ _ h => Ri.TX.of_q h) ⟨rfl, fun f W hq hf A hA hB hO => ?_⟩
      have e1 := (hB 11 (by kernel_rfl)).trans (show _ = .pointer (some ⟨g2, 0, none⟩) by simp [Act.eval])
      exact Ri.wp_value _ (Ri.run_idxA (k := 1) (sz := 1) rfl e1 (show A.eval (.const (.int .i64 1)) = _ from rfl) Tryz.underlying88 (by kernel_rfl) (by decide)) rfl
    · refine Ri.StepT.q (fun _ _ _ h => Ri.TX.of_q h) ⟨rfl, fun f W hq hf A hA hB hO => ?_⟩
      have e1 := (hA 82 4 (by kernel_rfl) (by simp)).trans (show f 4 = _ from hf 4 (by kernel_rfl))
      exact Ri.wp_value _ (Ri.run_ld1 rfl e1 Tryz.underlying3 rfl ((cell_of_row W g2 1 _ _ _ ((hq.block g2 hs2 (by omega)).trans HR2.out)).trans rfl)) rfl
    · refine Ri.StepT.q (fun _ _ _ h => Ri.TX.of_q h) ⟨rfl, fun f W hq hf A hA hB hO => ?_⟩
      have e1 := (hA 81 3 (by kernel_rfl) (by simp)).trans (show f 3 = _ from hf 3 (by kernel_rfl))
      have e2 := (hA 83 5 (by kernel_rfl) (by simp)).trans (show f 5 = _ from hf 5 (by kernel_rfl))
      exact Ri.wp_value _ (Ri.run_mini rfl e1 e2) rfl
    · refine Ri.StepT.q (fun _ _ _ h => Ri.TX.of_q h) ⟨rfl, fun f W hq hf A hA hB hO => ?_⟩
      have e1 := (hA 80 2 (by kernel_rfl) (by simp)).trans (show f 2 = _ from hf 2 (by kernel_rfl))
      have e2 := (hA 84 6 (by kernel_rfl) (by simp)).trans (show f 6 = _ from hf 6 (by kernel_rfl))
      exact Ri.wp_value _ (Ri.run_add rfl e1 e2 Tryz.underlying3 (by omega) (by omega)) rfl
    · refine Ri.StepT.q (fun _ _ _ h => Ri.TX.of_q h) ⟨rfl, fun f W hq hf A hA hB hO => ?_⟩
      have e1 := (hB 11 (by kernel_rfl)).trans (show _ = .pointer (some ⟨g2, 0, none⟩) by simp [Act.eval])
      exact Ri.wp_value _ (Ri.run_idxA (k := 0) (sz := 1) rfl e1 (show A.eval (.const (.int .i64 0)) = _ from rfl) Tryz.underlying88 (by kernel_rfl) (by decide)) rfl
    · refine Ri.StepT.q (fun _ _ _ h => Ri.TX.of_q h) ⟨rfl, fun f W hq hf A hA hB hO => ?_⟩
      have e1 := (hA 86 8 (by kernel_rfl) (by simp)).trans (show f 8 = _ from hf 8 (by kernel_rfl))
      exact Ri.wp_value _ (Ri.run_ld1 rfl e1 Tryz.underlying3 rfl ((cell_of_row W g2 0 _ _ _ ((hq.block g2 hs2 (by omega)).trans HR2.out)).trans rfl)) rfl
    · refine Ri.StepT.q (fun _ _ _ h => Ri.TX.of_q h) ⟨rfl, fun f W hq hf A hA hB hO => ?_⟩
      have e1 := (hB 2 (by kernel_rfl)).trans (show _ = .int .i64 z by simp [Act.eval])
      exact Ri.wp_value _ (Ri.run_mv rfl e1) rfl
    · refine Ri.StepT.q (fun _ _ _ h => Ri.TX.of_q h) ⟨rfl, fun f W hq hf A hA hB hO => ?_⟩
      have e1 := (hA 87 9 (by kernel_rfl) (by simp)).trans (show f 9 = _ from hf 9 (by kernel_rfl))
      have e2 := (hA 88 10 (by kernel_rfl) (by simp)).trans (show f 10 = _ from hf 10 (by kernel_rfl))
      exact Ri.wp_value _ (Ri.run_add rfl e1 e2 Tryz.underlying3 (by omega) (by omega)) rfl
    · refine Ri.StepT.q (fun _ _ _ h => Ri.TX.of_q h) ⟨rfl, fun f W hq hf A hA hB hO => ?_⟩
      have hRW : RmR W ⟨some ⟨g, 0, none⟩, n, cg, B, k, d, ⟨m0, m1, m2, bl.set j (x', z), ys,  m5, m6, m7 + 1, fl⟩⟩ := RmR.keep HRC0.out HRV9.out HFR9.out (b := w.heap.size + 1) (by omega) hb1w (fun g hg hne => hq.block g hg hne) hq.size
      have e1 := (hA 78 0 (by kernel_rfl) (by simp)).trans (show f 0 = _ from hf 0 (by kernel_rfl))
      have e2 := (hA 85 7 (by kernel_rfl) (by simp)).trans (show f 7 = _ from hf 7 (by kernel_rfl))
      have e3 := (hA 89 11 (by kernel_rfl) (by simp)).trans (show f 11 = _ from hf 11 (by kernel_rfl))
      refine Ri.wp_call #[(⟨some ⟨g, 0, none⟩, n, cg, B, k, d, ⟨m0, m1, m2, bl.set j (x', z), ys,  m5, m6, m7 + 1, fl⟩⟩ : RV).val, .int .i64 (fN : Int), .int .i64 (tN : Int), .int .i64 (-1)] rfl ?_ Tryz.func56 (by kernel_rfl) (by kernel_rfl) ((HST.out W _ rfl hRW).mono ?_)
      · simp only [List.map_toArray, List.map_cons, List.map_nil, e1, e2, e3, HF5.out, HT5.out]
        rfl
      · rintro e w3 ⟨v6, rfl, hm, hR, hF, hq3⟩
        exact ⟨_, rfl, hq3, v6, rfl, hm, hR, Fr.trans HFR9.out hF (Nat.le_trans hs79 hq.size)⟩
    · refine Ri.StepT.q (fun _ _ _ h => Ri.TX.of_q h) ⟨rfl, fun f W hq hf A hA hB hO => ?_⟩
      obtain ⟨v6, hv, hm, hR, hF⟩ : rmV M5 ⟨some ⟨b1, o1, none⟩, n, c, B, k, d, ⟨m0, m1, m2, bl, ys, m5, m6, m7 + 1, fl⟩⟩ w7.heap.size (f 12) W := hf 12 (by kernel_rfl)
      have e1 := (hA 90 12 (by kernel_rfl) (by simp)).trans hv
      refine Ri.wp_call #[v6.val] rfl (by simp [e1]) Tryz.func55 (by kernel_rfl) (by kernel_rfl) ((HPK.out W v6 hm hR).mono ?_)
      rintro e w3 ⟨rfl, hq3⟩
      exact ⟨_, rfl, hq3, v6.withM (peakR v6.m), rfl, by rw [← hm]; rfl, (hR.up hq3).withM rfl rfl, hF.withM rfl rfl⟩
    · refine Ri.StepT.q (fun _ _ _ h => Ri.TX.of_q h) ⟨rfl, fun f W hq hf A hA hB hO => ?_⟩
      have e1 := (hB 11 (by kernel_rfl)).trans (show _ = .pointer (some ⟨g2, 0, none⟩) by simp [Act.eval])
      exact Ri.wp_value _ (Ri.run_idxA (k := 0) (sz := 1) rfl e1 (show A.eval (.const (.int .i64 0)) = _ from rfl) Tryz.underlying88 (by kernel_rfl) (by decide)) rfl
    · refine Ri.StepT.q (fun _ _ _ h => Ri.TX.of_q h) ⟨rfl, fun f W hq hf A hA hB hO => ?_⟩
      have e1 := (hA 92 14 (by kernel_rfl) (by simp)).trans (show f 14 = _ from hf 14 (by kernel_rfl))
      exact Ri.wp_value _ (Ri.run_ld1 rfl e1 Tryz.underlying3 rfl ((cell_of_row W g2 0 _ _ _ ((hq.block g2 hs2 (by omega)).trans HR2.out)).trans rfl)) rfl
    · refine ⟨rfl, fun f W hq hf A hA hB hO => ?_⟩
      obtain ⟨v6, hv, hm, hR, hF⟩ : rmV (peakR M5) ⟨some ⟨b1, o1, none⟩, n, c, B, k, d, ⟨m0, m1, m2, bl, ys, m5, m6, m7 + 1, fl⟩⟩ w7.heap.size (f 13) W := hf 13 (by kernel_rfl)
      have e1 := (hB 6 (by kernel_rfl)).trans (show _ = .pointer (some ⟨w.heap.size + 1, 0, none⟩) by simp [Act.eval])
      have e2 := (hA 91 13 (by kernel_rfl) (by simp)).trans hv
      obtain ⟨old, hold, hos⟩ : ∃ old, W.heap[w.heap.size + 1]? = some (.cells old MT (0, 0)) ∧ old.size = 9 := by
        rcases hq.at_ hs1 with e | e
        · exact ⟨_, e.trans HR1.out, rfl⟩
        · rw [HXD.out] at e
          obtain ⟨v', e, -⟩ := e
          exact ⟨_, e, rfl⟩
      have hX2 : X (W.setRow (w.heap.size + 1) v6.cells) := by
        rw [HXD.out]
        exact ⟨v6, setRow_heap _ _ _ _ _ _ hold, hm, RmR.keep HRC0.out hR hF (by omega) hb1w (fun g _ hne => setRow_other _ _ _ _ hne) (by simp), hF⟩
      exact Ri.wp_row rfl e1 e2 rfl hold (by kernel_rfl) hos (by simp [RV.cells, Value.oneCell']) (Ri.TX.setRow hX2) hX2
    · refine Ri.StepT.q (fun _ _ _ h => Ri.TX.of_q h) ⟨rfl, fun f W hq hf A hA hB hO => ?_⟩
      have e1 := (hA 93 15 (by kernel_rfl) (by simp)).trans (show f 15 = _ from hf 15 (by kernel_rfl))
      exact Ri.wp_value _ (Ri.run_asg rfl e1) rfl
    · refine Ri.StepT.q (fun _ _ _ h => Ri.TX.of_q h) ⟨rfl, fun f W hq hf A hA hB hO => ?_⟩
      have e1 : A.eval (.const (.int .i64 0)) = .int .i64 0 := rfl
      exact Ri.wp_value _ (Ri.run_asg rfl e1) rfl
  · intro f W hq hf
    have hX2 : X W := hf 16 (by simp)
    have e17 : f 17 = .int .i64 x' := hf 17 (by simp)
    have e18 : f 18 = .int .i64 0 := hf 18 (by simp)
    rw [HXD.out] at hX2
    obtain ⟨v', hg, hm, hR, hF⟩ := hX2
    have hqw : Q w W := Ri.TX.q_of (w0 := w) (w := w9) HQ.out ⟨hq.os, hq.tape, hq.output, hq.size, hq.block, hq.at_⟩ (by omega)
    simp only [Ri.acts, Act.put, List.setIfInBounds_toArray, List.set_cons_zero, List.set_cons_succ, Nat.zero_add, Nat.reduceAdd]
    rw [e17, e18]
    clear hf hq
    go_wp2_with fail
    refine bodyPost_ret (v := .tuple #[.agg v'.cells, .int .i64 x', .int .i64 0]) (ret_m3 (p := 6) (u := 7) (x := 8) rfl rfl (by simp) (by simp) (by simp) hg) rfl ?_
    exact ⟨v', rfl, hm, hR, Fr.trans (v1 := ⟨some ⟨b1, o1, none⟩, n, c, B, k, d, ⟨m0, m1, m2, bl, ys, m5, m6, m7 + 1, fl⟩⟩) ⟨.inl ⟨rfl, rfl⟩, .inl ⟨rfl, rfl⟩⟩ hF (by omega), hqw⟩

end Go.Proofs.YtegpkcbmgjoicaaGreat
