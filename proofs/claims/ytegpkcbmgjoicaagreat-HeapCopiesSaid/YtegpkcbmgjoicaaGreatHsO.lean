/- The reference's Resize: a block that moves; Resize whole. Conditions: its slices read so, its numbers are near. -/
import Derived.Test.YtegpkcbmgjoicaaGreatHsN
namespace Go.Proofs.YtegpkcbmgjoicaaGreat
open Go.RowKit HP
set_option linter.unusedVariables false
noncomputable def moveMR (c : RM) (x y z : Int) : Option Int → RM × Int × Int
  | none => (c, 0, 3)
  | some t => (peakR (goneR (movedR c t x y z) (idxI (fun p => p.1 == x) (movedR c t x y z).bl).toNat x), t, 0)
theorem Ri.run_addN {P : Program} {o : Oper} {A : Act} {w : World} {x y : Operand} {t t' : TypeId} {p u : Nat} (ho : o.op = .binOp .add t x y t') (hx : A.eval x = .int .i64 (p : Int)) (hy : A.eval y = .int .i64 (u : Int)) (hu : P.underlying t = some (.int .i64)) (h1 : p + u ≤ 1000000) : (execOp A.eval o).run P w = .ok (.value (.int .i64 ((p + u : Nat) : Int))) w := by
  rw [Int.natCast_add]
  exact Ri.run_add ho hx hy hu (by omega) (by omega)
theorem RmN.ys {m : RM} (N : RmN m) {l : List Int} (h : l.length = m.ys.length) : RmN { m with ys := l } :=
  ⟨N.sz, N.pc, N.n, h.trans N.k, N.all, N.tp, N.pk, N.cl, N.fl⟩
theorem RmN.gone {m : RM} (N : RmN m) (k : Nat) {x y : Int} (h : m.bl[k]? = some (x, y)) : RmN (goneR m k x) := by
  have h2 := N.all _ (List.mem_of_getElem? h)
  dsimp only at h2
  refine ⟨N.sz, N.pc, Nat.le_trans (List.length_eraseIdx_le _ _) N.n, N.k, fun p hp => N.all p (List.mem_of_mem_eraseIdx hp), ?_, N.pk, N.cl, N.fl⟩
  show 0 ≤ (if m.kind = 2 ∧ k + 1 = m.bl.length then x else m.top) ∧ (if m.kind = 2 ∧ k + 1 = m.bl.length then x else m.top) ≤ 4096
  have := N.tp
  have := N.sz
  split <;> omega
theorem mem_insR_old {p q : Int × Int} : ∀ {l : List (Int × Int)}, q ∈ l → q ∈ insR l p
  | r :: l, h => by
    rw [insR]
    split
    · exact List.mem_cons_of_mem _ h
    · rcases List.mem_cons.1 h with h | h
      · rw [h]; exact List.mem_cons_self ..
      · exact List.mem_cons_of_mem _ (mem_insR_old h)
theorem idxI_mem {xs : List (Int × Int)} {x y : Int} (h : (x, y) ∈ xs) : ∃ (k : Nat) (yG : Int), idxI (fun p => p.1 == x) xs = (k : Int) ∧ xs[k]? = some (x, yG) := by
  rcases idxI_cases (fun p : Int × Int => p.1 == x) xs with e | ⟨k, ⟨x2, yG⟩, e, hk⟩
  · unfold idxI at e
    cases hf : xs.findIdx? (fun p : Int × Int => p.1 == x) with
    | none =>
      have := List.findIdx?_eq_none_iff.1 hf _ h
      simp at this
    | some k => rw [hf] at e; simp at e
  · have := idxI_hit e hk
    have : x2 = x := by simpa using this
    subst this
    exact ⟨k, yG, e, hk⟩
set_option maxRecDepth 100000 in
set_option maxHeartbeats 8000000 in
theorem rResize_move (v : RV) (at_ z : Int) (j : Nat) (x y : Int) (w : World) (H : RmR w v) (N : RmN v.m) (hz : (decide (1 ≤ z) && decide (z ≤ 4096)) = true) (hx : v.m.bl[j]? = some (x, y)) (hi : idxI (fun p => p.1 == at_) v.m.bl = (j : Int)) (hf : (countR v.m).2 = false) (hcl : v.m.calls < 1000000) (hst : staysR (countR v.m).1 j x y z = false) (hkd : 0 ≤ v.m.kind ∧ v.m.kind ≤ 3) (hpc : v.m.kind = 3 → 1 ≤ v.m.piece) (hl64 : v.m.bl.length ≤ 64) :
    Calls Tryz.prog 25 #[v.val, .int .i64 at_, .int .i64 z] w (MPost2 (moveMR (countR v.m).1 x y z (roomR (countR v.m).1 z (alignOfM x))) w v) := by
  have HWI : Hid (∀ W, Calls Tryz.prog 15 #[.int .i64 z, .int .i64 1, .int .i64 4096] W fun e w' => e = .returned (.bool true) ∧ W = w') := fun W => by
    have := within_any z 1 4096 W
    rw [hz] at this
    exact this
  have HBG := hide fun (W : World) (h : Q w W) => begins_any v at_ W (H.up h) N
  rw [hi] at HBG
  have HCN := hide fun (W : World) => rCounted_any v W N
  obtain ⟨fl, hfl⟩ : ∃ fl, fl = (countR v.m).1.fail := ⟨_, rfl⟩
  have hcm : (countR v.m).1 = { v.m with calls := v.m.calls + 1, fail := fl } := by rw [hfl]; rfl
  rw [hf, hcm] at HCN
  have HRM := hide H
  have HRN := hide N
  have h7 := N.cl
  have hnl := H.b.len
  have hnl2 := N.n
  have hsl := H.b.pr j (by have := (List.getElem?_eq_some_iff.1 hx).1; omega)
  have N1 := N.count hcl
  have hz12 : 1 ≤ z ∧ z ≤ 4096 := by simpa using hz
  have HSY : Hid (∀ W, Q w W → Calls Tryz.prog 60 #[(v.withM { v.m with calls := v.m.calls + 1, fail := fl }).val, .int .i64 (j : Int), .int .i64 z] W fun e w' => e = .returned (.bool false) ∧ Q W w') := fun W h => by
    have h1 := rStays_any (v.withM (countR v.m).1) j x y z W ((H.up h).withM rfl rfl) N1 hx hz12.2 (by omega)
    rw [hcm] at h1
    rw [hcm] at hst
    rw [show staysR (v.withM { v.m with calls := v.m.calls + 1, fail := fl }).m j x y z = false from hst] at h1
    exact h1
  have hx0 : 0 ≤ x ∧ 0 ≤ y ∧ x + y ≤ v.m.size := N.all _ (List.mem_of_getElem? hx)
  have hsz12 := N.sz
  have hyk := N.k
  have hyl := H.y.len
  have hj100 : j < v.m.bl.length := (List.getElem?_eq_some_iff.1 hx).1
  have HRC : Hid (∀ W, Q w W → RmR W (v.withM { v.m with calls := v.m.calls + 1, fail := fl })) := fun W h => (H.up h).withM rfl rfl
  rw [hcm] at N1
  rw [hcm]
  have HAL : Hid (∀ W, Calls Tryz.prog 61 #[.int .i64 x] W fun e w' => e = .returned (.int .i64 (alignOfM x)) ∧ W = w') := fun W => rAligned_any x W hx0.1
  have HRO : Hid (∀ W, Q w W → Calls Tryz.prog 54 #[(v.withM { v.m with calls := v.m.calls + 1, fail := fl }).val, .int .i64 z, .int .i64 (alignOfM x)] W (RoomPost (roomR { v.m with calls := v.m.calls + 1, fail := fl } z (alignOfM x)) W)) := fun W h =>
    rRoom_any (v.withM { v.m with calls := v.m.calls + 1, fail := fl }) z (alignOfM x) W (HRC.out W h) N1 hkd hpc hz12.1 hz12.2 (alignOfM_pos x).1 (alignOfM_pos x).2
  have HIN : Hid (∀ a, roomR { v.m with calls := v.m.calls + 1, fail := fl } z (alignOfM x) = some a → 0 ≤ a ∧ a + z ≤ v.m.size) := fun a h3 => roomR_in N1 hpc hz12.1 (alignOfM_pos x).1 h3
  have HPU : Hid (∀ W (aN : Nat), Q w W → (aN : Int) + z ≤ v.m.size → Calls Tryz.prog 57 #[(v.withM { v.m with calls := v.m.calls + 1, fail := fl }).val, .int .i64 (aN : Int), .int .i64 z] W (isRm (putR { v.m with calls := v.m.calls + 1, fail := fl } (aN : Int) z) W (v.withM { v.m with calls := v.m.calls + 1, fail := fl }))) := fun W aN h h3 =>
    rPut_fr (v.withM { v.m with calls := v.m.calls + 1, fail := fl }) aN z W (HRC.out W h) N1 (by omega) (by omega) (by omega) (by omega)
  have NP : ∀ aN : Nat, (aN : Int) + z ≤ v.m.size → RmN (putR { v.m with calls := v.m.calls + 1, fail := fl } (aN : Int) z) := fun aN h => N1.put (by show v.m.bl.length ≤ 99; omega) (by omega) (by omega) h
  obtain ⟨PS, hPS⟩ : ∃ PS : Nat → RM, PS = fun (aN : Nat) => setR (putR { v.m with calls := v.m.calls + 1, fail := fl } (aN : Int) z) (aN : Int).toNat ((aN : Int) + z).toNat (-1) := ⟨_, rfl⟩
  have hPSn : ∀ aN : Nat, (aN : Int) + z ≤ v.m.size → RmN (PS aN) := fun aN h => by rw [hPS]; exact (NP aN h).set _ _ _
  have HST : Hid (∀ W v2 (aN : Nat), v2.m = putR { v.m with calls := v.m.calls + 1, fail := fl } (aN : Int) z → RmR W v2 → (aN : Int) + z ≤ v.m.size → Calls Tryz.prog 56 #[v2.val, .int .i64 (aN : Int), .int .i64 ((aN : Int) + z), .int .i64 (-1)] W fun e w' => ∃ v', e = .returned v'.val ∧ v'.m = PS aN ∧ RmR w' v' ∧ v'.m.bl = v2.m.bl ∧ v'.A = v2.A ∧ v'.n = v2.n ∧ v'.c = v2.c ∧ w'.ownsRow W.heap.size 3 1 (.slice v'.B v'.k v'.d) v'.k (v'.m.ys.flatMap encN) ∧ 0 < v'.k ∧ v'.k = v.k ∧ Q W w') := fun W v2 aN e h2 h4 => by
    obtain ⟨iN, hiN⟩ : ∃ i : Nat, (aN : Int) + z = (i : Int) := ⟨((aN : Int) + z).toNat, by omega⟩
    have N2 : RmN v2.m := by rw [e]; exact NP aN h4
    have hkG : v2.k = v.k := by
      have h5 := h2.y.len
      have h6 := N2.k
      rw [show v2.m.size = v.m.size by rw [e]; rfl] at h6
      omega
    have h7 := rSet_any v2 aN iN (-1) W h2 N2 (by omega) (by omega) (by omega) (by omega)
    rw [hPS]
    dsimp only
    rw [hiN, Int.toNat_natCast, Int.toNat_natCast, ← e]
    refine h7.mono ?_
    rintro e w' ⟨v', h1, h2, h3, hA, hn, hc, hO, hkk, h4⟩
    exact ⟨v', h1, h2, h3, by rw [h2]; rfl, hA, hn, hc, hO, by omega, by omega, h4⟩
  obtain ⟨MV, hMV⟩ : ∃ MV : Nat → RM, MV = fun (aN : Nat) => movedR { v.m with calls := v.m.calls + 1, fail := fl } (aN : Int) x y z := ⟨_, rfl⟩
  have HMV : Hid (∀ aN : Nat, MV aN = { PS aN with ys := copyN (PS aN).ys v.m.ys aN x.toNat (min z y).toNat }) := fun aN => by rw [hMV, hPS]; rfl
  have hMVn : ∀ aN : Nat, (aN : Int) + z ≤ v.m.size → RmN (MV aN) := fun aN h => by rw [HMV.out]; exact (hPSn aN h).ys (copyN_length _ _ _ _ _)
  have HIX : Hid (∀ aN : Nat, ∃ (kG : Nat) (yG : Int), idxI (fun p => p.1 == x) (MV aN).bl = (kG : Int) ∧ (MV aN).bl[kG]? = some (x, yG)) := fun aN => by
    have hb : (MV aN).bl = insR v.m.bl ((aN : Int), z) := by rw [HMV.out, hPS]; rfl
    rw [hb]
    exact idxI_mem (mem_insR_old (List.mem_of_getElem? hx))
  have HBGA : Hid (∀ W v8 (aN kG : Nat), v8.m = MV aN → idxI (fun p => p.1 == x) (MV aN).bl = (kG : Int) → RmR W v8 → (aN : Int) + z ≤ v.m.size → Calls Tryz.prog 58 #[v8.val, .int .i64 x] W fun e w' => e = .returned (.int .i64 (kG : Int)) ∧ Q W w') := fun W v8 aN kG e e2 h2 h4 => by
    have := begins_any v8 x W h2 (by rw [e]; exact hMVn aN h4)
    rw [e, e2] at this
    exact this
  have HGOA : Hid (∀ W v8 (aN kG : Nat) (yG : Int), v8.m = MV aN → (MV aN).bl[kG]? = some (x, yG) → RmR W v8 → (aN : Int) + z ≤ v.m.size → Calls Tryz.prog 59 #[v8.val, .int .i64 (kG : Int)] W (isRm (goneR (MV aN) kG x) W v8)) := fun W v8 aN kG yG e e2 h2 h4 => by
    have := rGone_fr v8 kG x yG W h2 (by rw [e]; exact hMVn aN h4) (by rw [e]; exact e2)
    rw [e] at this
    exact this
  have HPKA : Hid (∀ W v9 (aN kG : Nat) (yG : Int), v9.m = goneR (MV aN) kG x → (MV aN).bl[kG]? = some (x, yG) → RmR W v9 → (aN : Int) + z ≤ v.m.size → Calls Tryz.prog 55 #[v9.val] W fun e w' => e = .returned (v9.withM (peakR v9.m)).val ∧ Q W w') := fun W v9 aN kG yG e e2 h2 h4 => rPeaked_any v9 W h2 (by rw [e]; exact (hMVn aN h4).gone kG e2)
  obtain ⟨RR, hRR⟩ : ∃ RR : Option Int → RM × Int × Int, RR = moveMR { v.m with calls := v.m.calls + 1, fail := fl } x y z := ⟨_, rfl⟩
  have HRR : Hid (∀ (aN kG : Nat), idxI (fun p => p.1 == x) (MV aN).bl = (kG : Int) → RR (some (aN : Int)) = (peakR (goneR (MV aN) kG x), (aN : Int), 0)) := fun aN kG h => by
    rw [hRR]
    unfold moveMR
    rw [hMV] at h ⊢
    dsimp only at h ⊢
    rw [h, Int.toNat_natCast]
  have HRO0 : Hid (RR none = ({ v.m with calls := v.m.calls + 1, fail := fl }, 0, 3)) := hide (by rw [hRR]; rfl)
  rw [← hRR]
  obtain ⟨ro, hro⟩ : ∃ ro, ro = roomR { v.m with calls := v.m.calls + 1, fail := fl } z (alignOfM x) := ⟨_, rfl⟩
  rw [← hro] at HRO HIN ⊢
  obtain ⟨xN, hxN⟩ : ∃ xN : Nat, x = (xN : Int) := ⟨x.toNat, by omega⟩
  have HXN := hide hxN
  clear hz H N N1 NP hPS hPSn hMV hMVn hi hf hfl hcm hst hkd hpc hl64 hRR hro hxN
  unfold RV.withM at HRC HPU
  unfold RV.withM RV.val RV.cells at HCN HSY
  unfold RV.val RV.cells at HBG HRO HPU ⊢
  obtain ⟨A0, n, c, B, k, d, ⟨m0, m1, m2, bl, ys, m5, m6, m7, m8⟩⟩ := v
  dsimp only at HRC HSY HRO HIN HPU HST HMV HBGA HGOA HPKA HRO0 hx hx0 hsz12 hj100 hyk hyl HBG HCN h7 hnl hnl2 hsl ⊢
  obtain ⟨h70, h71⟩ := h7
  obtain ⟨b1, o1, x', y', rfl, hb1, hx', x1, x2⟩ := hsl
  obtain ⟨hx01, hx02, hx03⟩ := hx0
  obtain ⟨hz1, hz2⟩ := hz12
  have hji : (j : Int) ≤ 100 := by omega
  have hjn : j < n := by omega
  have hjni : (j : Int) < (n : Int) := by omega
  have hx4 : x ≤ 4096 := by omega
  have hy4 : y ≤ 4096 := by omega
  have hneg : decide ((j : Int) < 0) = false := by simp
  have hd0 : decide (j < n) = true := by simpa using hjn
  obtain ⟨rfl, rfl⟩ : x' = x ∧ y' = y := by
    rw [hx] at hx'
    cases hx'
    exact ⟨rfl, rfl⟩
  have HX1 := hide x1
  have HX2 := hide x2
  have HFIT := hide (show x' + y' ≤ m1 ∧ m1 ≤ 4096 ∧ k = m1.toNat from ⟨hx03, hsz12.2, by omega⟩)
  obtain ⟨w1, hw1⟩ : ∃ w1, (w.alloc (.cells #[.int .i64 m0, .int .i64 m1, .int .i64 m2, .slice (some ⟨b1, o1, none⟩) n c, .slice B k d, .int .i64 m5, .int .i64 m6, .int .i64 m7, .int .i64 m8] MT)).alloc (.cells #[.int .i64 0, .int .i64 0, .int .i64 0, .slice none 0 0, .slice none 0 0, .int .i64 0, .int .i64 0, .int .i64 0, .int .i64 0] MT) = w1 := ⟨_, rfl⟩
  have hq1 : Q w w1 := by rw [← hw1]; exact ((Q.refl w).alloc _).alloc _
  have hs1 : w.heap.size + 1 < w1.heap.size := by rw [← hw1]; simp
  have hs0 : w.heap.size < w1.heap.size := by omega
  have q0 : w1.heap[w.heap.size]? = some (.cells #[.int .i64 m0, .int .i64 m1, .int .i64 m2, .slice (some ⟨b1, o1, none⟩) n c, .slice B k d, .int .i64 m5, .int .i64 m6, .int .i64 m7, .int .i64 m8] MT (0, 0)) := by
    rw [← hw1, ((Q.refl (w.alloc _)).alloc _).below.block _ (by simp)]
    exact heap_alloc_new w _
  have q1 : w1.heap[w.heap.size + 1]? = some (.cells #[.int .i64 0, .int .i64 0, .int .i64 0, .slice none 0 0, .slice none 0 0, .int .i64 0, .int .i64 0, .int .i64 0, .int .i64 0] MT (0, 0)) := by
    have h := heap_alloc_new (w.alloc (.cells #[.int .i64 m0, .int .i64 m1, .int .i64 m2, .slice (some ⟨b1, o1, none⟩) n c, .slice B k d, .int .i64 m5, .int .i64 m6, .int .i64 m7, .int .i64 m8] MT)) (.cells #[.int .i64 0, .int .i64 0, .int .i64 0, .slice none 0 0, .slice none 0 0, .int .i64 0, .int .i64 0, .int .i64 0, .int .i64 0] MT)
    rw [show (w.alloc (.cells #[.int .i64 m0, .int .i64 m1, .int .i64 m2, .slice (some ⟨b1, o1, none⟩) n c, .slice B k d, .int .i64 m5, .int .i64 m6, .int .i64 m7, .int .i64 m8] MT)).heap.size = w.heap.size + 1 by simp, hw1] at h
    exact h
  have HW1 := hide hw1
  have HR0 := hide q0
  have HR1 := hide q1
  have HQ1 := hide hq1
  have HBW := hide (HBG.out w1 hq1)
  obtain ⟨k0, k1, k2, k3, k4, k5, k6, k7, k8⟩ := cells9 q0
  obtain ⟨z0, z1, z2, z3, z4, z5, z6, z7, z8⟩ := cells9 q1
  obtain ⟨y0, y1, y2, y3, y4, y5, y6, y7, y8⟩ := free9 q1
  clear hw1 hq1 q0 q1 HBG hx hx' hnl hnl2 x1 x2 hj100 hsz12 hx03 hyk hyl
  go_enter Tryz.func25, Tryz.ntmps25
  go_wp2_with (go_at_call 15; refine (HWI.out _).mono ?_; rintro e w2 ⟨rfl, rfl⟩; rw [HW1.out])
  refine HBW.out.mono ?_
  rintro e w2 ⟨rfl, hq2⟩
  have q0 := (hq2.below.block _ hs0).trans HR0.out
  have q1 := (hq2.below.block _ hs1).trans HR1.out
  obtain ⟨k0, k1, k2, k3, k4, k5, k6, k7, k8⟩ := cells9 q0
  obtain ⟨z0, z1, z2, z3, z4, z5, z6, z7, z8⟩ := cells9 q1
  obtain ⟨y0, y1, y2, y3, y4, y5, y6, y7, y8⟩ := free9 q1
  have HR0 := hide q0
  have HR1 := hide q1
  have HQ := hide (HQ1.out.trans hq2)
  have hs0 : w.heap.size < w2.heap.size := by have := hq2.size; omega
  have hs1 : w.heap.size + 1 < w2.heap.size := by have := hq2.size; omega
  clear q0 q1 hq2
  go_wp2_with fail
  refine (HCN.out w2).mono ?_
  rintro e w3 ⟨rfl, hq3⟩
  have q0 := (hq3.below.block _ hs0).trans HR0.out
  have q1 := (hq3.below.block _ hs1).trans HR1.out
  obtain ⟨k0, k1, k2, k3, k4, k5, k6, k7, k8⟩ := cells9 q0
  obtain ⟨f0, f1, f2, f3, f4, f5, f6, f7, f8⟩ := free9 q0
  obtain ⟨z0, z1, z2, z3, z4, z5, z6, z7, z8⟩ := cells9 q1
  obtain ⟨y0, y1, y2, y3, y4, y5, y6, y7, y8⟩ := free9 q1
  have HR0 := hide q0
  have HR1 := hide q1
  have HQ := hide (HQ.out.trans hq3)
  have hs0 : w.heap.size < w3.heap.size := by have := hq3.size; omega
  have hs1 : w.heap.size + 1 < w3.heap.size := by have := hq3.size; omega
  clear q0 q1 hq3
  have x1 := (HQ.out.facts.1 b1 _ hb1).trans HX1.out
  have x2 := (HQ.out.facts.1 b1 _ hb1).trans HX2.out
  clear HBW HCN
  go_wp2_with fail
  obtain ⟨w4, hw4⟩ : ∃ w4, w4 = (((((((((w3.setCell ⟨w.heap.size, 0, none⟩ (.int .i64 m0)).setCell ⟨w.heap.size, 1, none⟩ (.int .i64 m1)).setCell ⟨w.heap.size, 2, none⟩ (.int .i64 m2)).setCell ⟨w.heap.size, 3, none⟩ (.slice (some ⟨b1, o1, none⟩) n c)).setCell ⟨w.heap.size, 4, none⟩ (.slice B k d)).setCell ⟨w.heap.size, 5, none⟩ (.int .i64 m5)).setCell ⟨w.heap.size, 6, none⟩ (.int .i64 m6)).setCell ⟨w.heap.size, 7, none⟩ (.int .i64 (m7 + 1))).setCell ⟨w.heap.size, 8, none⟩ (.int .i64 fl)) := ⟨_, rfl⟩
  rw [← hw4]
  have q0 : w4.heap[w.heap.size]? = some (.cells #[.int .i64 m0, .int .i64 m1, .int .i64 m2, .slice (some ⟨b1, o1, none⟩) n c, .slice B k d, .int .i64 m5, .int .i64 m6, .int .i64 (m7 + 1), .int .i64 fl] MT (0, 0)) := by
    rw [hw4]
    exact row9g (w := w3) (b := w.heap.size) (.int .i64 m0) (.int .i64 m1) (.int .i64 m2) (.slice (some ⟨b1, o1, none⟩) n c) (.slice B k d) (.int .i64 m5) (.int .i64 m6) (.int .i64 (m7 + 1)) (.int .i64 fl) HR0.out
  have q1 : w4.heap[w.heap.size + 1]? = some (.cells #[.int .i64 0, .int .i64 0, .int .i64 0, .slice none 0 0, .slice none 0 0, .int .i64 0, .int .i64 0, .int .i64 0, .int .i64 0] MT (0, 0)) := by
    rw [hw4, keep9 w3 w.heap.size (.int .i64 m0) (.int .i64 m1) (.int .i64 m2) (.slice (some ⟨b1, o1, none⟩) n c) (.slice B k d) (.int .i64 m5) (.int .i64 m6) (.int .i64 (m7 + 1)) (.int .i64 fl) (w.heap.size + 1) (by omega)]
    exact HR1.out
  have HQ := hide (show Q w w4 by
    rw [hw4]
    exact q9 (w0 := w) (w := w3) (b := w.heap.size) (.int .i64 m0) (.int .i64 m1) (.int .i64 m2) (.slice (some ⟨b1, o1, none⟩) n c) (.slice B k d) (.int .i64 m5) (.int .i64 m6) (.int .i64 (m7 + 1)) (.int .i64 fl) HQ.out (Nat.le_refl _))
  have hs0 : w.heap.size < w4.heap.size := by have : w4.heap.size = w3.heap.size := (by rw [hw4]; simp [World.setCell]); omega
  have hs1 : w.heap.size + 1 < w4.heap.size := by have : w4.heap.size = w3.heap.size := (by rw [hw4]; simp [World.setCell]); omega
  have HR0 := hide q0
  have HR1 := hide q1
  obtain ⟨w5, hw5⟩ : ∃ w5, w4.alloc (.cells #[.int .i64 x', .int .i64 y'] 88) = w5 := ⟨_, rfl⟩
  rw [hw5]
  have hw4s : w4.heap.size = w3.heap.size := by rw [hw4]; simp [World.setCell]
  have hq45 : Q w4 w5 := by rw [← hw5]; exact (Q.refl w4).alloc _
  have q0 := (hq45.below.block _ hs0).trans HR0.out
  have q1 := (hq45.below.block _ hs1).trans HR1.out
  have q2 : w5.heap[w3.heap.size]? = some (.cells #[.int .i64 x', .int .i64 y'] 88 (0, 0)) := by rw [← hw5, ← hw4s]; exact heap_alloc_new w4 _
  have HQ := hide (HQ.out.trans hq45)
  have hs2 : w3.heap.size < w5.heap.size := blk_lt q2
  have hs3 : w.heap.size + 1 < w3.heap.size := by omega
  have hs1 : w.heap.size + 1 < w5.heap.size := by omega
  have hs0 : w.heap.size < w5.heap.size := by omega
  have HR0 := hide q0
  have HR1 := hide q1
  have HR2 := hide q2
  obtain ⟨g2, hg2⟩ : ∃ g2, g2 = w3.heap.size := ⟨_, rfl⟩
  rw [← hg2] at hs2 hs3 HR2 ⊢
  clear hw5 hw4 hw4s hq45 q0 q1 q2 hg2
  refine (HSY.out w5 HQ.out).mono ?_
  rintro e w6 ⟨rfl, hq6⟩
  have q2 := (hq6.below.block _ hs2).trans HR2.out
  have d0 : w6.cell? ⟨g2, 0, none⟩ = some (.int .i64 x') := by rw [cell_of_row _ _ _ _ _ _ q2]; rfl
  have d1 : w6.cell? ⟨g2, 1, none⟩ = some (.int .i64 y') := by rw [cell_of_row _ _ _ _ _ _ q2]; rfl
  have HR2 := hide q2
  have hs2 : g2 < w6.heap.size := by have := hq6.size; omega
  clear q2
  have q0 := (hq6.below.block _ hs0).trans HR0.out
  have q1 := (hq6.below.block _ hs1).trans HR1.out
  obtain ⟨k0, k1, k2, k3, k4, k5, k6, k7, k8⟩ := cells9 q0
  obtain ⟨z0, z1, z2, z3, z4, z5, z6, z7, z8⟩ := cells9 q1
  obtain ⟨y0, y1, y2, y3, y4, y5, y6, y7, y8⟩ := free9 q1
  have HR0 := hide q0
  have HR1 := hide q1
  have HQ := hide (HQ.out.trans hq6)
  have hs0 : w.heap.size < w6.heap.size := by have := hq6.size; omega
  have hs1 : w.heap.size + 1 < w6.heap.size := by have := hq6.size; omega
  clear q0 q1 hq6
  clear HSY
  go_wp2_with fail
  refine Ri.made (Ri.phi [Ri.isV (.agg #[.int .i64 m0, .int .i64 m1, .int .i64 m2, .slice (some ⟨b1, o1, none⟩) n c, .slice B k d, .int .i64 m5, .int .i64 m6, .int .i64 (m7 + 1), .int .i64 fl]), Ri.isV (.int .i64 z), Ri.isV (.pointer (some ⟨g2, 0, none⟩)), Ri.isV (.int .i64 x'), Ri.isV ((.int .i64 (alignOfM x'))), isRoom ro, isRoom ro, isPlace ro, Ri.isV (.bool ro.isSome), isPlace ro, Ri.isV (.bool ro.isSome)]) (by kernel_rfl) (by kernel_rfl) (Ri.phi_mono ?_) ?_ ?_
  · exact ⟨Ri.mono_isV _, Ri.mono_isV _, Ri.mono_isV _, Ri.mono_isV _, Ri.mono_isV _, fun _ _ _ h _ => h, fun _ _ _ h _ => h, fun _ _ _ h _ => h, Ri.mono_isV _, fun _ _ _ h _ => h, Ri.mono_isV _, trivial⟩
  · refine Ri.All.cons ?_ (Ri.All.cons ?_ (Ri.All.cons ?_ (Ri.All.cons ?_ (Ri.All.cons ?_ (Ri.All.cons ?_ (Ri.All.cons ?_ (Ri.All.cons ?_ (Ri.All.cons ?_ (Ri.All.cons ?_ (Ri.All.cons ?_ (Ri.All.nil)))))))))))
    · refine ⟨rfl, fun f W hq hf A hA hB hO => ?_⟩
      have e1 := (hB 3 (by kernel_rfl)).trans (show _ = .pointer (some ⟨w.heap.size, 0, none⟩) by simp [Act.eval])
      exact Ri.wp_value _ (Ri.run_ldrow rfl e1 ((((Q.refl w6).drew.trans hq).below.block _ hs0).trans HR0.out) Tryz.underlying32 rfl (by kernel_rfl)) rfl
    · refine ⟨rfl, fun f W hq hf A hA hB hO => ?_⟩
      have e1 := (hB 2 (by kernel_rfl)).trans (show _ = .int .i64 z by simp [Act.eval])
      exact Ri.wp_value _ (Ri.run_mv rfl e1) rfl
    · refine ⟨rfl, fun f W hq hf A hA hB hO => ?_⟩
      have e1 := (hB 11 (by kernel_rfl)).trans (show _ = .pointer (some ⟨g2, 0, none⟩) by simp [Act.eval])
      exact Ri.wp_value _ (Ri.run_idxA (k := 0) (sz := 1) rfl e1 (show A.eval (.const (.int .i64 0)) = _ from rfl) Tryz.underlying88 (by kernel_rfl) (by decide)) rfl
    · refine ⟨rfl, fun f W hq hf A hA hB hO => ?_⟩
      have e1 := (hA 97 2 (by kernel_rfl) (by simp)).trans (show f 2 = _ from hf 2 (by kernel_rfl))
      exact Ri.wp_value _ (Ri.run_ld1 rfl e1 Tryz.underlying3 rfl ((((Q.refl w6).drew.trans hq).facts.1 g2 0 hs2).trans d0)) rfl
    · refine ⟨rfl, fun f W hq hf A hA hB hO => ?_⟩
      have e1 := (hA 98 3 (by kernel_rfl) (by simp)).trans (show f 3 = _ from hf 3 (by kernel_rfl))
      refine Ri.wp_call #[.int .i64 x'] rfl (by simp [e1]) Tryz.func61 (by kernel_rfl) (by kernel_rfl) ((HAL.out W).mono ?_)
      rintro e w3 ⟨rfl, rfl⟩
      exact ⟨_, rfl, Q.refl _, rfl⟩
    · refine ⟨rfl, fun f W hq hf A hA hB hO => ?_⟩
      have e1 := (hA 95 0 (by kernel_rfl) (by simp)).trans (show f 0 = _ from hf 0 (by kernel_rfl))
      have e2 := (hA 96 1 (by kernel_rfl) (by simp)).trans (show f 1 = _ from hf 1 (by kernel_rfl))
      have e3 := (hA 99 4 (by kernel_rfl) (by simp)).trans (show f 4 = _ from hf 4 (by kernel_rfl))
      refine Ri.wp_call #[.agg #[.int .i64 m0, .int .i64 m1, .int .i64 m2, .slice (some ⟨b1, o1, none⟩) n c, .slice B k d, .int .i64 m5, .int .i64 m6, .int .i64 (m7 + 1), .int .i64 fl], .int .i64 z, .int .i64 (alignOfM x')] rfl (by simp [e1, e2, e3]) Tryz.func54 (by kernel_rfl) (by kernel_rfl) ((HRO.out W (HQ.out.trans ((Q.refl w6).drew.trans hq))).mono ?_)
      rintro e w3 ⟨a, ok, rfl, rfl, ha, hq3⟩
      exact ⟨_, rfl, hq3, a, rfl, ha⟩
    · refine ⟨rfl, fun f W hq hf A hA hB hO => ?_⟩
      obtain ⟨a, hv, ha⟩ : isRoom ro (f 5) W := hf 5 (by kernel_rfl)
      exact Ri.wp_value _ (Ri.run_mv rfl ((hA 100 5 (by kernel_rfl) (by simp)).trans hv)) ⟨a, rfl, ha⟩
    · refine ⟨rfl, fun f W hq hf A hA hB hO => ?_⟩
      obtain ⟨a, hv, ha⟩ : isRoom ro (f 6) W := hf 6 (by kernel_rfl)
      exact Ri.wp_value _ (Ri.run_ext rfl ((hA 94 6 (by kernel_rfl) (by simp)).trans hv) rfl) ⟨a, rfl, ha⟩
    · refine ⟨rfl, fun f W hq hf A hA hB hO => ?_⟩
      obtain ⟨a, hv, ha⟩ : isRoom ro (f 6) W := hf 6 (by kernel_rfl)
      exact Ri.wp_value _ (Ri.run_ext rfl ((hA 94 6 (by kernel_rfl) (by simp)).trans hv) rfl) rfl
    · refine ⟨rfl, fun f W hq hf A hA hB hO => ?_⟩
      obtain ⟨a, hv, ha⟩ : isPlace ro (f 7) W := hf 7 (by kernel_rfl)
      exact Ri.wp_value _ (Ri.run_asg rfl ((hA 101 7 (by kernel_rfl) (by simp)).trans hv)) ⟨a, rfl, ha⟩
    · refine ⟨rfl, fun f W hq hf A hA hB hO => ?_⟩
      have e1 := (hA 102 8 (by kernel_rfl) (by simp)).trans (show f 8 = _ from hf 8 (by kernel_rfl))
      exact Ri.wp_value _ (Ri.run_asg rfl e1) rfl
  · intro f W hq hf
    have hqw : Q w6 W := hq
    have e1 : f 10 = .bool ro.isSome := hf 10 (by simp)
    obtain ⟨a, hv, ha⟩ : isPlace ro (f 9) W := hf 9 (by simp)
    simp only [Ri.acts, Act.put, List.setIfInBounds_toArray, List.set_cons_zero, List.set_cons_succ, Nat.zero_add, Nat.reduceAdd]
    rw [hv, e1]
    have q2 := (hqw.below.block _ hs2).trans HR2.out
    have d0 : W.cell? ⟨g2, 0, none⟩ = some (.int .i64 x') := by rw [cell_of_row _ _ _ _ _ _ q2]; rfl
    have d1 : W.cell? ⟨g2, 1, none⟩ = some (.int .i64 y') := by rw [cell_of_row _ _ _ _ _ _ q2]; rfl
    have HR2 := hide q2
    have hs2 : g2 < W.heap.size := by have := hqw.size; omega
    clear q2
    have q0 := (hqw.below.block _ hs0).trans HR0.out
    have q1 := (hqw.below.block _ hs1).trans HR1.out
    obtain ⟨k0, k1, k2, k3, k4, k5, k6, k7, k8⟩ := cells9 q0
    obtain ⟨f0, f1, f2, f3, f4, f5, f6, f7, f8⟩ := free9 q0
    obtain ⟨z0, z1, z2, z3, z4, z5, z6, z7, z8⟩ := cells9 q1
    obtain ⟨y0, y1, y2, y3, y4, y5, y6, y7, y8⟩ := free9 q1
    have HR0 := hide q0
    have HR1 := hide q1
    have HQ := hide (HQ.out.trans hqw)
    have hs0 : w.heap.size < W.heap.size := by have := hqw.size; omega
    have hs1 : w.heap.size + 1 < W.heap.size := by have := hqw.size; omega
    clear q0 q1 hqw
    clear hf e1 hq hv HRO HAL
    cases ro with
    | none =>
      clear HIN HPU HST HMV HBGA HGOA HPKA HRR
      go_wp2_with fail
      have hg := row9 (w := W) (b := w.heap.size + 1) (.int .i64 m0) (.int .i64 m1) (.int .i64 m2) (.slice (some ⟨b1, o1, none⟩) n c) (.slice B k d) (.int .i64 m5) (.int .i64 m6) (.int .i64 (m7 + 1)) (.int .i64 fl) HR1.out
      have hF := q9 (w0 := w) (w := W) (b := w.heap.size + 1) (.int .i64 m0) (.int .i64 m1) (.int .i64 m2) (.slice (some ⟨b1, o1, none⟩) n c) (.slice B k d) (.int .i64 m5) (.int .i64 m6) (.int .i64 (m7 + 1)) (.int .i64 fl) (HQ.out) (by omega)
      refine bodyPost_ret (v := .tuple #[.agg #[.int .i64 m0, .int .i64 m1, .int .i64 m2, .slice (some ⟨b1, o1, none⟩) n c, .slice B k d, .int .i64 m5, .int .i64 m6, .int .i64 (m7 + 1), .int .i64 fl], .int .i64 0, .int .i64 3]) (ret_m3 (p := 6) (u := 7) (x := 8) rfl rfl (by simp) (by simp) (by simp) hg) rfl ?_
      rw [HRO0.out]
      exact ⟨⟨some ⟨b1, o1, none⟩, n, c, B, k, d, ⟨m0, m1, m2, bl, ys, m5, m6, m7 + 1, fl⟩⟩, rfl, rfl, HRC.out _ hF, ⟨.inl ⟨rfl, rfl⟩, .inl ⟨rfl, rfl⟩⟩, hF⟩
    | some a' =>
      obtain rfl := ha _ rfl
      obtain ⟨ha0, ha1⟩ := HIN.out a rfl
      obtain ⟨aN, rfl⟩ : ∃ aN : Nat, a = (aN : Int) := ⟨a.toNat, by omega⟩
      have hxn := HXN.out
      subst hxn
      obtain ⟨kG, yG, hkG, hbG⟩ := HIX.out aN
      have HRF := hide (HRR.out aN kG hkG)
      have HBG2 := hide fun (W : World) (v8 : RV) (e : v8.m = MV aN) (h : RmR W v8) => HBGA.out W v8 aN kG e hkG h ha1
      have HGO := hide fun (W : World) (v8 : RV) (e : v8.m = MV aN) (h : RmR W v8) => HGOA.out W v8 aN kG yG e hbG h ha1
      have HPK := hide fun (W : World) (v9 : RV) (e : v9.m = goneR (MV aN) kG (xN : Int)) (h : RmR W v9) => HPKA.out W v9 aN kG yG e hbG h ha1
      have HA1 := hide ha1
      have haN : (aN : Int) ≤ 4096 := by have := HFIT.out; omega
      clear HIN HBGA HGOA HPKA HRR HIX hkG hbG ha0 ha1 ha
      go_wp2_with fail
      refine (HPU.out W aN HQ.out HA1.out).mono ?_
      rintro e w8 ⟨v6, rfl, hm6, hR6, hF6, hq8⟩
      obtain ⟨N7, hN7⟩ : ∃ N7, N7 = W.heap.size := ⟨_, rfl⟩
      rw [← hN7] at hF6
      have hb17 : w.heap.size + 1 < N7 := by omega
      have hg27 : g2 < N7 := by omega
      have HF6 := hide hF6
      have h7W : N7 ≤ w8.heap.size := by have := hq8.size; omega
      have q2 := (hq8.below.block _ hs2).trans HR2.out
      have d0 : w8.cell? ⟨g2, 0, none⟩ = some (.int .i64 (xN : Int)) := by rw [cell_of_row _ _ _ _ _ _ q2]; rfl
      have d1 : w8.cell? ⟨g2, 1, none⟩ = some (.int .i64 y') := by rw [cell_of_row _ _ _ _ _ _ q2]; rfl
      have HR2 := hide q2
      have hs2 : g2 < w8.heap.size := by have := hq8.size; omega
      clear q2
      have q0 := (hq8.below.block _ hs0).trans HR0.out
      have q1 := (hq8.below.block _ hs1).trans HR1.out
      obtain ⟨k0, k1, k2, k3, k4, k5, k6, k7, k8⟩ := cells9 q0
      obtain ⟨f0, f1, f2, f3, f4, f5, f6, f7, f8⟩ := free9 q0
      obtain ⟨z0, z1, z2, z3, z4, z5, z6, z7, z8⟩ := cells9 q1
      obtain ⟨y0, y1, y2, y3, y4, y5, y6, y7, y8⟩ := free9 q1
      have HR0 := hide q0
      have HR1 := hide q1
      have HQ := hide (HQ.out.trans hq8)
      have hs0 : w.heap.size < w8.heap.size := by have := hq8.size; omega
      have hs1 : w.heap.size + 1 < w8.heap.size := by have := hq8.size; omega
      clear q0 q1 hq8
      have HSW := hide (HST.out w8 v6 aN hm6 hR6 HA1.out)
      have HQ0w8 := HR0
      have HQ1w8 := HR1
      have HQ2w8 := HR2
      have HR6 := hide hR6
      clear hF6 hm6 hR6 HPU HST hN7
      go_wp2_with fail
      refine HSW.out.mono ?_
      rintro e w9 ⟨⟨A', n', c', B', k', d', ⟨r0, r1, r2, rb, ry, r5, r6, r7, r8⟩⟩, rfl, hm7, hR7, hbl7, hA7, hn7, hc7, hO7, hk70, hkk7, hq9⟩
      dsimp only [RV.val, RV.cells] at hm7 hbl7 hA7 hn7 hc7 hO7 hk70 hkk7 ⊢
      have hFr7 : FrA N7 (some ⟨b1, o1, none⟩) A' bl rb := by
        rw [hA7, hbl7]
        exact HF6.out.1
      have HS6 : Hid (Sl 2 encP w8 A' n' c' rb) := by
        rw [hA7, hn7, hc7, hbl7]
        exact HR6.out.b
      have HTA6 : Hid (TyA 88 w8 A') := by
        rw [hA7]
        exact HR6.out.ta
      obtain ⟨gB, dX, e5, hgb, hgl, hgn, hgm, hcell, hfz⟩ := own_at hO7 hk70
      cases e5
      have HFr7 := hide hFr7
      have HKK := hide hkk7
      clear hkk7
      have HBN := hide hR7.bn
      have HM7 := hide hm7
      have HO7 := hide hO7
      have HQ89 := hide hq9
      have HB8 := hide (show ∀ g, g < w8.heap.size → w9.heap[g]? = w8.heap[g]? from fun g hg => hq9.below.block g hg)
      have hs19 : w.heap.size + 1 < w8.heap.size := hs1
      have hs29 : g2 < w8.heap.size := hs2
      have q2 := (hq9.below.block _ hs2).trans HR2.out
      have d0 : w9.cell? ⟨g2, 0, none⟩ = some (.int .i64 (xN : Int)) := by rw [cell_of_row _ _ _ _ _ _ q2]; rfl
      have d1 : w9.cell? ⟨g2, 1, none⟩ = some (.int .i64 y') := by rw [cell_of_row _ _ _ _ _ _ q2]; rfl
      have HR2 := hide q2
      have hs2 : g2 < w9.heap.size := by have := hq9.size; omega
      clear q2
      have q0 := (hq9.below.block _ hs0).trans HR0.out
      have q1 := (hq9.below.block _ hs1).trans HR1.out
      obtain ⟨k0, k1, k2, k3, k4, k5, k6, k7, k8⟩ := cells9 q0
      obtain ⟨f0, f1, f2, f3, f4, f5, f6, f7, f8⟩ := free9 q0
      obtain ⟨z0, z1, z2, z3, z4, z5, z6, z7, z8⟩ := cells9 q1
      obtain ⟨y0, y1, y2, y3, y4, y5, y6, y7, y8⟩ := free9 q1
      have HR0 := hide q0
      have HR1 := hide q1
      have HQ := hide (HQ.out.trans hq9)
      have hs0 : w.heap.size < w9.heap.size := by have := hq9.size; omega
      have hs1 : w.heap.size + 1 < w9.heap.size := by have := hq9.size; omega
      clear q0 q1 hq9
      clear hFr7 hm7 hR7 hbl7 hA7 hn7 hc7 hO7 HSW hcell hfz HF6 HR6
      go_wp2_with fail
      obtain ⟨w10, hw10⟩ : ∃ w10, w10 = (((((((((w9.setCell ⟨w.heap.size, 0, none⟩ (.int .i64 r0)).setCell ⟨w.heap.size, 1, none⟩ (.int .i64 r1)).setCell ⟨w.heap.size, 2, none⟩ (.int .i64 r2)).setCell ⟨w.heap.size, 3, none⟩ (.slice A' n' c')).setCell ⟨w.heap.size, 4, none⟩ (.slice (some ⟨gB, 0, none⟩) k' d')).setCell ⟨w.heap.size, 5, none⟩ (.int .i64 r5)).setCell ⟨w.heap.size, 6, none⟩ (.int .i64 r6)).setCell ⟨w.heap.size, 7, none⟩ (.int .i64 r7)).setCell ⟨w.heap.size, 8, none⟩ (.int .i64 r8)) := ⟨_, rfl⟩
      rw [← hw10]
      have q0 : w10.heap[w.heap.size]? = some (.cells #[.int .i64 r0, .int .i64 r1, .int .i64 r2, .slice A' n' c', .slice (some ⟨gB, 0, none⟩) k' d', .int .i64 r5, .int .i64 r6, .int .i64 r7, .int .i64 r8] MT (0, 0)) := by
        rw [hw10]
        exact row9g (w := w9) (b := w.heap.size) (.int .i64 r0) (.int .i64 r1) (.int .i64 r2) (.slice A' n' c') (.slice (some ⟨gB, 0, none⟩) k' d') (.int .i64 r5) (.int .i64 r6) (.int .i64 r7) (.int .i64 r8) HR0.out
      have HB10 : Hid (∀ g, g < w8.heap.size → g ≠ w.heap.size → w10.heap[g]? = w8.heap[g]?) := fun g hg hne => by
        rw [hw10, keep9 w9 w.heap.size (.int .i64 r0) (.int .i64 r1) (.int .i64 r2) (.slice A' n' c') (.slice (some ⟨gB, 0, none⟩) k' d') (.int .i64 r5) (.int .i64 r6) (.int .i64 r7) (.int .i64 r8) g hne]
        exact HB8.out g hg
      have HQ10 : Hid (Q w w10) := by
        rw [hw10]
        exact q9 (w0 := w) (w := w9) (b := w.heap.size) (.int .i64 r0) (.int .i64 r1) (.int .i64 r2) (.slice A' n' c') (.slice (some ⟨gB, 0, none⟩) k' d') (.int .i64 r5) (.int .i64 r6) (.int .i64 r7) (.int .i64 r8) HQ.out (Nat.le_refl _)
      have HO10 : Hid (w10.ownsRow w8.heap.size 3 1 (.slice (some ⟨gB, 0, none⟩) k' d') k' (ry.flatMap encN)) := by
        rw [hw10]
        exact own9 (w := w9) (b := w.heap.size) (.int .i64 r0) (.int .i64 r1) (.int .i64 r2) (.slice A' n' c') (.slice (some ⟨gB, 0, none⟩) k' d') (.int .i64 r5) (.int .i64 r6) (.int .i64 r7) (.int .i64 r8) HO7.out (by omega)
      have HP1 := hide (show w8.heap[w.heap.size + 1]? = some (.cells #[.int .i64 0, .int .i64 0, .int .i64 0, .slice none 0 0, .slice none 0 0, .int .i64 0, .int .i64 0, .int .i64 0, .int .i64 0] MT (0, 0)) from HQ1w8.out)
      have HP2 := hide (show w8.heap[g2]? = some (.cells #[.int .i64 (xN : Int), .int .i64 y'] 88 (0, 0)) from HQ2w8.out)
      have HP0 := hide q0
      obtain ⟨mn, hmn⟩ : ∃ mn : Nat, min z y' = (mn : Int) := ⟨(min z y').toNat, by omega⟩
      have HMN := hide hmn
      have hmk : xN + mn ≤ k ∧ aN + mn ≤ k' ∧ mn ≤ 4096 := by
        have h1 := HFIT.out
        have h2 := HA1.out
        have h3 := HKK.out
        omega
      obtain ⟨hmk1, hmk2, hmk3⟩ := hmk
      have hgB0 : gB ≠ w.heap.size := by omega
      clear hw10 q0 HO7 HR0 HR1 HR2 HQ HB8
      go_loopw [15] (fun vi wr => ∃ i : Nat, i ≤ mn ∧ vi = .int .i64 (i : Int) ∧ wr.ownsRow w8.heap.size 3 1 (.slice (some ⟨gB, 0, none⟩) k' d') k' ((copyN ry ys aN xN i).flatMap encN) ∧ wr.heap[w.heap.size]? = some (.cells #[.int .i64 r0, .int .i64 r1, .int .i64 r2, .slice A' n' c', .slice (some ⟨gB, 0, none⟩) k' d', .int .i64 r5, .int .i64 r6, .int .i64 r7, .int .i64 r8] MT (0, 0)) ∧ Hid (∀ g, g < w8.heap.size → g ≠ w.heap.size → wr.heap[g]? = w8.heap[g]?) ∧ Q w wr) (fun vi _ => mn - (intOf vi).toNat)
      case atStart => exact ⟨0, by omega, by go_num, HO10.out, HP0.out, HB10, HQ10.out⟩
      case round =>
        obtain ⟨i, hi, rfl, hown, q0, HBR, hqr⟩ := hrel
        have q1 := (HBR.out (w.heap.size + 1) hs19 (by omega)).trans HP1.out
        have q2 := (HBR.out g2 hs29 (by omega)).trans HP2.out
        have HR0 := hide q0
        have HR1 := hide q1
        have HR2 := hide q2
        have HQ := hide hqr
        have HOW := hide hown
        have hs0 := blk_lt q0
        have hs1 := blk_lt q1
        have hs2 := blk_lt q2
        have d0 : wr.cell? ⟨g2, 0, none⟩ = some (.int .i64 (xN : Int)) := (cell_of_row _ _ _ _ _ _ q2).trans rfl
        have d1 : wr.cell? ⟨g2, 1, none⟩ = some (.int .i64 y') := (cell_of_row _ _ _ _ _ _ q2).trans rfl
        obtain ⟨_, _, e5, -, hgl, -, -, hcell, hfz⟩ := own_at hown hk70
        cases e5
        by_cases hlt : i < mn
        · have hd1 : decide ((i : Int) < (mn : Int)) = true := by simp; omega
          have hd0 : decide (i < mn) = true := by simp; omega
          have hlti : (i : Int) < (mn : Int) := by omega
          have k4 : wr.cell? ⟨w.heap.size, 4, none⟩ = some (.slice (some ⟨gB, 0, none⟩) k' d') := (cell_of_row _ _ _ _ _ _ q0).trans rfl
          obtain ⟨bO, oO, yv, eB, hbO, hyv, hcy⟩ := HRM.out.y.nu (xN + i) (show xN + i < k by omega)
          dsimp only at eB
          have HEB := hide eB
          clear eB
          have c1 : wr.cell? ⟨bO, oO + (xN + i) * 1, none⟩ = some (.int .i64 yv) := by
            rw [Nat.mul_one]
            exact (hqr.facts.1 bO _ hbO).trans hcy
          have hbO : bO < wr.heap.size := by have := hqr.size; omega
          obtain ⟨yo, hyo⟩ : ∃ yo, ((copyN ry ys aN xN i).flatMap encN)[0 + (aN + i) * 1]? = some yo := ⟨_, List.getElem?_eq_getElem (by
            have h1 := HOW.out.1
            rw [Nat.zero_add, Nat.mul_one]
            omega)⟩
          have hcs := hcell _ _ hyo
          have hfs := hfz (0 + (aN + i) * 1)
          have HNX := hide (own_set hown (0 + (aN + i) * 1) (.int .i64 yv))
          have HCP : Hid (((copyN ry ys aN xN i).flatMap encN).set (0 + (aN + i) * 1) (.int .i64 yv) = (copyN ry ys aN xN (i + 1)).flatMap encN) := by
            rw [Nat.zero_add, Nat.mul_one, flat_setN, copyN, hyv]
            exact hide rfl
          clear hown q0 q1 q2 hcell hfz hyo hyv hcy
          go_wp2_with fail
          all_goals
            clear hmn
            refine Ri.made_last (Ri.phi [Ri.isV (.pointer (some ⟨w.heap.size, 4, none⟩)), Ri.isV ((.slice (some ⟨gB, 0, none⟩) k' d')), Ri.isV (.int .i64 (aN : Int)), Ri.isV (.int .i64 (i : Int)), Ri.isV (.int .i64 ((aN + i : Nat) : Int)), Ri.isV ((.slice B k d)), Ri.isV (.pointer (some ⟨g2, 0, none⟩)), Ri.isV (.int .i64 (xN : Int)), Ri.isV (.int .i64 (i : Int)), Ri.isV (.int .i64 ((xN + i : Nat) : Int)), Ri.isV (.pointer (some ⟨bO, oO + (xN + i) * 1, none⟩)), Ri.isV (.int .i64 yv), Ri.isV (.pointer (some ⟨gB, 0 + (aN + i) * 1, none⟩))]) (by kernel_rfl) (by kernel_rfl) rfl (by kernel_rfl) rfl (Ri.phi_mono ?_) ?_ ?_
            · exact ⟨Ri.mono_isV _, Ri.mono_isV _, Ri.mono_isV _, Ri.mono_isV _, Ri.mono_isV _, Ri.mono_isV _, Ri.mono_isV _, Ri.mono_isV _, Ri.mono_isV _, Ri.mono_isV _, Ri.mono_isV _, Ri.mono_isV _, Ri.mono_isV _, trivial⟩
            · refine Ri.All.cons ?_ (Ri.All.cons ?_ (Ri.All.cons ?_ (Ri.All.cons ?_ (Ri.All.cons ?_ (Ri.All.cons ?_ (Ri.All.cons ?_ (Ri.All.cons ?_ (Ri.All.cons ?_ (Ri.All.cons ?_ (Ri.All.cons ?_ (Ri.All.cons ?_ (Ri.All.cons ?_ (Ri.All.nil)))))))))))))
              · refine ⟨rfl, fun f W hq hf A hA hB hO => ?_⟩
                have e1 := (hB 3 (by kernel_rfl)).trans (show _ = .pointer (some ⟨w.heap.size, 0, none⟩) by simp [Act.eval])
                exact Ri.wp_value _ (Ri.run_fld (f := _) rfl e1 Tryz.underlying32 rfl (sz := 0) (by kernel_rfl)) rfl
              · refine ⟨rfl, fun f W hq hf A hA hB hO => ?_⟩
                have e1 := (hA 125 0 (by kernel_rfl) (by simp)).trans (show f 0 = _ from hf 0 (by kernel_rfl))
                exact Ri.wp_value _ (Ri.run_ld1 rfl e1 Tryz.underlying30 rfl ((((Q.refl wr).drew.trans hq).facts.1 _ 4 hs0).trans k4)) rfl
              · refine ⟨rfl, fun f W hq hf A hA hB hO => ?_⟩
                have e1 := (hB 12 (by kernel_rfl)).trans (show _ = .int .i64 (aN : Int) by simp [Act.eval])
                exact Ri.wp_value _ (Ri.run_mv rfl e1) rfl
              · refine ⟨rfl, fun f W hq hf A hA hB hO => ?_⟩
                have e1 := (hB 15 (by kernel_rfl)).trans (show _ = .int .i64 (i : Int) by simp [Act.eval])
                exact Ri.wp_value _ (Ri.run_mv rfl e1) rfl
              · refine ⟨rfl, fun f W hq hf A hA hB hO => ?_⟩
                have e1 := (hA 127 2 (by kernel_rfl) (by simp)).trans (show f 2 = _ from hf 2 (by kernel_rfl))
                have e2 := (hA 128 3 (by kernel_rfl) (by simp)).trans (show f 3 = _ from hf 3 (by kernel_rfl))
                exact Ri.wp_value _ (Ri.run_addN rfl e1 e2 Tryz.underlying3 (by omega)) rfl
              · refine ⟨rfl, fun f W hq hf A hA hB hO => ?_⟩
                have e1 := (hB 14 (by kernel_rfl)).trans (show _ = (.slice B k d) by simp [Act.eval])
                exact Ri.wp_value _ (Ri.run_mv rfl e1) rfl
              · refine ⟨rfl, fun f W hq hf A hA hB hO => ?_⟩
                have e1 := (hB 11 (by kernel_rfl)).trans (show _ = .pointer (some ⟨g2, 0, none⟩) by simp [Act.eval])
                exact Ri.wp_value _ (Ri.run_idxA (k := 0) (sz := 1) rfl e1 (show A.eval (.const (.int .i64 0)) = _ from rfl) Tryz.underlying88 (by kernel_rfl) (by decide)) rfl
              · refine ⟨rfl, fun f W hq hf A hA hB hO => ?_⟩
                have e1 := (hA 131 6 (by kernel_rfl) (by simp)).trans (show f 6 = _ from hf 6 (by kernel_rfl))
                exact Ri.wp_value _ (Ri.run_ld1 rfl e1 Tryz.underlying3 rfl ((((Q.refl wr).drew.trans hq).facts.1 g2 0 hs2).trans d0)) rfl
              · refine ⟨rfl, fun f W hq hf A hA hB hO => ?_⟩
                have e1 := (hB 15 (by kernel_rfl)).trans (show _ = .int .i64 (i : Int) by simp [Act.eval])
                exact Ri.wp_value _ (Ri.run_mv rfl e1) rfl
              · refine ⟨rfl, fun f W hq hf A hA hB hO => ?_⟩
                have e1 := (hA 132 7 (by kernel_rfl) (by simp)).trans (show f 7 = _ from hf 7 (by kernel_rfl))
                have e2 := (hA 133 8 (by kernel_rfl) (by simp)).trans (show f 8 = _ from hf 8 (by kernel_rfl))
                exact Ri.wp_value _ (Ri.run_addN rfl e1 e2 Tryz.underlying3 (by omega)) rfl
              · refine ⟨rfl, fun f W hq hf A hA hB hO => ?_⟩
                have e1 := (hA 130 5 (by kernel_rfl) (by simp)).trans (show f 5 = _ from hf 5 (by kernel_rfl))
                have e2 := (hA 134 9 (by kernel_rfl) (by simp)).trans (show f 9 = _ from hf 9 (by kernel_rfl))
                exact Ri.wp_value _ ((by rw [HEB.out] at e1; exact Ri.run_idx (k := xN + i) rfl e1 e2 Tryz.underlying30 (by kernel_rfl) (by omega))) rfl
              · refine ⟨rfl, fun f W hq hf A hA hB hO => ?_⟩
                have e1 := (hA 135 10 (by kernel_rfl) (by simp)).trans (show f 10 = _ from hf 10 (by kernel_rfl))
                exact Ri.wp_value _ (Ri.run_ld1 rfl e1 Tryz.underlying3 rfl ((((Q.refl wr).drew.trans hq).facts.1 bO _ hbO).trans c1)) rfl
              · refine ⟨rfl, fun f W hq hf A hA hB hO => ?_⟩
                have e1 := (hA 126 1 (by kernel_rfl) (by simp)).trans (show f 1 = _ from hf 1 (by kernel_rfl))
                have e2 := (hA 129 4 (by kernel_rfl) (by simp)).trans (show f 4 = _ from hf 4 (by kernel_rfl))
                exact Ri.wp_value _ (Ri.run_idx (k := aN + i) rfl e1 e2 Tryz.underlying30 (by kernel_rfl) (by omega)) rfl
            · intro f W hq hf A'' hAe hA hB
              have hqw : Q wr W := hq
              have e1 := (hA 137 12 (by kernel_rfl) (by simp)).trans (show f 12 = _ from hf 12 (by simp))
              have e2 := (hA 136 11 (by kernel_rfl) (by simp)).trans (show f 11 = _ from hf 11 (by simp))
              refine Ri.wp_store rfl e1 e2 rfl (by kernel_rfl) rfl (by simp [Value.oneCell']) ((hqw.facts.1 gB _ hgl).trans hcs) ((hqw.facts.2.1 gB _ hgl).trans hfs) ?_
              obtain ⟨W2, hW2⟩ : ∃ W2, W.setCell ⟨gB, 0 + (aN + i) * 1, none⟩ (.int .i64 yv) = W2 := ⟨_, rfl⟩
              rw [hW2]
              rw [hAe]
              simp only [Ri.acts, Act.put, List.setIfInBounds_toArray, List.set_cons_zero, List.set_cons_succ, Nat.zero_add, Nat.reduceAdd]
              have HOW2 : Hid (W2.ownsRow w8.heap.size 3 1 (.slice (some ⟨gB, 0, none⟩) k' d') k' ((copyN ry ys aN xN (i + 1)).flatMap encN)) := by
                rw [← HCP.out, ← hW2]
                exact own_set (own_q HOW.out hqw) _ _
              have HRB : Hid (W2.heap[w.heap.size]? = some (.cells #[.int .i64 r0, .int .i64 r1, .int .i64 r2, .slice A' n' c', .slice (some ⟨gB, 0, none⟩) k' d', .int .i64 r5, .int .i64 r6, .int .i64 r7, .int .i64 r8] MT (0, 0))) := hide (by
                rw [← hW2]
                exact (heap_setCell_other _ _ _ _ (by show w.heap.size ≠ gB; omega)).trans ((hqw.below.block _ hs0).trans HR0.out))
              have HBR2 : Hid (∀ g, g < w8.heap.size → g ≠ w.heap.size → W2.heap[g]? = w8.heap[g]?) := fun g hg hne => by
                rw [← hW2]
                exact (heap_setCell_other _ _ _ _ (by show g ≠ gB; omega)).trans ((hqw.below.block _ (by omega)).trans (HBR.out g hg hne))
              have HQR : Hid (Q w W2) := hide (by
                rw [← hW2]
                exact (HQ.out.trans hqw).set (p := ⟨gB, 0 + (aN + i) * 1, none⟩) (by show w.heap.size ≤ gB; omega) _)
              clear hf hA hB hAe e1 e2 hq hqw hW2
              go_wp2_with fail
              go_roundw
              case rel => exact ⟨i + 1, by omega, by go_num, HOW2.out, HRB.out, HBR2, HQR.out⟩
              case measure => simp [intOf] <;> omega
        · have hd1 : decide ((i : Int) < (mn : Int)) = false := by simp; omega
          have hd0 : decide (i < mn) = false := by simp; omega
          obtain rfl : i = mn := by omega
          have HRC0 := hide (HRC.out w (Q.refl w))
          have HSR : Sl 2 encP wr A' n' c' rb := HFr7.out.keep (N := N7) (b := w.heap.size) HRC0.out.b HS6.out (Nat.le_refl _) (by omega) (fun g hg hne => HBR.out g hg hne) (by omega)
          have hTA : TyA 88 wr A' := fun g o e => by
            obtain ⟨cs, h⟩ := HTA6.out g o e
            exact ⟨cs, (HBR.out g (blk_lt h) (ty_ne h HQ0w8.out (by decide))).trans h⟩
          have HRV8 := hide (show RmR wr ⟨A', n', c', some ⟨gB, 0, none⟩, k', d', ⟨r0, r1, r2, rb, copyN ry ys aN xN i, r5, r6, r7, r8⟩⟩ from ⟨HSR, Sl.own HOW.out (fun _ => rfl) (by decide), HBN.out, fun h => (by cases h), hTA, TyA.own HOW.out⟩)
          have HFR8 := hide (show Fr N7 ⟨some ⟨b1, o1, none⟩, n, c, B, k, d, ⟨m0, m1, m2, bl, ys, m5, m6, m7 + 1, fl⟩⟩ ⟨A', n', c', some ⟨gB, 0, none⟩, k', d', ⟨r0, r1, r2, rb, copyN ry ys aN xN i, r5, r6, r7, r8⟩⟩ from ⟨HFr7.out, fr_own (own_low HOW.out h7W)⟩)
          have HM8 : (⟨A', n', c', some ⟨gB, 0, none⟩, k', d', ⟨r0, r1, r2, rb, copyN ry ys aN xN i, r5, r6, r7, r8⟩⟩ : RV).m = MV aN := by
            rw [HMV.out, ← HM7.out, HMN.out]
            rfl
          have hs7r : N7 ≤ wr.heap.size := by omega
          obtain ⟨MG0, hMG0⟩ : ∃ MG0, MG0 = goneR (MV aN) kG (xN : Int) := ⟨_, rfl⟩
          obtain ⟨MG, hMG⟩ : ∃ MG, MG = peakR MG0 := ⟨_, rfl⟩
          rw [← hMG0] at HRF HGO HPK
          rw [← hMG] at HRF
          have HMG := hide hMG
          obtain ⟨X, hX⟩ : ∃ X, X = rmX (w.heap.size + 1) MG ⟨some ⟨b1, o1, none⟩, n, c, B, k, d, ⟨m0, m1, m2, bl, ys, m5, m6, m7 + 1, fl⟩⟩ N7 := ⟨_, rfl⟩
          have hXq : ∀ w w', X w → Q w w' → X w' := by rw [hX]; exact rmX_q _ _ _ _
          have HXD := hide hX
          clear hX hMG0 hMG hown q0 q1 q2 hcell hfz HSR HP0 HP1 HP2 HO10 HB10 HQ10
          go_wp2_with fail
          all_goals
            clear hmn
            refine Ri.madeT (T := Ri.TX (w.heap.size + 1) X) (fun _ => Ri.TX.refl _ _ _) (fun _ _ _ h k => Ri.TX.trans hXq h k) (Ri.phi [Ri.isV (.agg #[.int .i64 r0, .int .i64 r1, .int .i64 r2, .slice A' n' c', .slice (some ⟨gB, 0, none⟩) k' d', .int .i64 r5, .int .i64 r6, .int .i64 r7, .int .i64 r8]), Ri.isV (.agg #[.int .i64 r0, .int .i64 r1, .int .i64 r2, .slice A' n' c', .slice (some ⟨gB, 0, none⟩) k' d', .int .i64 r5, .int .i64 r6, .int .i64 r7, .int .i64 r8]), Ri.isV (.pointer (some ⟨g2, 0, none⟩)), Ri.isV (.int .i64 (xN : Int)), Ri.isV (.int .i64 (kG : Int)), rmV MG0 ⟨some ⟨b1, o1, none⟩, n, c, B, k, d, ⟨m0, m1, m2, bl, ys, m5, m6, m7 + 1, fl⟩⟩ N7, rmV MG ⟨some ⟨b1, o1, none⟩, n, c, B, k, d, ⟨m0, m1, m2, bl, ys, m5, m6, m7 + 1, fl⟩⟩ N7, Ri.isV (.int .i64 (aN : Int)), (fun _ W => X W), Ri.isV (.int .i64 (aN : Int)), Ri.isV (.int .i64 0)]) (by kernel_rfl) (by kernel_rfl) (fun i => Ri.phi_monoT ?_ i) ?_ ?_
            · exact ⟨Ri.mono_isT _, Ri.mono_isT _, Ri.mono_isT _, Ri.mono_isT _, Ri.mono_isT _, (fun v w1 w2 h _ ht => rmV_t (M2 := MG) HRC0.out (by omega) hb17 h (by rw [← HXD.out]; exact ht)), (fun v w1 w2 h _ ht => rmV_t (M2 := MG) HRC0.out (by omega) hb17 h (by rw [← HXD.out]; exact ht)), Ri.mono_isT _, (fun v w1 w2 h h0 ht => Ri.TX.keepX hXq h ht (Nat.lt_of_lt_of_le hs1 h0.size)), Ri.mono_isT _, Ri.mono_isT _, trivial⟩
            · refine Ri.All.cons ?_ (Ri.All.cons ?_ (Ri.All.cons ?_ (Ri.All.cons ?_ (Ri.All.cons ?_ (Ri.All.cons ?_ (Ri.All.cons ?_ (Ri.All.cons ?_ (Ri.All.cons ?_ (Ri.All.cons ?_ (Ri.All.cons ?_ (Ri.All.nil)))))))))))
              · refine Ri.StepT.q (fun _ _ _ h => Ri.TX.of_q h) ⟨rfl, fun f W hq hf A hA hB hO => ?_⟩
                have e1 := (hB 3 (by kernel_rfl)).trans (show _ = .pointer (some ⟨w.heap.size, 0, none⟩) by simp [Act.eval])
                exact Ri.wp_value _ (Ri.run_ldrow rfl e1 ((hq.block _ hs0 (by omega)).trans HR0.out) Tryz.underlying32 rfl (by kernel_rfl)) rfl
              · refine Ri.StepT.q (fun _ _ _ h => Ri.TX.of_q h) ⟨rfl, fun f W hq hf A hA hB hO => ?_⟩
                have e1 := (hB 3 (by kernel_rfl)).trans (show _ = .pointer (some ⟨w.heap.size, 0, none⟩) by simp [Act.eval])
                exact Ri.wp_value _ (Ri.run_ldrow rfl e1 ((hq.block _ hs0 (by omega)).trans HR0.out) Tryz.underlying32 rfl (by kernel_rfl)) rfl
              · refine Ri.StepT.q (fun _ _ _ h => Ri.TX.of_q h) ⟨rfl, fun f W hq hf A hA hB hO => ?_⟩
                have e1 := (hB 11 (by kernel_rfl)).trans (show _ = .pointer (some ⟨g2, 0, none⟩) by simp [Act.eval])
                exact Ri.wp_value _ (Ri.run_idxA (k := 0) (sz := 1) rfl e1 (show A.eval (.const (.int .i64 0)) = _ from rfl) Tryz.underlying88 (by kernel_rfl) (by decide)) rfl
              · refine Ri.StepT.q (fun _ _ _ h => Ri.TX.of_q h) ⟨rfl, fun f W hq hf A hA hB hO => ?_⟩
                have e1 := (hA 140 2 (by kernel_rfl) (by simp)).trans (show f 2 = _ from hf 2 (by kernel_rfl))
                exact Ri.wp_value _ (Ri.run_ld1 rfl e1 Tryz.underlying3 rfl ((cell_of_row W g2 0 _ _ _ ((hq.block g2 hs2 (by omega)).trans HR2.out)).trans rfl)) rfl
              · refine Ri.StepT.q (fun _ _ _ h => Ri.TX.of_q h) ⟨rfl, fun f W hq hf A hA hB hO => ?_⟩
                have hRW : RmR W ⟨A', n', c', some ⟨gB, 0, none⟩, k', d', ⟨r0, r1, r2, rb, copyN ry ys aN xN i, r5, r6, r7, r8⟩⟩ := RmR.keep HRC0.out HRV8.out HFR8.out (b := w.heap.size + 1) (by omega) hb17 (fun g hg hne => hq.block g hg hne) hq.size
                have e1 := (hA 139 1 (by kernel_rfl) (by simp)).trans (show f 1 = _ from hf 1 (by kernel_rfl))
                have e2 := (hA 141 3 (by kernel_rfl) (by simp)).trans (show f 3 = _ from hf 3 (by kernel_rfl))
                refine Ri.wp_call #[(⟨A', n', c', some ⟨gB, 0, none⟩, k', d', ⟨r0, r1, r2, rb, copyN ry ys aN xN i, r5, r6, r7, r8⟩⟩ : RV).val, .int .i64 (xN : Int)] rfl ?_ Tryz.func58 (by kernel_rfl) (by kernel_rfl) ((HBG2.out W _ HM8 hRW).mono ?_)
                · simp only [List.map_toArray, List.map_cons, List.map_nil, e1, e2]
                  rfl
                · rintro e w3 ⟨rfl, hq3⟩
                  exact ⟨_, rfl, hq3, rfl⟩
              · refine Ri.StepT.q (fun _ _ _ h => Ri.TX.of_q h) ⟨rfl, fun f W hq hf A hA hB hO => ?_⟩
                have hRW : RmR W ⟨A', n', c', some ⟨gB, 0, none⟩, k', d', ⟨r0, r1, r2, rb, copyN ry ys aN xN i, r5, r6, r7, r8⟩⟩ := RmR.keep HRC0.out HRV8.out HFR8.out (b := w.heap.size + 1) (by omega) hb17 (fun g hg hne => hq.block g hg hne) hq.size
                have e1 := (hA 138 0 (by kernel_rfl) (by simp)).trans (show f 0 = _ from hf 0 (by kernel_rfl))
                have e2 := (hA 142 4 (by kernel_rfl) (by simp)).trans (show f 4 = _ from hf 4 (by kernel_rfl))
                refine Ri.wp_call #[(⟨A', n', c', some ⟨gB, 0, none⟩, k', d', ⟨r0, r1, r2, rb, copyN ry ys aN xN i, r5, r6, r7, r8⟩⟩ : RV).val, .int .i64 (kG : Int)] rfl ?_ Tryz.func59 (by kernel_rfl) (by kernel_rfl) ((HGO.out W _ HM8 hRW).mono ?_)
                · simp only [List.map_toArray, List.map_cons, List.map_nil, e1, e2]
                  rfl
                · rintro e w3 ⟨v6, rfl, hm, hR, hF, hq3⟩
                  exact ⟨_, rfl, hq3, v6, rfl, hm, hR, Fr.trans HFR8.out hF (Nat.le_trans hs7r hq.size)⟩
              · refine Ri.StepT.q (fun _ _ _ h => Ri.TX.of_q h) ⟨rfl, fun f W hq hf A hA hB hO => ?_⟩
                obtain ⟨v6, hv, hm, hR, hF⟩ : rmV MG0 ⟨some ⟨b1, o1, none⟩, n, c, B, k, d, ⟨m0, m1, m2, bl, ys, m5, m6, m7 + 1, fl⟩⟩ N7 (f 5) W := hf 5 (by kernel_rfl)
                have e1 := (hA 143 5 (by kernel_rfl) (by simp)).trans hv
                refine Ri.wp_call #[v6.val] rfl (by simp [e1]) Tryz.func55 (by kernel_rfl) (by kernel_rfl) ((HPK.out W v6 hm hR).mono ?_)
                rintro e w3 ⟨rfl, hq3⟩
                exact ⟨_, rfl, hq3, v6.withM (peakR v6.m), rfl, by rw [HMG.out, ← hm]; rfl, (hR.up hq3).withM rfl rfl, hF.withM rfl rfl⟩
              · refine Ri.StepT.q (fun _ _ _ h => Ri.TX.of_q h) ⟨rfl, fun f W hq hf A hA hB hO => ?_⟩
                have e1 := (hB 12 (by kernel_rfl)).trans (show _ = .int .i64 (aN : Int) by simp [Act.eval])
                exact Ri.wp_value _ (Ri.run_mv rfl e1) rfl
              · refine ⟨rfl, fun f W hq hf A hA hB hO => ?_⟩
                obtain ⟨v6, hv, hm, hR, hF⟩ : rmV MG ⟨some ⟨b1, o1, none⟩, n, c, B, k, d, ⟨m0, m1, m2, bl, ys, m5, m6, m7 + 1, fl⟩⟩ N7 (f 6) W := hf 6 (by kernel_rfl)
                have e1 := (hB 6 (by kernel_rfl)).trans (show _ = .pointer (some ⟨w.heap.size + 1, 0, none⟩) by simp [Act.eval])
                have e2 := (hA 144 6 (by kernel_rfl) (by simp)).trans hv
                obtain ⟨old, hold, hos⟩ : ∃ old, W.heap[w.heap.size + 1]? = some (.cells old MT (0, 0)) ∧ old.size = 9 := by
                  rcases hq.at_ hs1 with e | e
                  · exact ⟨_, e.trans HR1.out, rfl⟩
                  · rw [HXD.out] at e
                    obtain ⟨v', e, -⟩ := e
                    exact ⟨_, e, rfl⟩
                have hX2 : X (W.setRow (w.heap.size + 1) v6.cells) := by
                  rw [HXD.out]
                  exact ⟨v6, setRow_heap _ _ _ _ _ _ hold, hm, RmR.keep HRC0.out hR hF (by omega) hb17 (fun g _ hne => setRow_other _ _ _ _ hne) (by simp), hF⟩
                exact Ri.wp_row rfl e1 e2 rfl hold (by kernel_rfl) hos (by simp [RV.cells, Value.oneCell']) (Ri.TX.setRow hX2) hX2
              · refine Ri.StepT.q (fun _ _ _ h => Ri.TX.of_q h) ⟨rfl, fun f W hq hf A hA hB hO => ?_⟩
                have e1 := (hA 145 7 (by kernel_rfl) (by simp)).trans (show f 7 = _ from hf 7 (by kernel_rfl))
                exact Ri.wp_value _ (Ri.run_asg rfl e1) rfl
              · refine Ri.StepT.q (fun _ _ _ h => Ri.TX.of_q h) ⟨rfl, fun f W hq hf A hA hB hO => ?_⟩
                have e1 : A.eval (.const (.int .i64 0)) = .int .i64 0 := rfl
                exact Ri.wp_value _ (Ri.run_asg rfl e1) rfl
            · intro f W hq hf
              have hX2 : X W := hf 8 (by simp)
              have e17 : f 9 = .int .i64 (aN : Int) := hf 9 (by simp)
              have e18 : f 10 = .int .i64 0 := hf 10 (by simp)
              rw [HXD.out] at hX2
              obtain ⟨v', hg, hm, hR, hF⟩ := hX2
              have hqw : Q w W := Ri.TX.q_of (w0 := w) (w := wr) HQ.out ⟨hq.os, hq.tape, hq.output, hq.size, hq.block, hq.at_⟩ (by omega)
              simp only [Ri.acts, Act.put, List.setIfInBounds_toArray, List.set_cons_zero, List.set_cons_succ, Nat.zero_add, Nat.reduceAdd]
              rw [e17, e18]
              clear hf hq
              go_wp2_with fail
              refine bodyPost_ret (v := .tuple #[.agg v'.cells, .int .i64 (aN : Int), .int .i64 0]) (ret_m3 (p := 6) (u := 7) (x := 8) rfl rfl (by simp) (by simp) (by simp) hg) rfl ?_
              rw [HRF.out]
              exact ⟨v', rfl, hm, hR, Fr.trans (v1 := ⟨some ⟨b1, o1, none⟩, n, c, B, k, d, ⟨m0, m1, m2, bl, ys, m5, m6, m7 + 1, fl⟩⟩) ⟨.inl ⟨rfl, rfl⟩, .inl ⟨rfl, rfl⟩⟩ hF (by omega), hqw⟩
end Go.Proofs.YtegpkcbmgjoicaaGreat
