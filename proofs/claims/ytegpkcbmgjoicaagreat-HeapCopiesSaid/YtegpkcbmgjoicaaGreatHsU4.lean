/- The reference's Alloc. A region that draws its order, makes new memory and stores into ONE block somewhere among its operations. The reference's Resize: what comes ahead; a block that stays where it is. Conditions: as each theorem says. -/
import Derived.Test.YtegpkcbmgjoicaaGreatHsU3
namespace Go.Proofs.YtegpkcbmgjoicaaGreat
open Go.RowKit HP
set_option linter.unusedVariables false
theorem row9g {w : World} {b : Nat} (v0 v1 v2 v3 v4 v5 v6 v7 v8 : Value) {u0 u1 u2 u3 u4 u5 u6 u7 u8 : Value} (h : w.heap[b]? = some (.cells #[u0, u1, u2, u3, u4, u5, u6, u7, u8] MT (0, 0))) : (((((((((w.setCell ⟨b, 0, none⟩ (v0)).setCell ⟨b, 1, none⟩ (v1)).setCell ⟨b, 2, none⟩ (v2)).setCell ⟨b, 3, none⟩ (v3)).setCell ⟨b, 4, none⟩ (v4)).setCell ⟨b, 5, none⟩ (v5)).setCell ⟨b, 6, none⟩ (v6)).setCell ⟨b, 7, none⟩ (v7)).setCell ⟨b, 8, none⟩ (v8)).heap[b]? = some (.cells #[v0, v1, v2, v3, v4, v5, v6, v7, v8] MT (0, 0)) := by
  have h0 : (w.setCell ⟨b, 0, none⟩ (v0)).heap[b]? = some (.cells #[v0, u1, u2, u3, u4, u5, u6, u7, u8] MT (0, 0)) := heap_setCell_same _ b 0 _ _ v0 h
  have h1 : ((w.setCell ⟨b, 0, none⟩ (v0)).setCell ⟨b, 1, none⟩ (v1)).heap[b]? = some (.cells #[v0, v1, u2, u3, u4, u5, u6, u7, u8] MT (0, 0)) := heap_setCell_same _ b 1 _ _ v1 h0
  have h2 : (((w.setCell ⟨b, 0, none⟩ (v0)).setCell ⟨b, 1, none⟩ (v1)).setCell ⟨b, 2, none⟩ (v2)).heap[b]? = some (.cells #[v0, v1, v2, u3, u4, u5, u6, u7, u8] MT (0, 0)) := heap_setCell_same _ b 2 _ _ v2 h1
  have h3 : ((((w.setCell ⟨b, 0, none⟩ (v0)).setCell ⟨b, 1, none⟩ (v1)).setCell ⟨b, 2, none⟩ (v2)).setCell ⟨b, 3, none⟩ (v3)).heap[b]? = some (.cells #[v0, v1, v2, v3, u4, u5, u6, u7, u8] MT (0, 0)) := heap_setCell_same _ b 3 _ _ v3 h2
  have h4 : (((((w.setCell ⟨b, 0, none⟩ (v0)).setCell ⟨b, 1, none⟩ (v1)).setCell ⟨b, 2, none⟩ (v2)).setCell ⟨b, 3, none⟩ (v3)).setCell ⟨b, 4, none⟩ (v4)).heap[b]? = some (.cells #[v0, v1, v2, v3, v4, u5, u6, u7, u8] MT (0, 0)) := heap_setCell_same _ b 4 _ _ v4 h3
  have h5 : ((((((w.setCell ⟨b, 0, none⟩ (v0)).setCell ⟨b, 1, none⟩ (v1)).setCell ⟨b, 2, none⟩ (v2)).setCell ⟨b, 3, none⟩ (v3)).setCell ⟨b, 4, none⟩ (v4)).setCell ⟨b, 5, none⟩ (v5)).heap[b]? = some (.cells #[v0, v1, v2, v3, v4, v5, u6, u7, u8] MT (0, 0)) := heap_setCell_same _ b 5 _ _ v5 h4
  have h6 : (((((((w.setCell ⟨b, 0, none⟩ (v0)).setCell ⟨b, 1, none⟩ (v1)).setCell ⟨b, 2, none⟩ (v2)).setCell ⟨b, 3, none⟩ (v3)).setCell ⟨b, 4, none⟩ (v4)).setCell ⟨b, 5, none⟩ (v5)).setCell ⟨b, 6, none⟩ (v6)).heap[b]? = some (.cells #[v0, v1, v2, v3, v4, v5, v6, u7, u8] MT (0, 0)) := heap_setCell_same _ b 6 _ _ v6 h5
  have h7 : ((((((((w.setCell ⟨b, 0, none⟩ (v0)).setCell ⟨b, 1, none⟩ (v1)).setCell ⟨b, 2, none⟩ (v2)).setCell ⟨b, 3, none⟩ (v3)).setCell ⟨b, 4, none⟩ (v4)).setCell ⟨b, 5, none⟩ (v5)).setCell ⟨b, 6, none⟩ (v6)).setCell ⟨b, 7, none⟩ (v7)).heap[b]? = some (.cells #[v0, v1, v2, v3, v4, v5, v6, v7, u8] MT (0, 0)) := heap_setCell_same _ b 7 _ _ v7 h6
  have h8 : (((((((((w.setCell ⟨b, 0, none⟩ (v0)).setCell ⟨b, 1, none⟩ (v1)).setCell ⟨b, 2, none⟩ (v2)).setCell ⟨b, 3, none⟩ (v3)).setCell ⟨b, 4, none⟩ (v4)).setCell ⟨b, 5, none⟩ (v5)).setCell ⟨b, 6, none⟩ (v6)).setCell ⟨b, 7, none⟩ (v7)).setCell ⟨b, 8, none⟩ (v8)).heap[b]? = some (.cells #[v0, v1, v2, v3, v4, v5, v6, v7, v8] MT (0, 0)) := heap_setCell_same _ b 8 _ _ v8 h7
  exact h8
theorem scanF_ge (p : Int → Bool) (lim step : Int) (hs : 1 ≤ step) : ∀ (f : Nat) (a x : Int), scanF p lim step f a = some x → a ≤ x ∧ x ≤ lim ∧ p x = true
  | 0, a, x, h => by cases h
  | f + 1, a, x, h => by
    rw [scanF] at h
    split at h
    · cases h
    · split at h
      · rename_i h1 h2
        cases h
        exact ⟨Int.le_refl _, by omega, h2⟩
      · obtain ⟨h1, h2, h3⟩ := scanF_ge p lim step hs f _ _ h
        exact ⟨by omega, h2, h3⟩
theorem roomR_in {m : RM} (N : RmN m) (hpc : m.kind = 3 → 1 ≤ m.piece) {n al a : Int} (hn : 1 ≤ n) (hal : 1 ≤ al) (h : roomR m n al = some a) : 0 ≤ a ∧ a + n ≤ m.size := by
  unfold roomR at h
  split at h
  · split at h
    · cases h
      have := (upTo_ge m.top al hal).1
      have := N.tp
      omega
    · cases h
  · split at h
    · rename_i h3
      obtain ⟨h1, h2, h4⟩ := scanF_ge _ _ _ (hpc h3) _ _ _ h
      unfold plR at h4
      simp only [Bool.and_eq_true, decide_eq_true_eq] at h4
      omega
    · obtain ⟨h1, h2, h4⟩ := scanF_ge _ _ _ hal _ _ _ h
      omega
theorem mem_insR {p q : Int × Int} : ∀ {l : List (Int × Int)}, q ∈ insR l p → q = p ∨ q ∈ l
  | [], h => by simpa [insR] using h
  | r :: l, h => by
    rw [insR] at h
    split at h
    · simpa using h
    · rcases List.mem_cons.1 h with h | h
      · exact .inr (by rw [h]; simp)
      · rcases mem_insR h with h | h
        · exact .inl h
        · exact .inr (by simp [h])
theorem len_insR (p : Int × Int) : ∀ l : List (Int × Int), (insR l p).length = l.length + 1
  | [] => rfl
  | r :: l => by
    rw [insR]
    split
    · rfl
    · rw [List.length_cons, len_insR p l, List.length_cons]
theorem RmN.count {m : RM} (N : RmN m) (hc : m.calls < 1000000) : RmN (countR m).1 :=
  ⟨N.sz, N.pc, N.n, N.k, N.all, N.tp, N.pk, by have := N.cl; show 0 ≤ m.calls + 1 ∧ m.calls + 1 ≤ 1000000; omega, by
    have := N.fl
    show 0 ≤ (if m.fail = 0 then 0 else m.fail - 1) ∧ (if m.fail = 0 then 0 else m.fail - 1) ≤ 1000
    split <;> omega⟩
theorem RmN.put {m : RM} (N : RmN m) (hl : m.bl.length ≤ 99) {a n : Int} (h0 : 0 ≤ a) (h1 : 0 ≤ n) (h2 : a + n ≤ m.size) : RmN (putR m a n) :=
  ⟨N.sz, N.pc, by show (insR m.bl (a, n)).length ≤ 100; rw [len_insR]; omega, N.k, fun p hp => by
    rcases mem_insR hp with rfl | hp
    · exact ⟨h0, h1, h2⟩
    · exact N.all p hp, by
    show 0 ≤ (if m.kind = 1 ∨ m.kind = 2 then a + n else m.top) ∧ (if m.kind = 1 ∨ m.kind = 2 then a + n else m.top) ≤ 4096
    have := N.sz
    have := N.tp
    split <;> omega, N.pk, N.cl, N.fl⟩
theorem RmN.set {m : RM} (N : RmN m) (f t : Nat) (x : Int) : RmN (setR m f t x) :=
  ⟨N.sz, N.pc, N.n, by show (setN m.ys f x (t - f)).length = _; rw [setN_length]; exact N.k, N.all, N.tp, N.pk, N.cl, N.fl⟩
theorem RmR.withM {w : World} {v : RV} {m : RM} (H : RmR w v) (h1 : m.bl = v.m.bl) (h2 : m.ys = v.m.ys) : RmR w (v.withM m) :=
  ⟨by show Sl 2 encP w v.A v.n v.c m.bl; rw [h1]; exact H.b, by show Sl 1 encN w v.B v.k v.d m.ys; rw [h2]; exact H.y, H.bn, H.yn, H.ta, H.tb⟩
theorem Fr.withM {M : Nat} {v v' : RV} {m : RM} (H : Fr M v v') (h1 : m.bl = v'.m.bl) (h2 : m.ys = v'.m.ys) : Fr M v (v'.withM m) :=
  ⟨by show FrA M v.A v'.A v.m.bl m.bl; rw [h1]; exact H.1, by show FrA M v.B v'.B v.m.ys m.ys; rw [h2]; exact H.2⟩
noncomputable def rallocM (m : RM) (n al : Int) : RM × Int × Int :=
  if (decide (1 ≤ n) && decide (n ≤ 4096) && alignB al) = false then (m, 0, 1)
  else if (countR m).2 = true ∨ 64 ≤ m.bl.length then ((countR m).1, 0, 3)
  else match roomR (countR m).1 n al with
    | none => ((countR m).1, 0, 3)
    | some a => (peakR (setR (putR (countR m).1 a n) a.toNat (a + n).toNat (-1)), a, 0)
def MPost2 (r : RM × Int × Int) (w : World) (v : RV) (e : Ending) (w' : World) : Prop :=
  ∃ v', e = .returned (.tuple #[v'.val, .int .i64 r.2.1, .int .i64 r.2.2]) ∧ v'.m = r.1 ∧ RmR w' v' ∧ Fr w.heap.size v v' ∧ Q w w'
def isRm (M : RM) (w : World) (v : RV) (e : Ending) (w' : World) : Prop :=
  ∃ v', e = .returned v'.val ∧ v'.m = M ∧ RmR w' v' ∧ Fr w.heap.size v v' ∧ Q w w'
theorem alignB_in {a : Int} (h : alignB a = true) : 1 ≤ a ∧ a ≤ 16 := by
  unfold alignB at h
  simp at h
  omega
set_option maxRecDepth 100000 in
set_option maxHeartbeats 8000000 in
theorem rAlloc_any (v : RV) (z al : Int) (w : World) (H : RmR w v) (N : RmN v.m) (hk : 0 ≤ v.m.kind ∧ v.m.kind ≤ 3) (hpc : v.m.kind = 3 → 1 ≤ v.m.piece) (hsz : 0 < v.m.size) (hcl : v.m.calls < 1000000) :
    Calls Tryz.prog 23 #[v.val, .int .i64 z, .int .i64 al] w (MPost2 (rallocM v.m z al) w v) := by
  have N1 := N.count hcl
  have HWI := hide fun (W : World) => within_any z 1 4096 W
  have HAL := hide fun (W : World) => rIsAlign_any al W
  have HCN := hide fun (W : World) => rCounted_any v W N
  have HRM : Hid (∀ W, Q w W → RmR W (v.withM (countR v.m).1)) := fun W h => (H.up h).withM rfl rfl
  have HIN : Hid (∀ a, (decide (1 ≤ z) && decide (z ≤ 4096)) = true → alignB al = true → roomR (countR v.m).1 z al = some a → 0 ≤ a ∧ a + z ≤ v.m.size) := fun a h1 h2 h3 => by
    simp only [Bool.and_eq_true, decide_eq_true_eq] at h1
    exact roomR_in N1 hpc h1.1 (alignB_in h2).1 h3
  have HRO : Hid (∀ W, Q w W → (decide (1 ≤ z) && decide (z ≤ 4096)) = true → alignB al = true → Calls Tryz.prog 54 #[(v.withM (countR v.m).1).val, .int .i64 z, .int .i64 al] W (RoomPost (roomR (countR v.m).1 z al) W)) := fun W h h1 h2 => by
    simp only [Bool.and_eq_true, decide_eq_true_eq] at h1
    exact rRoom_any (v.withM (countR v.m).1) z al W (HRM.out W h) N1 hk hpc h1.1 h1.2 (alignB_in h2).1 (alignB_in h2).2
  have HPU : Hid (∀ W a, Q w W → (decide (1 ≤ z) && decide (z ≤ 4096)) = true → 0 ≤ a → a + z ≤ v.m.size → Calls Tryz.prog 57 #[(v.withM (countR v.m).1).val, .int .i64 a, .int .i64 z] W (isRm (putR (countR v.m).1 a z) W (v.withM (countR v.m).1))) := fun W a h h1 h2 h3 => by
    simp only [Bool.and_eq_true, decide_eq_true_eq] at h1
    have := N.sz
    exact rPut_fr (v.withM (countR v.m).1) a z W (HRM.out W h) N1 h2 (by omega) (by omega) (by omega)
  have HST : Hid (∀ W v2 a, v2.m = putR (countR v.m).1 a z → RmR W v2 → (decide (1 ≤ z) && decide (z ≤ 4096)) = true → v.m.bl.length < 64 → 0 ≤ a → a + z ≤ v.m.size → Calls Tryz.prog 56 #[v2.val, .int .i64 a, .int .i64 (a + z), .int .i64 (-1)] W (isRm (setR (putR (countR v.m).1 a z) a.toNat (a + z).toNat (-1)) W v2)) := fun W v2 a e h2 h1 hl h3 h4 => by
    simp only [Bool.and_eq_true, decide_eq_true_eq] at h1
    have N2 : RmN v2.m := by rw [e]; exact N1.put (by show v.m.bl.length ≤ 99; omega) h3 (by omega) h4
    obtain ⟨j, rfl⟩ : ∃ j : Nat, a = (j : Int) := ⟨a.toNat, by omega⟩
    obtain ⟨i, hi⟩ : ∃ i : Nat, (j : Int) + z = (i : Int) := ⟨((j : Int) + z).toNat, by omega⟩
    rw [hi, Int.toNat_natCast, Int.toNat_natCast, ← e]
    have e2 : v2.m.size = v.m.size := by rw [e]; rfl
    exact rSet_fr v2 j i (-1) W h2 N2 (by omega) (by omega) (by omega)
  have HPK : Hid (∀ W v3 a, v3.m = setR (putR (countR v.m).1 a z) a.toNat (a + z).toNat (-1) → RmR W v3 → (decide (1 ≤ z) && decide (z ≤ 4096)) = true → v.m.bl.length < 64 → 0 ≤ a → a + z ≤ v.m.size → Calls Tryz.prog 55 #[v3.val] W fun e w' => e = .returned (v3.withM (peakR v3.m)).val ∧ Q W w') := fun W v3 a e h2 h1 hl h3 h4 => by
    simp only [Bool.and_eq_true, decide_eq_true_eq] at h1
    exact rPeaked_any v3 W h2 (by rw [e]; exact (N1.put (by show v.m.bl.length ≤ 99; omega) h3 (by omega) h4).set _ _ _)
  have hnl := H.b.len
  have hnl2 := N.n
  obtain ⟨R, hR⟩ : ∃ R, R = rallocM v.m z al := ⟨_, rfl⟩
  rw [← hR]
  unfold rallocM at hR
  obtain ⟨b1, hb1⟩ : ∃ b1, b1 = (decide (1 ≤ z) && decide (z ≤ 4096)) := ⟨_, rfl⟩
  obtain ⟨b2, hb2⟩ : ∃ b2, b2 = alignB al := ⟨_, rfl⟩
  have HZ : Hid (b1 = true → 1 ≤ z ∧ z ≤ 4096) := fun h => by
    rw [hb1] at h
    simpa using h
  rw [← hb1] at HWI HIN HRO HPU HST HPK hR
  rw [← hb2] at HAL HIN HRO hR
  clear hb1 hb2
  obtain ⟨RO, hRO⟩ : ∃ RO, RO = roomR (countR v.m).1 z al := ⟨_, rfl⟩
  rw [← hRO] at HIN HRO hR
  clear hRO
  obtain ⟨PK, hPKd⟩ : ∃ PK : Int → RM, PK = fun a => setR (putR (countR v.m).1 a z) a.toNat (a + z).toNat (-1) := ⟨_, rfl⟩
  obtain ⟨PU, hPUd⟩ : ∃ PU : Int → RM, PU = fun a => putR (countR v.m).1 a z := ⟨_, rfl⟩
  have e1 : ∀ a, putR (countR v.m).1 a z = PU a := fun a => by rw [hPUd]
  have e2 : ∀ a, setR (PU a) a.toNat (a + z).toNat (-1) = PK a := fun a => by rw [hPKd, hPUd]
  simp only [e1, e2] at HPU HST HPK hR
  clear e1 e2 hPKd hPUd
  have HRMW := hide H
  have HRMN := hide N
  obtain ⟨q, hq⟩ : ∃ q, q = (countR v.m).2 := ⟨_, rfl⟩
  obtain ⟨fl, hfl⟩ : ∃ fl, fl = (countR v.m).1.fail := ⟨_, rfl⟩
  have hcm : (countR v.m).1 = { v.m with calls := v.m.calls + 1, fail := fl } := by rw [hfl]; rfl
  rw [hcm] at HCN HRM HRO HPU hR
  rw [← hq] at HCN hR
  have h7 := N.cl
  clear hcm hq hfl H N N1 hk hpc
  unfold RV.withM RV.val RV.cells at HCN HRO HPU
  unfold RV.withM at HRM
  unfold RV.val RV.cells
  obtain ⟨A0, n, c, B, k, d, ⟨m0, m1, m2, bl, ys, m5, m6, m7, m8⟩⟩ := v
  dsimp only at HCN HRM HRO HIN HPU HST HPK hR h7 hsz hcl hnl hnl2 ⊢
  obtain ⟨h70, h71⟩ := h7
  have HR := hide hR
  have HNL := hide hnl
  have hni : (n : Int) ≤ 100 := by omega
  clear hnl hnl2
  obtain ⟨w1, hw1⟩ : ∃ w1, (w.alloc (.cells #[.int .i64 m0, .int .i64 m1, .int .i64 m2, .slice A0 n c, .slice B k d, .int .i64 m5, .int .i64 m6, .int .i64 m7, .int .i64 m8] MT)).alloc (.cells #[.int .i64 0, .int .i64 0, .int .i64 0, .slice none 0 0, .slice none 0 0, .int .i64 0, .int .i64 0, .int .i64 0, .int .i64 0] MT) = w1 := ⟨_, rfl⟩
  have hq1 : Q w w1 := by rw [← hw1]; exact ((Q.refl w).alloc _).alloc _
  have hs1 : w.heap.size + 1 < w1.heap.size := by rw [← hw1]; simp
  have hs0 : w.heap.size < w1.heap.size := by omega
  have q0 : w1.heap[w.heap.size]? = some (.cells #[.int .i64 m0, .int .i64 m1, .int .i64 m2, .slice A0 n c, .slice B k d, .int .i64 m5, .int .i64 m6, .int .i64 m7, .int .i64 m8] MT (0, 0)) := by
    rw [← hw1, ((Q.refl (w.alloc _)).alloc _).below.block _ (by simp)]
    exact heap_alloc_new w _
  have q1 : w1.heap[w.heap.size + 1]? = some (.cells #[.int .i64 0, .int .i64 0, .int .i64 0, .slice none 0 0, .slice none 0 0, .int .i64 0, .int .i64 0, .int .i64 0, .int .i64 0] MT (0, 0)) := by
    have h := heap_alloc_new (w.alloc (.cells #[.int .i64 m0, .int .i64 m1, .int .i64 m2, .slice A0 n c, .slice B k d, .int .i64 m5, .int .i64 m6, .int .i64 m7, .int .i64 m8] MT)) (.cells #[.int .i64 0, .int .i64 0, .int .i64 0, .slice none 0 0, .slice none 0 0, .int .i64 0, .int .i64 0, .int .i64 0, .int .i64 0] MT)
    rw [show (w.alloc (.cells #[.int .i64 m0, .int .i64 m1, .int .i64 m2, .slice A0 n c, .slice B k d, .int .i64 m5, .int .i64 m6, .int .i64 m7, .int .i64 m8] MT)).heap.size = w.heap.size + 1 by simp, hw1] at h
    exact h
  have HW1 := hide hw1
  have HR0 := hide q0
  have HR1 := hide q1
  have HQ1 := hide hq1
  obtain ⟨k0, k1, k2, k3, k4, k5, k6, k7, k8⟩ := cells9 q0
  obtain ⟨z0, z1, z2, z3, z4, z5, z6, z7, z8⟩ := cells9 q1
  obtain ⟨y0, y1, y2, y3, y4, y5, y6, y7, y8⟩ := free9 q1
  clear hw1 hq1 q0 q1 hR
  go_enter Tryz.func23, Tryz.ntmps23
  cases b1
  · have HRR : Hid (R = (⟨m0, m1, m2, bl, ys, m5, m6, m7, m8⟩, 0, 1)) := hide (by rw [HR.out, if_pos (by rfl)])
    clear HR HIN HRO HPU HST HPK HRM HZ HCN
    go_wp2_with (go_at_call 15; refine (HWI.out _).mono ?_; rintro e w2 ⟨rfl, rfl⟩; rw [HW1.out])
    have hg := row9 (w := w1) (b := w.heap.size + 1) (.int .i64 m0) (.int .i64 m1) (.int .i64 m2) (.slice A0 n c) (.slice B k d) (.int .i64 m5) (.int .i64 m6) (.int .i64 m7) (.int .i64 m8) HR1.out
    have hF := q9 (w0 := w) (w := w1) (b := w.heap.size + 1) (.int .i64 m0) (.int .i64 m1) (.int .i64 m2) (.slice A0 n c) (.slice B k d) (.int .i64 m5) (.int .i64 m6) (.int .i64 m7) (.int .i64 m8) (HQ1.out) (by omega)
    refine bodyPost_ret (v := .tuple #[.agg #[.int .i64 m0, .int .i64 m1, .int .i64 m2, .slice A0 n c, .slice B k d, .int .i64 m5, .int .i64 m6, .int .i64 m7, .int .i64 m8], .int .i64 0, .int .i64 1]) (ret_m3 (p := 6) (u := 7) (x := 8) rfl rfl (by simp) (by simp) (by simp) hg) rfl ?_
    rw [HRR.out]
    exact ⟨⟨A0, n, c, B, k, d, ⟨m0, m1, m2, bl, ys, m5, m6, m7, m8⟩⟩, rfl, rfl, HRMW.out.up hF, Fr.refl _ _, hF⟩
  cases b2
  · have HRR : Hid (R = (⟨m0, m1, m2, bl, ys, m5, m6, m7, m8⟩, 0, 1)) := hide (by rw [HR.out, if_pos (by rfl)])
    clear HR HIN HRO HPU HST HPK HRM HZ HCN
    go_wp2_with (first | (go_at_call 15; refine (HWI.out _).mono ?_; rintro e w2 ⟨rfl, rfl⟩; rw [HW1.out]) | (go_at_call 52; refine (HAL.out _).mono ?_; rintro e w2 ⟨rfl, rfl⟩))
    have hg := row9 (w := w1) (b := w.heap.size + 1) (.int .i64 m0) (.int .i64 m1) (.int .i64 m2) (.slice A0 n c) (.slice B k d) (.int .i64 m5) (.int .i64 m6) (.int .i64 m7) (.int .i64 m8) HR1.out
    have hF := q9 (w0 := w) (w := w1) (b := w.heap.size + 1) (.int .i64 m0) (.int .i64 m1) (.int .i64 m2) (.slice A0 n c) (.slice B k d) (.int .i64 m5) (.int .i64 m6) (.int .i64 m7) (.int .i64 m8) (HQ1.out) (by omega)
    refine bodyPost_ret (v := .tuple #[.agg #[.int .i64 m0, .int .i64 m1, .int .i64 m2, .slice A0 n c, .slice B k d, .int .i64 m5, .int .i64 m6, .int .i64 m7, .int .i64 m8], .int .i64 0, .int .i64 1]) (ret_m3 (p := 6) (u := 7) (x := 8) rfl rfl (by simp) (by simp) (by simp) hg) rfl ?_
    rw [HRR.out]
    exact ⟨⟨A0, n, c, B, k, d, ⟨m0, m1, m2, bl, ys, m5, m6, m7, m8⟩⟩, rfl, rfl, HRMW.out.up hF, Fr.refl _ _, hF⟩
  obtain ⟨hz0, hz1⟩ := HZ.out rfl
  go_wp2_with (first | (go_at_call 15; refine (HWI.out _).mono ?_; rintro e w2 ⟨rfl, rfl⟩; rw [HW1.out]) | (go_at_call 52; refine (HAL.out _).mono ?_; rintro e w2 ⟨rfl, rfl⟩))
  refine (HCN.out _).mono ?_
  rintro e w2 ⟨rfl, hq2⟩
  have q0 := (hq2.below.block _ hs0).trans HR0.out
  have q1 := (hq2.below.block _ hs1).trans HR1.out
  obtain ⟨k0, k1, k2, k3, k4, k5, k6, k7, k8⟩ := cells9 q0
  obtain ⟨f0, f1, f2, f3, f4, f5, f6, f7, f8⟩ := free9 q0
  obtain ⟨z0, z1, z2, z3, z4, z5, z6, z7, z8⟩ := cells9 q1
  obtain ⟨y0, y1, y2, y3, y4, y5, y6, y7, y8⟩ := free9 q1
  have HR0 := hide q0
  have HR1 := hide q1
  have HQ := hide (HQ1.out.trans hq2)
  have hs0 : w.heap.size < w2.heap.size := by have := hq2.size; omega
  have hs1 : w.heap.size + 1 < w2.heap.size := by have := hq2.size; omega
  clear q0 q1 hq2
  clear HCN
  by_cases hqt : q = true
  · subst hqt
    have HRR : Hid (R = (⟨m0, m1, m2, bl, ys, m5, m6, m7 + 1, fl⟩, 0, 3)) := hide (by rw [HR.out, if_neg (by decide), if_pos (.inl rfl)])
    clear HR HIN HRO HPU HST HPK
    go_wp2_with fail
    obtain ⟨w3, hw3⟩ : ∃ w3, w3 = (((((((((w2.setCell ⟨w.heap.size, 0, none⟩ (.int .i64 m0)).setCell ⟨w.heap.size, 1, none⟩ (.int .i64 m1)).setCell ⟨w.heap.size, 2, none⟩ (.int .i64 m2)).setCell ⟨w.heap.size, 3, none⟩ (.slice A0 n c)).setCell ⟨w.heap.size, 4, none⟩ (.slice B k d)).setCell ⟨w.heap.size, 5, none⟩ (.int .i64 m5)).setCell ⟨w.heap.size, 6, none⟩ (.int .i64 m6)).setCell ⟨w.heap.size, 7, none⟩ (.int .i64 (m7 + 1))).setCell ⟨w.heap.size, 8, none⟩ (.int .i64 fl)) := ⟨_, rfl⟩
    rw [← hw3]
    have q0 : w3.heap[w.heap.size]? = some (.cells #[.int .i64 m0, .int .i64 m1, .int .i64 m2, .slice A0 n c, .slice B k d, .int .i64 m5, .int .i64 m6, .int .i64 (m7 + 1), .int .i64 fl] MT (0, 0)) := by
      rw [hw3]
      exact row9g (w := w2) (b := w.heap.size) (.int .i64 m0) (.int .i64 m1) (.int .i64 m2) (.slice A0 n c) (.slice B k d) (.int .i64 m5) (.int .i64 m6) (.int .i64 (m7 + 1)) (.int .i64 fl) HR0.out
    have q1 : w3.heap[w.heap.size + 1]? = some (.cells #[.int .i64 0, .int .i64 0, .int .i64 0, .slice none 0 0, .slice none 0 0, .int .i64 0, .int .i64 0, .int .i64 0, .int .i64 0] MT (0, 0)) := by
      rw [hw3, keep9 w2 w.heap.size (.int .i64 m0) (.int .i64 m1) (.int .i64 m2) (.slice A0 n c) (.slice B k d) (.int .i64 m5) (.int .i64 m6) (.int .i64 (m7 + 1)) (.int .i64 fl) (w.heap.size + 1) (by omega)]
      exact HR1.out
    have HQ := hide (show Q w w3 by
      rw [hw3]
      exact q9 (w0 := w) (w := w2) (b := w.heap.size) (.int .i64 m0) (.int .i64 m1) (.int .i64 m2) (.slice A0 n c) (.slice B k d) (.int .i64 m5) (.int .i64 m6) (.int .i64 (m7 + 1)) (.int .i64 fl) HQ.out (Nat.le_refl _))
    have hs0 : w.heap.size < w3.heap.size := by have : w3.heap.size = w2.heap.size := (by rw [hw3]; simp [World.setCell]); omega
    have hs1 : w.heap.size + 1 < w3.heap.size := by have : w3.heap.size = w2.heap.size := (by rw [hw3]; simp [World.setCell]); omega
    have HR0 := hide q0
    have HR1 := hide q1
    have hg := row9 (w := w3) (b := w.heap.size + 1) (.int .i64 m0) (.int .i64 m1) (.int .i64 m2) (.slice A0 n c) (.slice B k d) (.int .i64 m5) (.int .i64 m6) (.int .i64 (m7 + 1)) (.int .i64 fl) HR1.out
    have hF := q9 (w0 := w) (w := w3) (b := w.heap.size + 1) (.int .i64 m0) (.int .i64 m1) (.int .i64 m2) (.slice A0 n c) (.slice B k d) (.int .i64 m5) (.int .i64 m6) (.int .i64 (m7 + 1)) (.int .i64 fl) (HQ.out) (by omega)
    refine bodyPost_ret (v := .tuple #[.agg #[.int .i64 m0, .int .i64 m1, .int .i64 m2, .slice A0 n c, .slice B k d, .int .i64 m5, .int .i64 m6, .int .i64 (m7 + 1), .int .i64 fl], .int .i64 0, .int .i64 3]) (ret_m3 (p := 6) (u := 7) (x := 8) rfl rfl (by simp) (by simp) (by simp) hg) rfl ?_
    rw [HRR.out]
    exact ⟨⟨A0, n, c, B, k, d, ⟨m0, m1, m2, bl, ys, m5, m6, m7 + 1, fl⟩⟩, rfl, rfl, HRM.out _ hF, Fr.withM (m := ⟨m0, m1, m2, bl, ys, m5, m6, m7 + 1, fl⟩) (Fr.refl _ _) rfl rfl, hF⟩
  obtain rfl : q = false := by simpa using hqt
  clear hqt
  by_cases h64 : 64 ≤ n
  · have hd1 : decide (64 ≤ n) = true := by simpa using h64
    have hd2 : decide ((64 : Int) ≤ (n : Int)) = true := by simp; omega
    have HRR : Hid (R = (⟨m0, m1, m2, bl, ys, m5, m6, m7 + 1, fl⟩, 0, 3)) := hide (by rw [HR.out, if_neg (by decide), if_pos (.inr (by rw [HNL.out]; exact h64))])
    clear HR HIN HRO HPU HST HPK
    go_wp2_with fail
    obtain ⟨w3, hw3⟩ : ∃ w3, w3 = (((((((((w2.setCell ⟨w.heap.size, 0, none⟩ (.int .i64 m0)).setCell ⟨w.heap.size, 1, none⟩ (.int .i64 m1)).setCell ⟨w.heap.size, 2, none⟩ (.int .i64 m2)).setCell ⟨w.heap.size, 3, none⟩ (.slice A0 n c)).setCell ⟨w.heap.size, 4, none⟩ (.slice B k d)).setCell ⟨w.heap.size, 5, none⟩ (.int .i64 m5)).setCell ⟨w.heap.size, 6, none⟩ (.int .i64 m6)).setCell ⟨w.heap.size, 7, none⟩ (.int .i64 (m7 + 1))).setCell ⟨w.heap.size, 8, none⟩ (.int .i64 fl)) := ⟨_, rfl⟩
    rw [← hw3]
    have q0 : w3.heap[w.heap.size]? = some (.cells #[.int .i64 m0, .int .i64 m1, .int .i64 m2, .slice A0 n c, .slice B k d, .int .i64 m5, .int .i64 m6, .int .i64 (m7 + 1), .int .i64 fl] MT (0, 0)) := by
      rw [hw3]
      exact row9g (w := w2) (b := w.heap.size) (.int .i64 m0) (.int .i64 m1) (.int .i64 m2) (.slice A0 n c) (.slice B k d) (.int .i64 m5) (.int .i64 m6) (.int .i64 (m7 + 1)) (.int .i64 fl) HR0.out
    have q1 : w3.heap[w.heap.size + 1]? = some (.cells #[.int .i64 0, .int .i64 0, .int .i64 0, .slice none 0 0, .slice none 0 0, .int .i64 0, .int .i64 0, .int .i64 0, .int .i64 0] MT (0, 0)) := by
      rw [hw3, keep9 w2 w.heap.size (.int .i64 m0) (.int .i64 m1) (.int .i64 m2) (.slice A0 n c) (.slice B k d) (.int .i64 m5) (.int .i64 m6) (.int .i64 (m7 + 1)) (.int .i64 fl) (w.heap.size + 1) (by omega)]
      exact HR1.out
    have HQ := hide (show Q w w3 by
      rw [hw3]
      exact q9 (w0 := w) (w := w2) (b := w.heap.size) (.int .i64 m0) (.int .i64 m1) (.int .i64 m2) (.slice A0 n c) (.slice B k d) (.int .i64 m5) (.int .i64 m6) (.int .i64 (m7 + 1)) (.int .i64 fl) HQ.out (Nat.le_refl _))
    have hs0 : w.heap.size < w3.heap.size := by have : w3.heap.size = w2.heap.size := (by rw [hw3]; simp [World.setCell]); omega
    have hs1 : w.heap.size + 1 < w3.heap.size := by have : w3.heap.size = w2.heap.size := (by rw [hw3]; simp [World.setCell]); omega
    have HR0 := hide q0
    have HR1 := hide q1
    have hg := row9 (w := w3) (b := w.heap.size + 1) (.int .i64 m0) (.int .i64 m1) (.int .i64 m2) (.slice A0 n c) (.slice B k d) (.int .i64 m5) (.int .i64 m6) (.int .i64 (m7 + 1)) (.int .i64 fl) HR1.out
    have hF := q9 (w0 := w) (w := w3) (b := w.heap.size + 1) (.int .i64 m0) (.int .i64 m1) (.int .i64 m2) (.slice A0 n c) (.slice B k d) (.int .i64 m5) (.int .i64 m6) (.int .i64 (m7 + 1)) (.int .i64 fl) (HQ.out) (by omega)
    refine bodyPost_ret (v := .tuple #[.agg #[.int .i64 m0, .int .i64 m1, .int .i64 m2, .slice A0 n c, .slice B k d, .int .i64 m5, .int .i64 m6, .int .i64 (m7 + 1), .int .i64 fl], .int .i64 0, .int .i64 3]) (ret_m3 (p := 6) (u := 7) (x := 8) rfl rfl (by simp) (by simp) (by simp) hg) rfl ?_
    rw [HRR.out]
    exact ⟨⟨A0, n, c, B, k, d, ⟨m0, m1, m2, bl, ys, m5, m6, m7 + 1, fl⟩⟩, rfl, rfl, HRM.out _ hF, Fr.withM (m := ⟨m0, m1, m2, bl, ys, m5, m6, m7 + 1, fl⟩) (Fr.refl _ _) rfl rfl, hF⟩
  have hd1 : decide (64 ≤ n) = false := by simpa using h64
  have hd2 : decide ((64 : Int) ≤ (n : Int)) = false := by simp; omega
  have HB : Hid (bl.length < 64) := hide (by rw [HNL.out]; omega)
  rw [if_neg (by decide), if_neg (fun h => by rcases h with h | h; (· cases h); (· have := HB.out; omega))] at HR
  go_wp2_with fail
  obtain ⟨w3, hw3⟩ : ∃ w3, w3 = (((((((((w2.setCell ⟨w.heap.size, 0, none⟩ (.int .i64 m0)).setCell ⟨w.heap.size, 1, none⟩ (.int .i64 m1)).setCell ⟨w.heap.size, 2, none⟩ (.int .i64 m2)).setCell ⟨w.heap.size, 3, none⟩ (.slice A0 n c)).setCell ⟨w.heap.size, 4, none⟩ (.slice B k d)).setCell ⟨w.heap.size, 5, none⟩ (.int .i64 m5)).setCell ⟨w.heap.size, 6, none⟩ (.int .i64 m6)).setCell ⟨w.heap.size, 7, none⟩ (.int .i64 (m7 + 1))).setCell ⟨w.heap.size, 8, none⟩ (.int .i64 fl)) := ⟨_, rfl⟩
  rw [← hw3]
  have q0 : w3.heap[w.heap.size]? = some (.cells #[.int .i64 m0, .int .i64 m1, .int .i64 m2, .slice A0 n c, .slice B k d, .int .i64 m5, .int .i64 m6, .int .i64 (m7 + 1), .int .i64 fl] MT (0, 0)) := by
    rw [hw3]
    exact row9g (w := w2) (b := w.heap.size) (.int .i64 m0) (.int .i64 m1) (.int .i64 m2) (.slice A0 n c) (.slice B k d) (.int .i64 m5) (.int .i64 m6) (.int .i64 (m7 + 1)) (.int .i64 fl) HR0.out
  have q1 : w3.heap[w.heap.size + 1]? = some (.cells #[.int .i64 0, .int .i64 0, .int .i64 0, .slice none 0 0, .slice none 0 0, .int .i64 0, .int .i64 0, .int .i64 0, .int .i64 0] MT (0, 0)) := by
    rw [hw3, keep9 w2 w.heap.size (.int .i64 m0) (.int .i64 m1) (.int .i64 m2) (.slice A0 n c) (.slice B k d) (.int .i64 m5) (.int .i64 m6) (.int .i64 (m7 + 1)) (.int .i64 fl) (w.heap.size + 1) (by omega)]
    exact HR1.out
  have HQ := hide (show Q w w3 by
    rw [hw3]
    exact q9 (w0 := w) (w := w2) (b := w.heap.size) (.int .i64 m0) (.int .i64 m1) (.int .i64 m2) (.slice A0 n c) (.slice B k d) (.int .i64 m5) (.int .i64 m6) (.int .i64 (m7 + 1)) (.int .i64 fl) HQ.out (Nat.le_refl _))
  have hs0 : w.heap.size < w3.heap.size := by have : w3.heap.size = w2.heap.size := (by rw [hw3]; simp [World.setCell]); omega
  have hs1 : w.heap.size + 1 < w3.heap.size := by have : w3.heap.size = w2.heap.size := (by rw [hw3]; simp [World.setCell]); omega
  have HR0 := hide q0
  have HR1 := hide q1
  obtain ⟨k0, k1, k2, k3, k4, k5, k6, k7, k8⟩ := cells9 q0
  obtain ⟨z0, z1, z2, z3, z4, z5, z6, z7, z8⟩ := cells9 q1
  obtain ⟨y0, y1, y2, y3, y4, y5, y6, y7, y8⟩ := free9 q1
  clear hw3 q0 q1
  refine (HRO.out w3 HQ.out (by simp) (by simp)).mono ?_
  rintro e w4 ⟨a, ok, rfl, hok, hax, hq4⟩
  have q0 := (hq4.below.block _ hs0).trans HR0.out
  have q1 := (hq4.below.block _ hs1).trans HR1.out
  obtain ⟨k0, k1, k2, k3, k4, k5, k6, k7, k8⟩ := cells9 q0
  obtain ⟨z0, z1, z2, z3, z4, z5, z6, z7, z8⟩ := cells9 q1
  obtain ⟨y0, y1, y2, y3, y4, y5, y6, y7, y8⟩ := free9 q1
  have HR0 := hide q0
  have HR1 := hide q1
  have HQ := hide (HQ.out.trans hq4)
  have hs0 : w.heap.size < w4.heap.size := by have := hq4.size; omega
  have hs1 : w.heap.size + 1 < w4.heap.size := by have := hq4.size; omega
  clear q0 q1 hq4
  cases RO with
  | none =>
    obtain rfl : ok = false := hok
    have HRR : Hid (R = (⟨m0, m1, m2, bl, ys, m5, m6, m7 + 1, fl⟩, 0, 3)) := HR
    clear HR HIN HRO HPU HST HPK hax
    go_wp2_with fail
    have hg := row9 (w := w4) (b := w.heap.size + 1) (.int .i64 m0) (.int .i64 m1) (.int .i64 m2) (.slice A0 n c) (.slice B k d) (.int .i64 m5) (.int .i64 m6) (.int .i64 (m7 + 1)) (.int .i64 fl) HR1.out
    have hF := q9 (w0 := w) (w := w4) (b := w.heap.size + 1) (.int .i64 m0) (.int .i64 m1) (.int .i64 m2) (.slice A0 n c) (.slice B k d) (.int .i64 m5) (.int .i64 m6) (.int .i64 (m7 + 1)) (.int .i64 fl) (HQ.out) (by omega)
    refine bodyPost_ret (v := .tuple #[.agg #[.int .i64 m0, .int .i64 m1, .int .i64 m2, .slice A0 n c, .slice B k d, .int .i64 m5, .int .i64 m6, .int .i64 (m7 + 1), .int .i64 fl], .int .i64 0, .int .i64 3]) (ret_m3 (p := 6) (u := 7) (x := 8) rfl rfl (by simp) (by simp) (by simp) hg) rfl ?_
    rw [HRR.out]
    exact ⟨⟨A0, n, c, B, k, d, ⟨m0, m1, m2, bl, ys, m5, m6, m7 + 1, fl⟩⟩, rfl, rfl, HRM.out _ hF, Fr.withM (m := ⟨m0, m1, m2, bl, ys, m5, m6, m7 + 1, fl⟩) (Fr.refl _ _) rfl rfl, hF⟩
  | some x =>
    obtain rfl : ok = true := hok
    obtain rfl := hax x rfl
    obtain ⟨ha0, ha1⟩ := HIN.out a (by simp) (by simp) (by simp)
    have hm1 : m1 ≤ 4096 := HRMN.out.sz.2
    have HRR : Hid (R = (peakR (PK a), a, 0)) := HR
    clear HR HIN HRO hax
    go_wp2_with fail
    refine (HPU.out w4 a HQ.out (by simp) ha0 ha1).mono ?_
    rintro e w5 ⟨v2, rfl, hm2, hR2, hF2, hq5⟩
    have hs14 : w.heap.size + 1 < w4.heap.size := hs1
    have hq5s := hq5.size
    have HF2 := hide hF2
    have q0 := (hq5.below.block _ hs0).trans HR0.out
    have q1 := (hq5.below.block _ hs1).trans HR1.out
    obtain ⟨k0, k1, k2, k3, k4, k5, k6, k7, k8⟩ := cells9 q0
    obtain ⟨z0, z1, z2, z3, z4, z5, z6, z7, z8⟩ := cells9 q1
    obtain ⟨y0, y1, y2, y3, y4, y5, y6, y7, y8⟩ := free9 q1
    have HR0 := hide q0
    have HR1 := hide q1
    have HQ := hide (HQ.out.trans hq5)
    have hs0 : w.heap.size < w5.heap.size := by have := hq5.size; omega
    have hs1 : w.heap.size + 1 < w5.heap.size := by have := hq5.size; omega
    clear q0 q1 hq5
    have HSW := hide (HST.out w5 v2 a hm2 hR2 (by simp) HB.out ha0 ha1)
    clear HPU HST hm2 hR2 hF2
    go_wp2_with fail
    refine HSW.out.mono ?_
    rintro e w6 ⟨v3, rfl, hm3, hR3, hF3, hq6⟩
    have hs45 : w4.heap.size ≤ w5.heap.size := hq5s
    have HF4 := hide (show Fr w4.heap.size ⟨A0, n, c, B, k, d, ⟨m0, m1, m2, bl, ys, m5, m6, m7 + 1, fl⟩⟩ v3 from Fr.trans HF2.out hF3 hs45)
    have q0 := (hq6.below.block _ hs0).trans HR0.out
    have q1 := (hq6.below.block _ hs1).trans HR1.out
    obtain ⟨k0, k1, k2, k3, k4, k5, k6, k7, k8⟩ := cells9 q0
    obtain ⟨z0, z1, z2, z3, z4, z5, z6, z7, z8⟩ := cells9 q1
    obtain ⟨y0, y1, y2, y3, y4, y5, y6, y7, y8⟩ := free9 q1
    have HR0 := hide q0
    have HR1 := hide q1
    have HQ := hide (HQ.out.trans hq6)
    have hs0 : w.heap.size < w6.heap.size := by have := hq6.size; omega
    have hs1 : w.heap.size + 1 < w6.heap.size := by have := hq6.size; omega
    clear q0 q1 hq6
    have HPW := hide (HPK.out w6 v3 a hm3 hR3 (by simp) HB.out ha0 ha1)
    have HM := hide hm3
    have HRR3 := hide hR3
    clear HPK hm3 hR3 hF3 HSW
    go_wp2_with fail
    refine HPW.out.mono ?_
    rintro e w7 ⟨rfl, hq7⟩
    have HR7 := hide (HRR3.out.up hq7)
    have q0 := (hq7.below.block _ hs0).trans HR0.out
    have q1 := (hq7.below.block _ hs1).trans HR1.out
    obtain ⟨k0, k1, k2, k3, k4, k5, k6, k7, k8⟩ := cells9 q0
    obtain ⟨z0, z1, z2, z3, z4, z5, z6, z7, z8⟩ := cells9 q1
    obtain ⟨y0, y1, y2, y3, y4, y5, y6, y7, y8⟩ := free9 q1
    have HR0 := hide q0
    have HR1 := hide q1
    have HQ := hide (HQ.out.trans hq7)
    have hs0 : w.heap.size < w7.heap.size := by have := hq7.size; omega
    have hs1 : w.heap.size + 1 < w7.heap.size := by have := hq7.size; omega
    clear q0 q1 hq7
    obtain ⟨A', n', c', B', k', d', ⟨r0, r1, r2, rb, ry, r5, r6, r7, r8⟩⟩ := v3
    dsimp only [RV.withM, peakR, RV.val, RV.cells]
    clear HPW HRR3
    go_wp2_with fail
    have hg := row9 (w := w7) (b := w.heap.size + 1) (.int .i64 r0) (.int .i64 r1) (.int .i64 r2) (.slice A' n' c') (.slice B' k' d') (.int .i64 r5) (.int .i64 (max r6 (sumS rb))) (.int .i64 r7) (.int .i64 r8) HR1.out
    have hF := q9 (w0 := w) (w := w7) (b := w.heap.size + 1) (.int .i64 r0) (.int .i64 r1) (.int .i64 r2) (.slice A' n' c') (.slice B' k' d') (.int .i64 r5) (.int .i64 (max r6 (sumS rb))) (.int .i64 r7) (.int .i64 r8) (HQ.out) (by omega)
    refine bodyPost_ret (v := .tuple #[.agg #[.int .i64 r0, .int .i64 r1, .int .i64 r2, .slice A' n' c', .slice B' k' d', .int .i64 r5, .int .i64 (max r6 (sumS rb)), .int .i64 r7, .int .i64 r8], .int .i64 a, .int .i64 0]) (ret_m3 (p := 6) (u := 7) (x := 8) rfl rfl (by simp) (by simp) (by simp) hg) rfl ?_
    have hF14 : Fr w4.heap.size ⟨A0, n, c, B, k, d, ⟨m0, m1, m2, bl, ys, m5, m6, m7 + 1, fl⟩⟩ ⟨A', n', c', B', k', d', ⟨r0, r1, r2, rb, ry, r5, max r6 (sumS rb), r7, r8⟩⟩ := Fr.withM (m := ⟨r0, r1, r2, rb, ry, r5, max r6 (sumS rb), r7, r8⟩) HF4.out rfl rfl
    have hR9 := RmR.keep (HRM.out w (Q.refl w)) (RmR.withM (m := ⟨r0, r1, r2, rb, ry, r5, max r6 (sumS rb), r7, r8⟩) HR7.out rfl rfl) hF14 (b := w.heap.size + 1) (by omega) hs14 (fun g _ => keep9 w7 (w.heap.size + 1) (.int .i64 r0) (.int .i64 r1) (.int .i64 r2) (.slice A' n' c') (.slice B' k' d') (.int .i64 r5) (.int .i64 (max r6 (sumS rb))) (.int .i64 r7) (.int .i64 r8) g) (by simp [World.setCell])
    have hfin : Fr w.heap.size ⟨A0, n, c, B, k, d, ⟨m0, m1, m2, bl, ys, m5, m6, m7, m8⟩⟩ ⟨A', n', c', B', k', d', ⟨r0, r1, r2, rb, ry, r5, max r6 (sumS rb), r7, r8⟩⟩ := Fr.trans (v1 := ⟨A0, n, c, B, k, d, ⟨m0, m1, m2, bl, ys, m5, m6, m7 + 1, fl⟩⟩) ⟨.inl ⟨rfl, rfl⟩, .inl ⟨rfl, rfl⟩⟩ hF14 (by omega)
    rw [HRR.out, ← HM.out]
    exact ⟨⟨A', n', c', B', k', d', ⟨r0, r1, r2, rb, ry, r5, max r6 (sumS rb), r7, r8⟩⟩, rfl, rfl, hR9, hfin, hF⟩
end Go.Proofs.YtegpkcbmgjoicaaGreat

namespace Go.Proofs.YtegpkcbmgjoicaaGreat
open Go.RowKit
set_option linter.unusedVariables false
namespace Ri
/-- what is to be shown of an operation, T being what may turn -/
abbrev StepT (T : World → World → Prop) (P : Program) (R : Exit → Act → World → Prop) (l : List Oper) (a : Act) (w0 : World) (φ : Nat → Value → World → Prop) (k : Nat) (o : Oper) : Prop :=
  o.guard = none ∧ ∀ (f : Nat → Value) (w : World), T w0 w → (∀ j, dep l.toArray l.length k j = true → φ j (f j) w) → ∀ A : Act, (∀ d i, ((l[i]?).bind (·.dst)) = some d → d < a.tmps.size → A.eval (.tmp d) = f i) → (∀ d, apartD (some d) l = true → A.eval (.tmp d) = a.eval (.tmp d)) → (∀ j, dep l.toArray l.length j k = true → f j = old a l j) →
      o.wp P A w (fun a' w' => ∃ v, a' = A.put o.dst v ∧ T w w' ∧ φ k v w') R
theorem StepT.q {T : World → World → Prop} {P : Program} {R : Exit → Act → World → Prop} {l : List Oper} {a : Act} {w0 : World} {φ : Nat → Value → World → Prop} {k : Nat} {o : Oper} (hqt : ∀ w1 w2, T w0 w1 → Q w1 w2 → T w1 w2)
    (h : o.guard = none ∧ ∀ (f : Nat → Value) (w : World), T w0 w → (∀ j, dep l.toArray l.length k j = true → φ j (f j) w) → ∀ A : Act, (∀ d i, ((l[i]?).bind (·.dst)) = some d → d < a.tmps.size → A.eval (.tmp d) = f i) → (∀ d, apartD (some d) l = true → A.eval (.tmp d) = a.eval (.tmp d)) → (∀ j, dep l.toArray l.length j k = true → f j = old a l j) →
      o.wp P A w (fun a' w' => ∃ v, a' = A.put o.dst v ∧ Q w w' ∧ φ k v w') R) : StepT T P R l a w0 φ k o :=
  ⟨h.1, fun f w ht hf A hA hB hO => Oper.wp_mono (fun a' w' ⟨v, e, hq, hp⟩ => ⟨v, e, hqt _ _ ht hq, hp⟩) (h.2 f w ht hf A hA hB hO)⟩
theorem madeT {T : World → World → Prop} {P : Program} {id : Nat} {R : Exit → Act → World → Prop} {a : Act} {w : World} {l : List Oper} (hrf : ∀ w, T w w) (htr : ∀ w1 w2 w3, T w1 w2 → T w2 w3 → T w1 w3) (φ : Nat → Value → World → Prop) (hm : P.follows .mixedOrders = true) (hB : chk l = true)
    (hmono : ∀ i v w1 w2, φ i v w1 → T w.drew w1 → T w1 w2 → φ i v w2) (hstep : All (StepT T P R l a w.drew φ) 0 l)
    (hend : ∀ f w', T w.drew w' → (∀ j, j < l.length → φ j (f j) w') → R .normal (acts f 0 l a) w') : (Code.region id l.toArray true).wp P R a w := by
  unfold chk at hB
  rw [Bool.and_eq_true] at hB
  have hev : ∀ (f : Nat → Value) d i, ((l[i]?).bind (·.dst)) = some d → d < a.tmps.size → (acts f 0 l a).eval (.tmp d) = f i := fun f d i hdi hs => acts_get l 0 a hB.1 (Nat.zero_le _) (by simpa using hdi) hs
  have hsame : ∀ (f : Nat → Value) d, apartD (some d) l = true → (acts f 0 l a).eval (.tmp d) = a.eval (.tmp d) := fun f d hd' => acts_same l 0 a hd'
  refine wp_region_any hm ?_
  have hst : a = acts (old a l) 0 l a := start
  have key := any (P := P) (ops := l.toArray) (R := R) (A := fun f => acts f 0 l a) (fun S f w' => T w.drew w' ∧ (∀ j, j < l.length → S j = true → φ j (f j) w') ∧ ∀ j, S j = false → f j = old a l j)
    (fun f i o v ho => acts_upd v l 0 a hB.1 (Nat.zero_le _) (by simpa using ho)) hB.2
    (fun S f w1 i o ho hSi hdep hwait hJ => by
      have ho' : l[i]? = some o := by simpa using ho
      have hil : i < l.length := (List.getElem?_eq_some_iff.1 ho').1
      have hs := all_get hstep ho'
      rw [Nat.zero_add] at hs
      have hdl : ∀ j, dep l.toArray l.length i j = true → φ j (f j) w1 := fun j hj => by
        have hSj := hdep j (by simpa using hj)
        refine hJ.2.1 j ?_ hSj
        refine Classical.byContradiction fun hge => ?_
        exact absurd hj (by rw [dep_far hB.2 l.length i j (by simpa using hge)]; exact Bool.false_ne_true)
      have := hs.2 f w1 hJ.1 hdl _ (hev f) (hsame f) (fun j hj => hJ.2.2 j (hwait j (by simpa using hj)))
      have grow : ∀ v w2, T w1 w2 → φ i v w2 → (T w.drew w2 ∧ (∀ j, j < l.length → upd S i true j = true → φ j (upd f i v j) w2) ∧ ∀ j, upd S i true j = false → upd f i v j = old a l j) := fun v w2 hq hφ => by
        refine ⟨htr _ _ _ hJ.1 hq, fun j hj hSj => ?_, fun j hSj => ?_⟩
        · unfold upd at hSj ⊢
          by_cases e : j = i
          · rw [if_pos e, e]; exact hφ
          · rw [if_neg e] at hSj ⊢
            exact hmono _ _ _ _ (hJ.2.1 j hj hSj) hJ.1 hq
        · unfold upd at hSj ⊢
          by_cases e : j = i
          · rw [if_pos e] at hSj; cases hSj
          · rw [if_neg e] at hSj ⊢
            exact hJ.2.2 j hSj
      rw [if_pos (by simp [Region.wanted, hs.1])]
      exact Oper.wp_mono (fun a' w2 ⟨v, e, hq, hφ⟩ => ⟨v, e, grow v w2 hq hφ⟩) this)
    (fun S f w1 hall hJ => hend f w1 hJ.1 (fun j hj => hJ.2.1 j hj (hall j (by simpa using hj))))
    l.toArray.size (Array.replicate l.toArray.size false) (old a l) { w with drawn := w.drawn + 1 } (by simp) (by simp) (fun i o ho h => absurd h (by rw [getD_rep]; exact Bool.false_ne_true)) ⟨hrf _, fun j hj h => absurd h (by show ¬ _ = _; dsimp only; rw [getD_rep]; exact Bool.false_ne_true), fun j _ => rfl⟩
  rw [← hst] at key
  exact key
/-- nothing that was there has turned but block b, and that is as it was or as X says -/
structure TX (b : Nat) (X : World → Prop) (w w' : World) : Prop where
  os : w'.os = w.os
  tape : w'.tape = w.tape
  output : w'.output = w.output
  size : w.heap.size ≤ w'.heap.size
  block : ∀ i, i < w.heap.size → i ≠ b → w'.heap[i]? = w.heap[i]?
  at_ : b < w.heap.size → w'.heap[b]? = w.heap[b]? ∨ X w'
theorem TX.refl (b : Nat) (X : World → Prop) (w : World) : TX b X w w := ⟨rfl, rfl, rfl, Nat.le_refl _, fun _ _ _ => rfl, fun _ => .inl rfl⟩
theorem TX.of_q {b : Nat} {X : World → Prop} {w w' : World} (h : Q w w') : TX b X w w' := ⟨h.below.os, h.below.tape, h.below.output, h.size, fun i hi _ => h.below.block i hi, fun hb => .inl (h.below.block b hb)⟩
theorem TX.trans {b : Nat} {X : World → Prop} (hX : ∀ w w', X w → Q w w' → X w') {w1 w2 w3 : World} (h : TX b X w1 w2) (k : TX b X w2 w3) : TX b X w1 w3 := by
  refine ⟨k.os.trans h.os, k.tape.trans h.tape, k.output.trans h.output, Nat.le_trans h.size k.size, fun i hi hn => (k.block i (Nat.lt_of_lt_of_le hi h.size) hn).trans (h.block i hi hn), fun hb => ?_⟩
  have hb2 := Nat.lt_of_lt_of_le hb h.size
  rcases k.at_ hb2 with e | e
  · rcases h.at_ hb with e' | e'
    · exact .inl (e.trans e')
    · refine .inr (hX _ _ e' ⟨k.os, k.tape, k.output, k.size, fun i hi => ?_⟩)
      by_cases hib : i = b
      · rw [hib]; exact e
      · exact k.block i hi hib
  · exact .inr e
theorem TX.keepX {b : Nat} {X : World → Prop} (hX : ∀ w w', X w → Q w w' → X w') {w1 w2 : World} (h : X w1) (k : TX b X w1 w2) (hb : b < w1.heap.size) : X w2 := by
  rcases k.at_ hb with e | e
  · refine hX _ _ h ⟨k.os, k.tape, k.output, k.size, fun i hi => ?_⟩
    by_cases hib : i = b
    · rw [hib]; exact e
    · exact k.block i hi hib
  · exact e
/-- from before the block was made, nothing has turned -/
theorem TX.q_of {b : Nat} {X : World → Prop} {w0 w w' : World} (hq : Q w0 w) (h : TX b X w w') (hb : w0.heap.size ≤ b) : Q w0 w' :=
  ⟨h.os.trans hq.below.os, h.tape.trans hq.below.tape, h.output.trans hq.below.output, Nat.le_trans hq.size h.size, fun i hi => (h.block i (Nat.lt_of_lt_of_le hi hq.size) (by omega)).trans (hq.below.block i hi)⟩
def MonoT (T : World → World → Prop) (w0 : World) (p : Value → World → Prop) : Prop := ∀ v w1 w2, p v w1 → T w0 w1 → T w1 w2 → p v w2
theorem mono_isT {T : World → World → Prop} {w0 : World} (c : Value) : MonoT T w0 (isV c) := fun _ _ _ h _ _ => h
def MonoTL (T : World → World → Prop) (w0 : World) : List (Value → World → Prop) → Prop
  | [] => True
  | p :: r => MonoT T w0 p ∧ MonoTL T w0 r
theorem phi_monoT {T : World → World → Prop} {w0 : World} : ∀ {ps : List (Value → World → Prop)}, MonoTL T w0 ps → ∀ i, MonoT T w0 (phi ps i)
  | [], _, i => fun _ _ _ _ _ _ => trivial
  | p :: r, h, 0 => h.1
  | p :: r, h, i + 1 => phi_monoT (ps := r) h.2 i
theorem TX.setRow {b : Nat} {X : World → Prop} {w : World} {cs : Array Value} (h : X (w.setRow b cs)) : TX b X w (w.setRow b cs) :=
  ⟨rfl, rfl, rfl, by simp, fun i _ hn => setRow_other _ _ _ _ hn, fun _ => .inr h⟩
end Ri
end Go.Proofs.YtegpkcbmgjoicaaGreat

namespace Go.Proofs.YtegpkcbmgjoicaaGreat
open Go.RowKit HP
set_option linter.unusedVariables false
theorem idxI_hit {α : Type} {p : α → Bool} {xs : List α} {k : Nat} {x : α} (h : idxI p xs = (k : Int)) (hx : xs[k]? = some x) : p x = true := by
  unfold idxI at h
  cases hf : xs.findIdx? p with
  | none => rw [hf] at h; simp at h
  | some j =>
    rw [hf] at h
    obtain ⟨h1, h2, -⟩ := List.findIdx?_eq_some_iff_getElem.1 hf
    have e0 : (j : Int) = (k : Int) := by simpa using h
    have e : j = k := by omega
    subst e
    rw [List.getElem?_eq_getElem h1] at hx
    cases hx
    exact h2
def growR (m : RM) (j : Nat) (x y z : Int) : RM := { m with top := if (m.kind = 1 ∨ m.kind = 2) ∧ x + y = m.top then x + z else m.top, bl := m.bl.set j (x, z) }
def copyN (ys old : List Int) (t f : Nat) : Nat → List Int
  | 0 => ys
  | i + 1 => (copyN ys old t f i).set (t + i) (old[f + i]?.getD 0)
theorem copyN_length (ys old : List Int) (t f : Nat) : ∀ i, (copyN ys old t f i).length = ys.length
  | 0 => rfl
  | i + 1 => by rw [copyN, List.length_set, copyN_length ys old t f i]
def movedR (m : RM) (to_ x y z : Int) : RM := { setR (putR m to_ z) to_.toNat (to_ + z).toNat (-1) with ys := copyN (setR (putR m to_ z) to_.toNat (to_ + z).toNat (-1)).ys m.ys to_.toNat x.toNat (min z y).toNat }
noncomputable def rsizedM (c : RM) (j : Nat) (x y z : Int) : RM × Int × Int :=
  if staysR c j x y z = true then (peakR (setR (growR c j x y z) (x + min z y).toNat (x + z).toNat (-1)), x, 0)
  else match roomR c z (alignOfM x) with
    | none => (c, 0, 3)
    | some t => (peakR (goneR (movedR c t x y z) (idxI (fun p => p.1 == x) (movedR c t x y z).bl).toNat x), t, 0)
noncomputable def rresizeM (m : RM) (at_ z : Int) : RM × Int × Int :=
  if (decide (1 ≤ z) && decide (z ≤ 4096)) = false then (m, 0, 1)
  else if idxI (fun p => p.1 == at_) m.bl < 0 then (m, 0, 9)
  else if (countR m).2 = true then ((countR m).1, 0, 3)
  else rsizedM (countR m).1 (idxI (fun p => p.1 == at_) m.bl).toNat (m.bl[(idxI (fun p => p.1 == at_) m.bl).toNat]?.getD (0, 0)).1 (m.bl[(idxI (fun p => p.1 == at_) m.bl).toNat]?.getD (0, 0)).2 z
set_option maxRecDepth 100000 in
set_option maxHeartbeats 8000000 in
theorem rResize_bad1 (v : RV) (at_ z : Int) (w : World) (H : RmR w v) (hz : (decide (1 ≤ z) && decide (z ≤ 4096)) = false) :
    Calls Tryz.prog 25 #[v.val, .int .i64 at_, .int .i64 z] w (MPost2 (v.m, 0, 1) w v) := by
  have HRM := hide H
  have HWI : Hid (∀ W, Calls Tryz.prog 15 #[.int .i64 z, .int .i64 1, .int .i64 4096] W fun e w' => e = .returned (.bool false) ∧ W = w') := fun W => by
    have := within_any z 1 4096 W
    rw [hz] at this
    exact this
  clear hz H
  unfold RV.val RV.cells
  obtain ⟨A0, n, c, B, k, d, ⟨m0, m1, m2, bl, ys, m5, m6, m7, m8⟩⟩ := v
  dsimp only
  obtain ⟨w1, hw1⟩ : ∃ w1, (w.alloc (.cells #[.int .i64 m0, .int .i64 m1, .int .i64 m2, .slice A0 n c, .slice B k d, .int .i64 m5, .int .i64 m6, .int .i64 m7, .int .i64 m8] MT)).alloc (.cells #[.int .i64 0, .int .i64 0, .int .i64 0, .slice none 0 0, .slice none 0 0, .int .i64 0, .int .i64 0, .int .i64 0, .int .i64 0] MT) = w1 := ⟨_, rfl⟩
  have hq1 : Q w w1 := by rw [← hw1]; exact ((Q.refl w).alloc _).alloc _
  have hs1 : w.heap.size + 1 < w1.heap.size := by rw [← hw1]; simp
  have hs0 : w.heap.size < w1.heap.size := by omega
  have q0 : w1.heap[w.heap.size]? = some (.cells #[.int .i64 m0, .int .i64 m1, .int .i64 m2, .slice A0 n c, .slice B k d, .int .i64 m5, .int .i64 m6, .int .i64 m7, .int .i64 m8] MT (0, 0)) := by
    rw [← hw1, ((Q.refl (w.alloc _)).alloc _).below.block _ (by simp)]
    exact heap_alloc_new w _
  have q1 : w1.heap[w.heap.size + 1]? = some (.cells #[.int .i64 0, .int .i64 0, .int .i64 0, .slice none 0 0, .slice none 0 0, .int .i64 0, .int .i64 0, .int .i64 0, .int .i64 0] MT (0, 0)) := by
    have h := heap_alloc_new (w.alloc (.cells #[.int .i64 m0, .int .i64 m1, .int .i64 m2, .slice A0 n c, .slice B k d, .int .i64 m5, .int .i64 m6, .int .i64 m7, .int .i64 m8] MT)) (.cells #[.int .i64 0, .int .i64 0, .int .i64 0, .slice none 0 0, .slice none 0 0, .int .i64 0, .int .i64 0, .int .i64 0, .int .i64 0] MT)
    rw [show (w.alloc (.cells #[.int .i64 m0, .int .i64 m1, .int .i64 m2, .slice A0 n c, .slice B k d, .int .i64 m5, .int .i64 m6, .int .i64 m7, .int .i64 m8] MT)).heap.size = w.heap.size + 1 by simp, hw1] at h
    exact h
  have HW1 := hide hw1
  have HR0 := hide q0
  have HR1 := hide q1
  have HQ1 := hide hq1
  obtain ⟨k0, k1, k2, k3, k4, k5, k6, k7, k8⟩ := cells9 q0
  obtain ⟨z0, z1, z2, z3, z4, z5, z6, z7, z8⟩ := cells9 q1
  obtain ⟨y0, y1, y2, y3, y4, y5, y6, y7, y8⟩ := free9 q1
  clear hw1 hq1 q0 q1
  go_enter Tryz.func25, Tryz.ntmps25
  go_wp2_with (go_at_call 15; refine (HWI.out _).mono ?_; rintro e w2 ⟨rfl, rfl⟩; rw [HW1.out])
  have hg := row9 (w := w1) (b := w.heap.size + 1) (.int .i64 m0) (.int .i64 m1) (.int .i64 m2) (.slice A0 n c) (.slice B k d) (.int .i64 m5) (.int .i64 m6) (.int .i64 m7) (.int .i64 m8) HR1.out
  have hF := q9 (w0 := w) (w := w1) (b := w.heap.size + 1) (.int .i64 m0) (.int .i64 m1) (.int .i64 m2) (.slice A0 n c) (.slice B k d) (.int .i64 m5) (.int .i64 m6) (.int .i64 m7) (.int .i64 m8) (HQ1.out) (by omega)
  refine bodyPost_ret (v := .tuple #[.agg #[.int .i64 m0, .int .i64 m1, .int .i64 m2, .slice A0 n c, .slice B k d, .int .i64 m5, .int .i64 m6, .int .i64 m7, .int .i64 m8], .int .i64 0, .int .i64 1]) (ret_m3 (p := 6) (u := 7) (x := 8) rfl rfl (by simp) (by simp) (by simp) hg) rfl ?_
  exact ⟨⟨A0, n, c, B, k, d, ⟨m0, m1, m2, bl, ys, m5, m6, m7, m8⟩⟩, rfl, rfl, HRM.out.up hF, Fr.refl _ _, hF⟩
set_option maxRecDepth 100000 in
set_option maxHeartbeats 8000000 in
theorem rResize_bad2 (v : RV) (at_ z : Int) (w : World) (H : RmR w v) (N : RmN v.m) (hz : (decide (1 ≤ z) && decide (z ≤ 4096)) = true) (hi : idxI (fun p => p.1 == at_) v.m.bl = -1) :
    Calls Tryz.prog 25 #[v.val, .int .i64 at_, .int .i64 z] w (MPost2 (v.m, 0, 9) w v) := by
  have HRM := hide H
  have HWI : Hid (∀ W, Calls Tryz.prog 15 #[.int .i64 z, .int .i64 1, .int .i64 4096] W fun e w' => e = .returned (.bool true) ∧ W = w') := fun W => by
    have := within_any z 1 4096 W
    rw [hz] at this
    exact this
  have HB := hide fun (W : World) (h : Q w W) => begins_any v at_ W (H.up h) N
  rw [hi] at HB
  clear hz H N hi
  unfold RV.val RV.cells at HB ⊢
  obtain ⟨A0, n, c, B, k, d, ⟨m0, m1, m2, bl, ys, m5, m6, m7, m8⟩⟩ := v
  dsimp only at HB ⊢
  obtain ⟨w1, hw1⟩ : ∃ w1, (w.alloc (.cells #[.int .i64 m0, .int .i64 m1, .int .i64 m2, .slice A0 n c, .slice B k d, .int .i64 m5, .int .i64 m6, .int .i64 m7, .int .i64 m8] MT)).alloc (.cells #[.int .i64 0, .int .i64 0, .int .i64 0, .slice none 0 0, .slice none 0 0, .int .i64 0, .int .i64 0, .int .i64 0, .int .i64 0] MT) = w1 := ⟨_, rfl⟩
  have hq1 : Q w w1 := by rw [← hw1]; exact ((Q.refl w).alloc _).alloc _
  have hs1 : w.heap.size + 1 < w1.heap.size := by rw [← hw1]; simp
  have hs0 : w.heap.size < w1.heap.size := by omega
  have q0 : w1.heap[w.heap.size]? = some (.cells #[.int .i64 m0, .int .i64 m1, .int .i64 m2, .slice A0 n c, .slice B k d, .int .i64 m5, .int .i64 m6, .int .i64 m7, .int .i64 m8] MT (0, 0)) := by
    rw [← hw1, ((Q.refl (w.alloc _)).alloc _).below.block _ (by simp)]
    exact heap_alloc_new w _
  have q1 : w1.heap[w.heap.size + 1]? = some (.cells #[.int .i64 0, .int .i64 0, .int .i64 0, .slice none 0 0, .slice none 0 0, .int .i64 0, .int .i64 0, .int .i64 0, .int .i64 0] MT (0, 0)) := by
    have h := heap_alloc_new (w.alloc (.cells #[.int .i64 m0, .int .i64 m1, .int .i64 m2, .slice A0 n c, .slice B k d, .int .i64 m5, .int .i64 m6, .int .i64 m7, .int .i64 m8] MT)) (.cells #[.int .i64 0, .int .i64 0, .int .i64 0, .slice none 0 0, .slice none 0 0, .int .i64 0, .int .i64 0, .int .i64 0, .int .i64 0] MT)
    rw [show (w.alloc (.cells #[.int .i64 m0, .int .i64 m1, .int .i64 m2, .slice A0 n c, .slice B k d, .int .i64 m5, .int .i64 m6, .int .i64 m7, .int .i64 m8] MT)).heap.size = w.heap.size + 1 by simp, hw1] at h
    exact h
  have HW1 := hide hw1
  have HR0 := hide q0
  have HR1 := hide q1
  have HQ1 := hide hq1
  have HBW := hide (HB.out w1 hq1)
  obtain ⟨k0, k1, k2, k3, k4, k5, k6, k7, k8⟩ := cells9 q0
  obtain ⟨z0, z1, z2, z3, z4, z5, z6, z7, z8⟩ := cells9 q1
  obtain ⟨y0, y1, y2, y3, y4, y5, y6, y7, y8⟩ := free9 q1
  clear hw1 hq1 q0 q1 HB
  go_enter Tryz.func25, Tryz.ntmps25
  go_wp2_with (go_at_call 15; refine (HWI.out _).mono ?_; rintro e w2 ⟨rfl, rfl⟩; rw [HW1.out])
  refine HBW.out.mono ?_
  rintro e w2 ⟨rfl, hq2⟩
  have q0 := (hq2.below.block _ hs0).trans HR0.out
  have q1 := (hq2.below.block _ hs1).trans HR1.out
  obtain ⟨k0, k1, k2, k3, k4, k5, k6, k7, k8⟩ := cells9 q0
  obtain ⟨z0, z1, z2, z3, z4, z5, z6, z7, z8⟩ := cells9 q1
  obtain ⟨y0, y1, y2, y3, y4, y5, y6, y7, y8⟩ := free9 q1
  have HR0 := hide q0
  have HR1 := hide q1
  have HQ := hide (HQ1.out.trans hq2)
  have hs0 : w.heap.size < w2.heap.size := by have := hq2.size; omega
  have hs1 : w.heap.size + 1 < w2.heap.size := by have := hq2.size; omega
  clear q0 q1 hq2
  go_wp2_with fail
  have hg := row9 (w := w2) (b := w.heap.size + 1) (.int .i64 m0) (.int .i64 m1) (.int .i64 m2) (.slice A0 n c) (.slice B k d) (.int .i64 m5) (.int .i64 m6) (.int .i64 m7) (.int .i64 m8) HR1.out
  have hF := q9 (w0 := w) (w := w2) (b := w.heap.size + 1) (.int .i64 m0) (.int .i64 m1) (.int .i64 m2) (.slice A0 n c) (.slice B k d) (.int .i64 m5) (.int .i64 m6) (.int .i64 m7) (.int .i64 m8) (HQ.out) (by omega)
  refine bodyPost_ret (v := .tuple #[.agg #[.int .i64 m0, .int .i64 m1, .int .i64 m2, .slice A0 n c, .slice B k d, .int .i64 m5, .int .i64 m6, .int .i64 m7, .int .i64 m8], .int .i64 0, .int .i64 9]) (ret_m3 (p := 6) (u := 7) (x := 8) rfl rfl (by simp) (by simp) (by simp) hg) rfl ?_
  exact ⟨⟨A0, n, c, B, k, d, ⟨m0, m1, m2, bl, ys, m5, m6, m7, m8⟩⟩, rfl, rfl, HRM.out.up hF, Fr.refl _ _, hF⟩
set_option maxRecDepth 100000 in
set_option maxHeartbeats 8000000 in
theorem rResize_bad3 (v : RV) (at_ z : Int) (j : Nat) (x y : Int) (w : World) (H : RmR w v) (N : RmN v.m) (hz : (decide (1 ≤ z) && decide (z ≤ 4096)) = true) (hx : v.m.bl[j]? = some (x, y)) (hi : idxI (fun p => p.1 == at_) v.m.bl = (j : Int)) (hf : (countR v.m).2 = true) :
    Calls Tryz.prog 25 #[v.val, .int .i64 at_, .int .i64 z] w (MPost2 ((countR v.m).1, 0, 3) w v) := by
  have HWI : Hid (∀ W, Calls Tryz.prog 15 #[.int .i64 z, .int .i64 1, .int .i64 4096] W fun e w' => e = .returned (.bool true) ∧ W = w') := fun W => by
    have := within_any z 1 4096 W
    rw [hz] at this
    exact this
  have HBG := hide fun (W : World) (h : Q w W) => begins_any v at_ W (H.up h) N
  rw [hi] at HBG
  have HCN := hide fun (W : World) => rCounted_any v W N
  obtain ⟨fl, hfl⟩ : ∃ fl, fl = (countR v.m).1.fail := ⟨_, rfl⟩
  have hcm : (countR v.m).1 = { v.m with calls := v.m.calls + 1, fail := fl } := by rw [hfl]; rfl
  rw [hf, hcm] at HCN
  have HRM := hide H
  have HRN := hide N
  have h7 := N.cl
  have hnl := H.b.len
  have hnl2 := N.n
  have hsl := H.b.pr j (by have := (List.getElem?_eq_some_iff.1 hx).1; omega)
  rw [hcm]
  have HRC : Hid (∀ W, Q w W → RmR W (v.withM { v.m with calls := v.m.calls + 1, fail := fl })) := fun W h => (H.up h).withM rfl rfl
  clear hz H N hi hf hfl hcm
  unfold RV.withM at HRC
  unfold RV.withM RV.val RV.cells at HCN
  unfold RV.val RV.cells at HBG ⊢
  obtain ⟨A0, n, c, B, k, d, ⟨m0, m1, m2, bl, ys, m5, m6, m7, m8⟩⟩ := v
  dsimp only at HRC hx HBG HCN h7 hnl hnl2 hsl ⊢
  obtain ⟨h70, h71⟩ := h7
  obtain ⟨b1, o1, x', y', rfl, hb1, hx', x1, x2⟩ := hsl
  have hj100 : (j : Int) ≤ 100 := by have := (List.getElem?_eq_some_iff.1 hx).1; omega
  have hneg : decide ((j : Int) < 0) = false := by simp
  obtain ⟨w1, hw1⟩ : ∃ w1, (w.alloc (.cells #[.int .i64 m0, .int .i64 m1, .int .i64 m2, .slice (some ⟨b1, o1, none⟩) n c, .slice B k d, .int .i64 m5, .int .i64 m6, .int .i64 m7, .int .i64 m8] MT)).alloc (.cells #[.int .i64 0, .int .i64 0, .int .i64 0, .slice none 0 0, .slice none 0 0, .int .i64 0, .int .i64 0, .int .i64 0, .int .i64 0] MT) = w1 := ⟨_, rfl⟩
  have hq1 : Q w w1 := by rw [← hw1]; exact ((Q.refl w).alloc _).alloc _
  have hs1 : w.heap.size + 1 < w1.heap.size := by rw [← hw1]; simp
  have hs0 : w.heap.size < w1.heap.size := by omega
  have q0 : w1.heap[w.heap.size]? = some (.cells #[.int .i64 m0, .int .i64 m1, .int .i64 m2, .slice (some ⟨b1, o1, none⟩) n c, .slice B k d, .int .i64 m5, .int .i64 m6, .int .i64 m7, .int .i64 m8] MT (0, 0)) := by
    rw [← hw1, ((Q.refl (w.alloc _)).alloc _).below.block _ (by simp)]
    exact heap_alloc_new w _
  have q1 : w1.heap[w.heap.size + 1]? = some (.cells #[.int .i64 0, .int .i64 0, .int .i64 0, .slice none 0 0, .slice none 0 0, .int .i64 0, .int .i64 0, .int .i64 0, .int .i64 0] MT (0, 0)) := by
    have h := heap_alloc_new (w.alloc (.cells #[.int .i64 m0, .int .i64 m1, .int .i64 m2, .slice (some ⟨b1, o1, none⟩) n c, .slice B k d, .int .i64 m5, .int .i64 m6, .int .i64 m7, .int .i64 m8] MT)) (.cells #[.int .i64 0, .int .i64 0, .int .i64 0, .slice none 0 0, .slice none 0 0, .int .i64 0, .int .i64 0, .int .i64 0, .int .i64 0] MT)
    rw [show (w.alloc (.cells #[.int .i64 m0, .int .i64 m1, .int .i64 m2, .slice (some ⟨b1, o1, none⟩) n c, .slice B k d, .int .i64 m5, .int .i64 m6, .int .i64 m7, .int .i64 m8] MT)).heap.size = w.heap.size + 1 by simp, hw1] at h
    exact h
  have HW1 := hide hw1
  have HR0 := hide q0
  have HR1 := hide q1
  have HQ1 := hide hq1
  have HBW := hide (HBG.out w1 hq1)
  obtain ⟨k0, k1, k2, k3, k4, k5, k6, k7, k8⟩ := cells9 q0
  obtain ⟨z0, z1, z2, z3, z4, z5, z6, z7, z8⟩ := cells9 q1
  obtain ⟨y0, y1, y2, y3, y4, y5, y6, y7, y8⟩ := free9 q1
  clear hw1 hq1 q0 q1 HBG hx hx' hnl hnl2
  go_enter Tryz.func25, Tryz.ntmps25
  go_wp2_with (go_at_call 15; refine (HWI.out _).mono ?_; rintro e w2 ⟨rfl, rfl⟩; rw [HW1.out])
  refine HBW.out.mono ?_
  rintro e w2 ⟨rfl, hq2⟩
  have q0 := (hq2.below.block _ hs0).trans HR0.out
  have q1 := (hq2.below.block _ hs1).trans HR1.out
  obtain ⟨k0, k1, k2, k3, k4, k5, k6, k7, k8⟩ := cells9 q0
  obtain ⟨z0, z1, z2, z3, z4, z5, z6, z7, z8⟩ := cells9 q1
  obtain ⟨y0, y1, y2, y3, y4, y5, y6, y7, y8⟩ := free9 q1
  have HR0 := hide q0
  have HR1 := hide q1
  have HQ := hide (HQ1.out.trans hq2)
  have hs0 : w.heap.size < w2.heap.size := by have := hq2.size; omega
  have hs1 : w.heap.size + 1 < w2.heap.size := by have := hq2.size; omega
  clear q0 q1 hq2
  go_wp2_with fail
  refine (HCN.out w2).mono ?_
  rintro e w3 ⟨rfl, hq3⟩
  have q0 := (hq3.below.block _ hs0).trans HR0.out
  have q1 := (hq3.below.block _ hs1).trans HR1.out
  obtain ⟨k0, k1, k2, k3, k4, k5, k6, k7, k8⟩ := cells9 q0
  obtain ⟨f0, f1, f2, f3, f4, f5, f6, f7, f8⟩ := free9 q0
  obtain ⟨z0, z1, z2, z3, z4, z5, z6, z7, z8⟩ := cells9 q1
  obtain ⟨y0, y1, y2, y3, y4, y5, y6, y7, y8⟩ := free9 q1
  have HR0 := hide q0
  have HR1 := hide q1
  have HQ := hide (HQ.out.trans hq3)
  have hs0 : w.heap.size < w3.heap.size := by have := hq3.size; omega
  have hs1 : w.heap.size + 1 < w3.heap.size := by have := hq3.size; omega
  clear q0 q1 hq3
  go_wp2_with fail
  obtain ⟨w4, hw4⟩ : ∃ w4, w4 = (((((((((w3.setCell ⟨w.heap.size, 0, none⟩ (.int .i64 m0)).setCell ⟨w.heap.size, 1, none⟩ (.int .i64 m1)).setCell ⟨w.heap.size, 2, none⟩ (.int .i64 m2)).setCell ⟨w.heap.size, 3, none⟩ (.slice (some ⟨b1, o1, none⟩) n c)).setCell ⟨w.heap.size, 4, none⟩ (.slice B k d)).setCell ⟨w.heap.size, 5, none⟩ (.int .i64 m5)).setCell ⟨w.heap.size, 6, none⟩ (.int .i64 m6)).setCell ⟨w.heap.size, 7, none⟩ (.int .i64 (m7 + 1))).setCell ⟨w.heap.size, 8, none⟩ (.int .i64 fl)) := ⟨_, rfl⟩
  rw [← hw4]
  have q0 : w4.heap[w.heap.size]? = some (.cells #[.int .i64 m0, .int .i64 m1, .int .i64 m2, .slice (some ⟨b1, o1, none⟩) n c, .slice B k d, .int .i64 m5, .int .i64 m6, .int .i64 (m7 + 1), .int .i64 fl] MT (0, 0)) := by
    rw [hw4]
    exact row9g (w := w3) (b := w.heap.size) (.int .i64 m0) (.int .i64 m1) (.int .i64 m2) (.slice (some ⟨b1, o1, none⟩) n c) (.slice B k d) (.int .i64 m5) (.int .i64 m6) (.int .i64 (m7 + 1)) (.int .i64 fl) HR0.out
  have q1 : w4.heap[w.heap.size + 1]? = some (.cells #[.int .i64 0, .int .i64 0, .int .i64 0, .slice none 0 0, .slice none 0 0, .int .i64 0, .int .i64 0, .int .i64 0, .int .i64 0] MT (0, 0)) := by
    rw [hw4, keep9 w3 w.heap.size (.int .i64 m0) (.int .i64 m1) (.int .i64 m2) (.slice (some ⟨b1, o1, none⟩) n c) (.slice B k d) (.int .i64 m5) (.int .i64 m6) (.int .i64 (m7 + 1)) (.int .i64 fl) (w.heap.size + 1) (by omega)]
    exact HR1.out
  have HQ := hide (show Q w w4 by
    rw [hw4]
    exact q9 (w0 := w) (w := w3) (b := w.heap.size) (.int .i64 m0) (.int .i64 m1) (.int .i64 m2) (.slice (some ⟨b1, o1, none⟩) n c) (.slice B k d) (.int .i64 m5) (.int .i64 m6) (.int .i64 (m7 + 1)) (.int .i64 fl) HQ.out (Nat.le_refl _))
  have hs0 : w.heap.size < w4.heap.size := by have : w4.heap.size = w3.heap.size := (by rw [hw4]; simp [World.setCell]); omega
  have hs1 : w.heap.size + 1 < w4.heap.size := by have : w4.heap.size = w3.heap.size := (by rw [hw4]; simp [World.setCell]); omega
  have HR0 := hide q0
  have HR1 := hide q1
  have hg := row9 (w := w4) (b := w.heap.size + 1) (.int .i64 m0) (.int .i64 m1) (.int .i64 m2) (.slice (some ⟨b1, o1, none⟩) n c) (.slice B k d) (.int .i64 m5) (.int .i64 m6) (.int .i64 (m7 + 1)) (.int .i64 fl) HR1.out
  have hF := q9 (w0 := w) (w := w4) (b := w.heap.size + 1) (.int .i64 m0) (.int .i64 m1) (.int .i64 m2) (.slice (some ⟨b1, o1, none⟩) n c) (.slice B k d) (.int .i64 m5) (.int .i64 m6) (.int .i64 (m7 + 1)) (.int .i64 fl) (HQ.out) (by omega)
  refine bodyPost_ret (v := .tuple #[.agg #[.int .i64 m0, .int .i64 m1, .int .i64 m2, .slice (some ⟨b1, o1, none⟩) n c, .slice B k d, .int .i64 m5, .int .i64 m6, .int .i64 (m7 + 1), .int .i64 fl], .int .i64 0, .int .i64 3]) (ret_m3 (p := 6) (u := 7) (x := 8) rfl rfl (by simp) (by simp) (by simp) hg) rfl ?_
  exact ⟨⟨some ⟨b1, o1, none⟩, n, c, B, k, d, ⟨m0, m1, m2, bl, ys, m5, m6, m7 + 1, fl⟩⟩, rfl, rfl, HRC.out _ hF, ⟨.inl ⟨rfl, rfl⟩, .inl ⟨rfl, rfl⟩⟩, hF⟩
end Go.Proofs.YtegpkcbmgjoicaaGreat
