/- The reference's heap as plain data, and the walks of what only reads it: within, isAlign, begins, isFree, isLive, Used. The reference's counted, FailAt and Reset; a heap of the reference as a result. The reference's isLive, Load, stays, aligned, isAlign. The reference's aligned and isAlign. Conditions: as each theorem says. -/
import Derived.Test.YtegpkcbmgjoicaaGreatHqV
namespace Go.Proofs.YtegpkcbmgjoicaaGreat
open Go.RowKit HP
set_option linter.unusedVariables false
structure RM where
  kind : Int
  size : Int
  piece : Int
  bl : List (Int × Int)
  ys : List Int
  top : Int
  peak : Int
  calls : Int
  fail : Int
structure RV where
  A : Option Addr
  n : Nat
  c : Nat
  B : Option Addr
  k : Nat
  d : Nat
  m : RM
def RV.cells (v : RV) : Array Value := #[.int .i64 v.m.kind, .int .i64 v.m.size, .int .i64 v.m.piece, .slice v.A v.n v.c, .slice v.B v.k v.d, .int .i64 v.m.top, .int .i64 v.m.peak, .int .i64 v.m.calls, .int .i64 v.m.fail]
def RV.val (v : RV) : Value := .agg v.cells
/-- where a slice lies, a row of this type does -/
def TyA (t : TypeId) (w : World) (A : Option Addr) : Prop := ∀ g o, A = some ⟨g, o, none⟩ → ∃ cs, w.heap[g]? = some (.cells cs t (0, 0))
theorem TyA.none (t : TypeId) (w : World) : TyA t w none := fun g o e => by cases e
theorem TyA.up {t : TypeId} {w w' : World} {A : Option Addr} (h : TyA t w A) (hq : Q w w') : TyA t w' A := fun g o e => by
  obtain ⟨cs, hc⟩ := h g o e
  exact ⟨cs, (hq.below.block g (blk_lt hc)).trans hc⟩
theorem TyA.own {w : World} {B e s n m c : Nat} {A : Option Addr} {xs : List Value} (h : w.ownsRow B e s (.slice A n c) m xs) : TyA e w A := fun g o hA => by
  subst hA
  exact own_blk h rfl
/-- the reference's heap lies in memory -/
structure RmR (w : World) (v : RV) : Prop where
  b : Sl 2 encP w v.A v.n v.c v.m.bl
  y : Sl 1 encN w v.B v.k v.d v.m.ys
  bn : v.A = none → v.n = 0 ∧ v.c = 0
  yn : v.B = none → v.k = 0 ∧ v.d = 0
  ta : TyA 88 w v.A
  tb : TyA 3 w v.B
theorem RmR.up {w w' : World} {v : RV} (h : RmR w v) (hq : Q w w') : RmR w' v := ⟨h.b.up hq, h.y.up hq, h.bn, h.yn, h.ta.up hq, h.tb.up hq⟩
/-- its numbers are near -/
structure RmN (m : RM) : Prop where
  sz : 0 ≤ m.size ∧ m.size ≤ 4096
  pc : 0 ≤ m.piece ∧ m.piece ≤ 4096
  n : m.bl.length ≤ 100
  k : m.ys.length = m.size.toNat
  all : ∀ p ∈ m.bl, 0 ≤ p.1 ∧ 0 ≤ p.2 ∧ p.1 + p.2 ≤ m.size
  tp : 0 ≤ m.top ∧ m.top ≤ 4096
  pk : 0 ≤ m.peak ∧ m.peak ≤ 1000000
  cl : 0 ≤ m.calls ∧ m.calls ≤ 1000000
  fl : 0 ≤ m.fail ∧ m.fail ≤ 1000
theorem Sl.pr {w : World} {A : Option Addr} {n c : Nat} {xs : List (Int × Int)} (h : Sl 2 encP w A n c xs) (i : Nat) (hi : i < n) :
    ∃ b o x y, A = some ⟨b, o, none⟩ ∧ b < w.heap.size ∧ xs[i]? = some (x, y) ∧ w.cell? ⟨b, o + i * 2, none⟩ = some (.int .i64 x) ∧ w.cell? ⟨b, o + i * 2 + 1, none⟩ = some (.int .i64 y) := by
  obtain ⟨b, o, ⟨x, y⟩, e, hb, hx, hc⟩ := h.at_ (fun _ => rfl) (by decide) i hi
  exact ⟨b, o, x, y, e, hb, hx, by simpa using hc 0 _ rfl, hc 1 _ rfl⟩
/-- the number of the first for which a test holds; -1 for none -/
def idxI {α : Type} (p : α → Bool) (xs : List α) : Int := match xs.findIdx? p with | some k => (k : Int) | none => -1
theorem idxI_none {α : Type} {p : α → Bool} {xs : List α} (h : ∀ (j : Nat) (x : α), xs[j]? = some x → p x = false) : idxI p xs = -1 := by
  unfold idxI
  rw [List.findIdx?_eq_none_iff.2 (fun x hx => by obtain ⟨j, hj, rfl⟩ := List.getElem_of_mem hx; exact h j _ (List.getElem?_eq_getElem hj))]
theorem idxI_some {α : Type} {p : α → Bool} {xs : List α} {k : Nat} {x : α} (hx : xs[k]? = some x) (hp : p x = true) (h : ∀ (j : Nat) (y : α), j < k → xs[j]? = some y → p y = false) : idxI p xs = (k : Int) := by
  obtain ⟨hk, e⟩ := List.getElem?_eq_some_iff.1 hx
  unfold idxI
  rw [List.findIdx?_eq_some_iff_getElem.2 ⟨hk, by rw [e]; exact hp, fun j hj => by rw [h j _ hj (List.getElem?_eq_getElem (by omega))]; simp⟩]
open Classical in
noncomputable def freeR (bl : List (Int × Int)) (size f t but : Int) : Bool := decide (0 ≤ f ∧ t ≤ size ∧ ∀ (j : Nat) (x y : Int), bl[j]? = some (x, y) → (j : Int) ≠ but → ¬(x < t ∧ f < x + y))
open Classical in
noncomputable def liveR (bl : List (Int × Int)) (at_ : Int) : Bool := decide (∃ p ∈ bl, p.1 ≤ at_ ∧ at_ < p.1 + p.2)
open Classical in
theorem freeR_iff {bl : List (Int × Int)} {size f t but : Int} : freeR bl size f t but = true ↔ (0 ≤ f ∧ t ≤ size ∧ ∀ (j : Nat) (x y : Int), bl[j]? = some (x, y) → (j : Int) ≠ but → ¬(x < t ∧ f < x + y)) := by
  unfold freeR
  rw [decide_eq_true_iff]
theorem freeR_not {bl : List (Int × Int)} {size f t but : Int} (h : ¬(0 ≤ f ∧ t ≤ size ∧ ∀ (j : Nat) (x y : Int), bl[j]? = some (x, y) → (j : Int) ≠ but → ¬(x < t ∧ f < x + y))) : freeR bl size f t but = false := by
  rw [← Bool.not_eq_true, freeR_iff]
  exact h
open Classical in
theorem liveR_iff {bl : List (Int × Int)} {at_ : Int} : liveR bl at_ = true ↔ ∃ p ∈ bl, p.1 ≤ at_ ∧ at_ < p.1 + p.2 := by
  unfold liveR
  rw [decide_eq_true_iff]
theorem liveR_not {bl : List (Int × Int)} {at_ : Int} (h : ¬∃ p ∈ bl, p.1 ≤ at_ ∧ at_ < p.1 + p.2) : liveR bl at_ = false := by
  rw [← Bool.not_eq_true, liveR_iff]
  exact h
theorem within_any (a b c : Int) (w : World) : Calls Tryz.prog 15 #[.int .i64 a, .int .i64 b, .int .i64 c] w fun e w' => e = .returned (.bool (decide (b ≤ a) && decide (a ≤ c))) ∧ w = w' := by
  cases h1 : decide (b ≤ a)
  · go_enter Tryz.func15, Tryz.ntmps15
    go_wp2_with fail
    go_ret
    exact ⟨rfl, rfl⟩
  · go_enter Tryz.func15, Tryz.ntmps15
    go_wp2_with fail
    go_ret
    exact ⟨rfl, rfl⟩
set_option maxHeartbeats 1000000 in
theorem begins_any (v : RV) (at_ : Int) (w : World) (H : RmR w v) (N : RmN v.m) : Calls Tryz.prog 58 #[v.val, .int .i64 at_] w fun e w' => e = .returned (.int .i64 (idxI (fun p => p.1 == at_) v.m.bl)) ∧ Q w w' := by
  obtain ⟨A, n, c, B, k, d, ⟨m0, m1, m2, bl, ys, m5, m6, m7, m8⟩⟩ := v
  unfold RV.val RV.cells
  dsimp only at H N ⊢
  have hl := H.b.len
  dsimp only at hl
  have hn := N.n
  dsimp only at hn
  have HS := hide (show Sl 2 encP w A n c bl from H.b)
  have HL := hide hl
  have hni : (n : Int) ≤ 100 := by omega
  obtain ⟨w1, hw1⟩ : ∃ w1, w.alloc (.cells #[.int .i64 m0, .int .i64 m1, .int .i64 m2, .slice A n c, .slice B k d, .int .i64 m5, .int .i64 m6, .int .i64 m7, .int .i64 m8] 32) = w1 := ⟨_, rfl⟩
  have hq1 : Q w w1 := by rw [← hw1]; exact (Q.refl w).alloc _
  have hs1 : w.heap.size < w1.heap.size := by rw [← hw1]; simp
  have KB := hide (show w1.cell? ⟨w.heap.size, 3, none⟩ = some (.slice A n c) by rw [← hw1]; simp)
  have HW1 := hide hw1
  clear H N hl hn hw1
  go_enter Tryz.func58, Tryz.ntmps58
  go_wp2_with fail
  rw [HW1.out]
  go_loopw [5] (fun vi wr => ∃ i : Nat, i ≤ n ∧ vi = .int .i64 (i : Int) ∧ (∀ j x, j < i → bl[j]? = some x → (x.1 == at_) = false) ∧ Q w1 wr) (fun vi _ => n - (intOf vi).toNat)
  case atStart => exact ⟨0, by omega, by go_num, fun j x hj => by omega, Q.refl _⟩
  case round =>
    obtain ⟨i, hi, rfl, hall, hq⟩ := hrel
    have HALL := hide hall
    have hsz := hq.size
    have kb := (hq.facts.1 _ 3 hs1).trans KB.out
    have HQ := hide hq
    clear hall hq
    by_cases hlt : i < n
    · have hd1 : decide ((i : Int) < (n : Int)) = true := by simp; omega
      have hd0 : decide (i < n) = true := by simp; omega
      have hlti : (i : Int) < (n : Int) := by omega
      obtain ⟨b1, o1, x, y, rfl, hb1, g1, x1, x2⟩ := (HS.out.up (hq1.trans HQ.out)).pr i hlt
      have G1 := hide g1
      clear g1
      cases he : x == at_
      · have hne : x ≠ at_ := by simpa using he
        have HE := hide he
        clear he
        have hd2 : decide (x = at_) = false := by simpa using hne
        go_wp2_with fail
        go_roundw
        case rel => exact ⟨i + 1, by omega, by go_num, fun j p hj hp => by
          rcases Nat.lt_or_eq_of_le (Nat.le_of_lt_succ hj) with h3 | h3
          · exact HALL.out j p h3 hp
          · rw [h3, G1.out] at hp
            cases hp
            exact HE.out, HQ.out⟩
        case measure => simp [intOf] <;> omega
      · have hee : x = at_ := by simpa using he
        have HI := hide (idxI_some (p := fun p : Int × Int => p.1 == at_) G1.out he HALL.out)
        subst hee
        clear he
        go_wp2_with fail
        go_ret
        exact ⟨ret_int HI.out.symm, hq1.trans HQ.out⟩
    · have hd1 : decide ((i : Int) < (n : Int)) = false := by simp; omega
      have hd0 : decide (i < n) = false := by simp; omega
      obtain rfl : i = n := by omega
      have HI := hide (idxI_none (p := fun p : Int × Int => p.1 == at_) (xs := bl) fun j p hp => HALL.out j p (by have := HL.out; have := (List.getElem?_eq_some_iff.1 hp).1; omega) hp)
      go_wp2_with fail
      go_ret
      exact ⟨ret_int HI.out.symm, hq1.trans HQ.out⟩
theorem sumS_take2 : ∀ (l : List (Int × Int)) (k : Nat) (x y : Int), l[k]? = some (x, y) → sumS (l.take (k + 1)) = sumS (l.take k) + y
  | [], k, x, y, h => by simp at h
  | p :: l, 0, x, y, h => by
    simp at h
    subst h
    simp [sumS]
  | p :: l, k + 1, x, y, h => by
    have := sumS_take2 l k x y (by simpa using h)
    rw [List.take_succ_cons, List.take_succ_cons, sumS, sumS, this]
    omega
theorem sumS_le2 (l : List (Int × Int)) (M : Int) (hM : 0 ≤ M) (h : ∀ p ∈ l, 0 ≤ p.2 ∧ p.2 ≤ M) (k : Nat) : 0 ≤ sumS (l.take k) ∧ sumS (l.take k) ≤ (l.length : Int) * M := by
  induction l generalizing k with
  | nil => simp [sumS]
  | cons p l ih =>
    cases k with
    | zero =>
      simp only [List.take_zero, sumS]
      exact ⟨Int.le_refl _, Int.mul_nonneg (Int.natCast_nonneg _) hM⟩
    | succ k =>
      have i1 := ih (fun q hq => h q (List.mem_cons_of_mem _ hq)) k
      have i2 := h p (List.mem_cons_self ..)
      rw [List.take_succ_cons, sumS, List.length_cons, Int.natCast_succ, Int.add_mul, Int.one_mul]
      omega
set_option maxHeartbeats 1000000 in
theorem rUsed_any (v : RV) (w : World) (H : RmR w v) (N : RmN v.m) : Calls Tryz.prog 32 #[v.val] w fun e w' => e = .returned (.int .i64 (sumS v.m.bl)) ∧ Q w w' := by
  obtain ⟨A, n, c, B, k, d, ⟨m0, m1, m2, bl, ys, m5, m6, m7, m8⟩⟩ := v
  unfold RV.val RV.cells
  dsimp only at H N ⊢
  have hl := H.b.len
  dsimp only at hl
  have hn := N.n
  dsimp only at hn
  have HS := hide (show Sl 2 encP w A n c bl from H.b)
  have HL := hide hl
  have HP := hide (show ∀ p ∈ bl, 0 ≤ p.1 ∧ 0 ≤ p.2 ∧ p.1 + p.2 ≤ m1 from N.all)
  have hsz1 := N.sz
  dsimp only at hsz1
  have hm10 := hsz1.1
  have hm11 := hsz1.2
  clear hsz1
  have hni : (n : Int) ≤ 100 := by omega
  obtain ⟨w1, hw1⟩ : ∃ w1, w.alloc (.cells #[.int .i64 m0, .int .i64 m1, .int .i64 m2, .slice A n c, .slice B k d, .int .i64 m5, .int .i64 m6, .int .i64 m7, .int .i64 m8] 32) = w1 := ⟨_, rfl⟩
  have hq1 : Q w w1 := by rw [← hw1]; exact (Q.refl w).alloc _
  have hs1 : w.heap.size < w1.heap.size := by rw [← hw1]; simp
  have KB := hide (show w1.cell? ⟨w.heap.size, 3, none⟩ = some (.slice A n c) by rw [← hw1]; simp)
  have KS := hide (show w1.cell? ⟨w.heap.size, 1, none⟩ = some (.int .i64 m1) by rw [← hw1]; simp)
  have HW1 := hide hw1
  clear H N hl hn hw1
  have HU : Hid (∀ i, 0 ≤ sumS (bl.take i) ∧ sumS (bl.take i) ≤ 409600) := fun i => by
    have := sumS_le2 bl 4096 (by omega) (fun p hp => by have := HP.out p hp; omega) i
    have h2 := HL.out
    rw [h2] at this
    omega
  go_enter Tryz.func32, Tryz.ntmps32
  go_wp2_with fail
  rw [HW1.out]
  go_loopw [3, 4] (fun vs vi wr => ∃ i : Nat, i ≤ n ∧ vi = .int .i64 (i : Int) ∧ vs = .int .i64 (sumS (bl.take i)) ∧ Q w1 wr) (fun _ vi _ => n - (intOf vi).toNat)
  case atStart => exact ⟨0, by omega, by go_num, by simp [sumS], Q.refl _⟩
  case round =>
    obtain ⟨i, hi, rfl, rfl, hq⟩ := hrel
    have hsz := hq.size
    have kb := (hq.facts.1 _ 3 hs1).trans KB.out
    have HQ := hide hq
    clear hq
    by_cases hlt : i < n
    · have hd1 : decide ((i : Int) < (n : Int)) = true := by simp; omega
      have hd0 : decide (i < n) = true := by simp; omega
      have hlti : (i : Int) < (n : Int) := by omega
      obtain ⟨b1, o1, x, y, rfl, hb1, g1, x1, x2⟩ := (HS.out.up (hq1.trans HQ.out)).pr i hlt
      have hu := sumS_take2 bl i x y g1
      have hu1 := HU.out i
      have hu2 := HP.out _ (List.mem_of_getElem? g1)
      dsimp only at hu2
      obtain ⟨u0, hu0⟩ : ∃ u0, u0 = sumS (bl.take i) := ⟨_, rfl⟩
      rw [← hu0] at hu hu1 ⊢
      obtain ⟨hu3, hu4⟩ := hu1
      have hy0 := hu2.2.1
      have hy1 : y ≤ 4096 := by omega
      have HU1 := hide hu
      clear g1 hu hu0 hu2
      go_wp2_with fail
      go_roundw
      case rel => exact ⟨i + 1, by omega, by go_num, by rw [HU1.out], HQ.out⟩
      case measure => simp [intOf] <;> omega
    · have hd1 : decide ((i : Int) < (n : Int)) = false := by simp; omega
      have hd0 : decide (i < n) = false := by simp; omega
      obtain rfl : i = n := by omega
      have HT := hide (show sumS (bl.take i) = sumS bl by rw [← HL.out, List.take_length])
      go_wp2_with fail
      go_ret
      exact ⟨ret_int HT.out, hq1.trans HQ.out⟩
set_option maxHeartbeats 2000000 in
theorem isFree_any (v : RV) (f t but : Int) (w : World) (H : RmR w v) (N : RmN v.m) : Calls Tryz.prog 74 #[v.val, .int .i64 f, .int .i64 t, .int .i64 but] w fun e w' => e = .returned (.bool (freeR v.m.bl v.m.size f t but)) ∧ Q w w' := by
  obtain ⟨A, n, c, B, k, d, ⟨m0, m1, m2, bl, ys, m5, m6, m7, m8⟩⟩ := v
  unfold RV.val RV.cells
  dsimp only at H N ⊢
  have hl := H.b.len
  dsimp only at hl
  have hn := N.n
  dsimp only at hn
  have HS := hide (show Sl 2 encP w A n c bl from H.b)
  have HL := hide hl
  have HP := hide (show ∀ p ∈ bl, 0 ≤ p.1 ∧ 0 ≤ p.2 ∧ p.1 + p.2 ≤ m1 from N.all)
  have hsz1 := N.sz
  dsimp only at hsz1
  have hm10 := hsz1.1
  have hm11 := hsz1.2
  clear hsz1
  have hni : (n : Int) ≤ 100 := by omega
  obtain ⟨w1, hw1⟩ : ∃ w1, w.alloc (.cells #[.int .i64 m0, .int .i64 m1, .int .i64 m2, .slice A n c, .slice B k d, .int .i64 m5, .int .i64 m6, .int .i64 m7, .int .i64 m8] 32) = w1 := ⟨_, rfl⟩
  have hq1 : Q w w1 := by rw [← hw1]; exact (Q.refl w).alloc _
  have hs1 : w.heap.size < w1.heap.size := by rw [← hw1]; simp
  have KB := hide (show w1.cell? ⟨w.heap.size, 3, none⟩ = some (.slice A n c) by rw [← hw1]; simp)
  have KS := hide (show w1.cell? ⟨w.heap.size, 1, none⟩ = some (.int .i64 m1) by rw [← hw1]; simp)
  have HW1 := hide hw1
  clear H N hl hn hw1
  have ks := KS.out
  by_cases h1 : f < 0
  · have hd : decide (f < 0) = true := by simpa using h1
    have HF := hide (show freeR bl m1 f t but = false from freeR_not (by omega))
    clear h1
    go_enter Tryz.func74, Tryz.ntmps74
    go_wp2_with fail
    go_ret
    refine ⟨ret_bool HF.out.symm, ?_⟩
    rw [HW1.out]
    exact hq1
  have hd : decide (f < 0) = false := by simpa using h1
  by_cases h2 : m1 < t
  · have hd2 : decide (m1 < t) = true := by simpa using h2
    have HF := hide (show freeR bl m1 f t but = false from freeR_not (by omega))
    clear h1 h2
    go_enter Tryz.func74, Tryz.ntmps74
    go_wp2_with fail
    go_ret
    refine ⟨ret_bool HF.out.symm, ?_⟩
    rw [HW1.out]
    exact hq1
  have hd2 : decide (m1 < t) = false := by simpa using h2
  have H1 := hide (show 0 ≤ f by omega)
  have H2 := hide (show t ≤ m1 by omega)
  clear h1 h2
  go_enter Tryz.func74, Tryz.ntmps74
  go_wp2_with fail
  rw [HW1.out]
  clear ks
  go_loopw [9] (fun vi wr => ∃ i : Nat, i ≤ n ∧ vi = .int .i64 (i : Int) ∧ (∀ (j : Nat) (x y : Int), j < i → bl[j]? = some (x, y) → (j : Int) ≠ but → ¬(x < t ∧ f < x + y)) ∧ Q w1 wr) (fun vi _ => n - (intOf vi).toNat)
  case atStart => exact ⟨0, by omega, by go_num, fun j x y hj => by omega, Q.refl _⟩
  case round =>
    obtain ⟨i, hi, rfl, hall, hq⟩ := hrel
    have HALL := hide hall
    have hsz := hq.size
    have kb := (hq.facts.1 _ 3 hs1).trans KB.out
    have HQ := hide hq
    clear hall hq
    by_cases hlt : i < n
    · have hd1 : decide ((i : Int) < (n : Int)) = true := by simp; omega
      have hd0 : decide (i < n) = true := by simp; omega
      have hlti : (i : Int) < (n : Int) := by omega
      obtain ⟨b1, o1, x, y, rfl, hb1, g1, x1, x2⟩ := (HS.out.up (hq1.trans HQ.out)).pr i hlt
      have G1 := hide g1
      have hu2 := HP.out _ (List.mem_of_getElem? g1)
      dsimp only at hu2
      obtain ⟨hx0, hy0, hxy⟩ := hu2
      have hxy1 : x + y ≤ 4096 := by omega
      have HQA := hide (show Q w1 (wr.alloc (.cells #[.int .i64 x, .int .i64 y] 88)) from HQ.out.alloc _)
      have NEXT : Hid (¬((i : Int) ≠ but ∧ x < t ∧ f < x + y) → ∀ (j : Nat) (x y : Int), j < i + 1 → bl[j]? = some (x, y) → (j : Int) ≠ but → ¬(x < t ∧ f < x + y)) := fun hno j x' y' hj hp hb => by
        rcases Nat.lt_or_eq_of_le (Nat.le_of_lt_succ hj) with h3 | h3
        · exact HALL.out j x' y' h3 hp hb
        · rw [h3, G1.out] at hp
          cases hp
          rw [h3] at hb
          exact fun h => hno ⟨hb, h⟩
      clear g1
      by_cases e1 : (i : Int) = but
      · have de1 : decide ((i : Int) = but) = true := by simpa using e1
        have bn1 : ((i : Int) != but) = false := by simpa using e1
        have HN := hide (NEXT.out fun h => h.1 e1)
        clear NEXT e1
        go_wp2_with fail
        go_roundw
        case rel => exact ⟨i + 1, by omega, by go_num, HN.out, HQA.out⟩
        case measure => simp [intOf] <;> omega
      have de1 : decide ((i : Int) = but) = false := by simpa using e1
      have bn1 : ((i : Int) != but) = true := by simpa using e1
      by_cases e2 : x < t
      · have de2 : decide (x < t) = true := by simpa using e2
        by_cases e3 : f < x + y
        · have de3 : decide (f < x + y) = true := by simpa using e3
          have HF := hide (show freeR bl m1 f t but = false from freeR_not fun h => h.2.2 i x y G1.out e1 ⟨e2, e3⟩)
          clear NEXT
          go_wp2_with fail
          go_ret
          exact ⟨ret_bool HF.out.symm, hq1.trans HQA.out⟩
        · have de3 : decide (f < x + y) = false := by simpa using e3
          have HN := hide (NEXT.out fun h => e3 h.2.2)
          clear NEXT
          go_wp2_with fail
          go_roundw
          case rel => exact ⟨i + 1, by omega, by go_num, HN.out, HQA.out⟩
          case measure => simp [intOf] <;> omega
      · have de2 : decide (x < t) = false := by simpa using e2
        have HN := hide (NEXT.out fun h => e2 h.2.1)
        clear NEXT
        go_wp2_with fail
        go_roundw
        case rel => exact ⟨i + 1, by omega, by go_num, HN.out, HQA.out⟩
        case measure => simp [intOf] <;> omega
    · have hd1 : decide ((i : Int) < (n : Int)) = false := by simp; omega
      have hd0 : decide (i < n) = false := by simp; omega
      obtain rfl : i = n := by omega
      have HF := hide (show freeR bl m1 f t but = true from freeR_iff.2 (by
        exact ⟨H1.out, H2.out, fun j x y hp => HALL.out j x y (by have := HL.out; have := (List.getElem?_eq_some_iff.1 hp).1; omega) hp⟩))
      go_wp2_with fail
      go_ret
      exact ⟨ret_bool HF.out.symm, hq1.trans HQ.out⟩
end Go.Proofs.YtegpkcbmgjoicaaGreat

namespace Go.Proofs.YtegpkcbmgjoicaaGreat
open Go.RowKit HP
set_option linter.unusedVariables false
def RV.withM (v : RV) (m : RM) : RV := { v with m := m }
abbrev MT : TypeId := 32
/-- a heap of the reference as a result: alone, with one more, with two more -/
theorem ret_m1 {fn : Func} {p : Tmp} (h : fn.results = #[.cell p MT]) {tmps : Array Value} {w : World} {g : Nat} {cs : Array Value} {fr : Nat × Nat} (hs : cs.size = 9)
    (hp : tmps.getD p undef = .pointer (some ⟨g, 0, none⟩)) (hg : w.heap[g]? = some (.cells cs MT fr)) : (results fn tmps).run Tryz.prog w = .ok (.agg cs) w :=
  results_cell1 h _ _ _ _ _ hp (run_loadVar_row w g MT MT cs fr _ hg Tryz.underlying32 rfl (by rw [hs]; kernel_rfl))
theorem ret_m2 {fn : Func} {p u : Tmp} (h : fn.results = #[.cell p MT, .tmp u]) {tmps : Array Value} {w : World} {g : Nat} {cs : Array Value} {fr : Nat × Nat} {r : Value} (hs : cs.size = 9)
    (hp : tmps.getD p undef = .pointer (some ⟨g, 0, none⟩)) (hr : tmps.getD u undef = r) (hg : w.heap[g]? = some (.cells cs MT fr)) : (results fn tmps).run Tryz.prog w = .ok (.tuple #[.agg cs, r]) w := by
  rw [← hr]
  exact results_row_tmp h _ _ g MT cs fr _ hp hg Tryz.underlying32 rfl (by rw [hs]; kernel_rfl)
theorem ret_m3 {fn : Func} {p u x : Tmp} (h : fn.results = #[.cell p MT, .tmp u, .tmp x]) {tmps : Array Value} {w : World} {g : Nat} {cs : Array Value} {fr : Nat × Nat} {r z : Value} (hs : cs.size = 9)
    (hp : tmps.getD p undef = .pointer (some ⟨g, 0, none⟩)) (hr : tmps.getD u undef = r) (hz : tmps.getD x undef = z) (hg : w.heap[g]? = some (.cells cs MT fr)) : (results fn tmps).run Tryz.prog w = .ok (.tuple #[.agg cs, r, z]) w := by
  rw [← hr, ← hz]
  have hp' : tmps[p]?.getD undef = .pointer (some ⟨g, 0, none⟩) := by simpa using hp
  have hi : (Tryz.prog.info? MT).map (·.size) = some cs.size := by rw [hs]; kernel_rfl
  simp [results, h, hp', asAddr, run_loadVar_row w g MT MT cs fr _ hg Tryz.underlying32 rfl hi]
def countR (m : RM) : RM × Bool := ({ m with calls := m.calls + 1, fail := if m.fail = 0 then 0 else m.fail - 1 }, decide (m.fail = 1))
set_option maxHeartbeats 1000000 in
theorem rCounted_any (v : RV) (w : World) (N : RmN v.m) : Calls Tryz.prog 53 #[v.val] w fun e w' => e = .returned (.tuple #[(v.withM (countR v.m).1).val, .bool (countR v.m).2]) ∧ Q w w' := by
  obtain ⟨A, n, c, B, k, d, ⟨m0, m1, m2, bl, ys, m5, m6, m7, m8⟩⟩ := v
  unfold RV.withM countR RV.val RV.cells
  dsimp only at N ⊢
  have h7 := N.cl
  have h8 := N.fl
  dsimp only at h7 h8
  obtain ⟨h70, h71⟩ := h7
  obtain ⟨h80, h81⟩ := h8
  clear N
  have HN := fun (W : World) (cs : Array Value) => heap_alloc_new W (.cells cs MT)
  by_cases e0 : m8 = 0
  · subst e0
    go_enter Tryz.func53, Tryz.ntmps53
    go_wp2_with fail
    have hg := HN (w.alloc (.cells #[.int .i64 m0, .int .i64 m1, .int .i64 m2, .slice A n c, .slice B k d, .int .i64 m5, .int .i64 m6, .int .i64 (m7 + 1), .int .i64 0] MT)) #[.int .i64 m0, .int .i64 m1, .int .i64 m2, .slice A n c, .slice B k d, .int .i64 m5, .int .i64 m6, .int .i64 (m7 + 1), .int .i64 0]
    refine bodyPost_ret (v := .tuple #[.agg #[.int .i64 m0, .int .i64 m1, .int .i64 m2, .slice A n c, .slice B k d, .int .i64 m5, .int .i64 m6, .int .i64 (m7 + 1), .int .i64 0], .bool false]) ?_ rfl ?_
    · exact ret_m2 (p := 2) (u := 3) rfl rfl (by simp) (by first | rfl | simp) hg
    · exact ⟨rfl, (by repeat (first | exact Q.refl _ | assumption | refine Q.drew ?_ | refine Q.drewN ?_ _ | refine Q.alloc ?_ _ | refine Q.set ?_ (by first | (simp; done) | (simp; omega) | omega) _ | refine Q.trans ?_ (by assumption)))⟩
  · have hd : decide (m8 = 0) = false := by simpa using e0
    have hm1 : decide (m8 - 1 = 0) = decide (m8 = 1) := by
      rw [decide_eq_decide]
      omega
    simp only [e0, if_false]
    rw [← hm1]
    have HNH := hide HN
    clear hm1 HN
    go_enter Tryz.func53, Tryz.ntmps53
    go_wp2_with fail
    go_region
    all_goals go_wp2_with fail
    have HN := HNH.out
    have hg := HN (w.alloc (.cells #[.int .i64 m0, .int .i64 m1, .int .i64 m2, .slice A n c, .slice B k d, .int .i64 m5, .int .i64 m6, .int .i64 (m7 + 1), .int .i64 (m8 - 1)] MT)) #[.int .i64 m0, .int .i64 m1, .int .i64 m2, .slice A n c, .slice B k d, .int .i64 m5, .int .i64 m6, .int .i64 (m7 + 1), .int .i64 (m8 - 1)]
    refine bodyPost_ret (v := .tuple #[.agg #[.int .i64 m0, .int .i64 m1, .int .i64 m2, .slice A n c, .slice B k d, .int .i64 m5, .int .i64 m6, .int .i64 (m7 + 1), .int .i64 (m8 - 1)], .bool (decide (m8 - 1 = 0))]) ?_ rfl ?_
    · exact ret_m2 (p := 2) (u := 3) rfl rfl (by simp) (by first | rfl | simp) hg
    · exact ⟨rfl, (by repeat (first | exact Q.refl _ | assumption | refine Q.drew ?_ | refine Q.drewN ?_ _ | refine Q.alloc ?_ _ | refine Q.set ?_ (by first | (simp; done) | (simp; omega) | omega) _ | refine Q.trans ?_ (by assumption)))⟩
def failR (m : RM) (a : Int) : RM × Int := if 0 ≤ a ∧ a ≤ 1000 then ({ m with fail := a }, 0) else (m, 1)
set_option maxHeartbeats 1000000 in
theorem rFailAt_any (v : RV) (a : Int) (w : World) : Calls Tryz.prog 27 #[v.val, .int .i64 a] w fun e w' => e = .returned (.tuple #[(v.withM (failR v.m a).1).val, .int .i64 (failR v.m a).2]) ∧ Q w w' := by
  obtain ⟨A, n, c, B, k, d, ⟨m0, m1, m2, bl, ys, m5, m6, m7, m8⟩⟩ := v
  unfold RV.withM failR RV.val RV.cells
  dsimp only
  have HN := fun (W : World) (cs : Array Value) => heap_alloc_new W (.cells cs MT)
  have HNH := hide HN
  have HW := fun W => hide (within_any a 0 1000 W)
  clear HN
  by_cases e0 : 0 ≤ a ∧ a ≤ 1000
  · have hb : (decide (0 ≤ a) && decide (a ≤ 1000)) = true := by simpa using e0
    simp only [e0, and_self, if_true]
    simp only [hb] at HW
    clear hb e0
    go_enter Tryz.func27, Tryz.ntmps27
    go_wp2_with (go_at_call 15; refine ((HW _).out).mono ?_; rintro e w1 ⟨rfl, rfl⟩)
    have HN := HNH.out
    have hg := HN (w.alloc (.cells #[.int .i64 m0, .int .i64 m1, .int .i64 m2, .slice A n c, .slice B k d, .int .i64 m5, .int .i64 m6, .int .i64 m7, .int .i64 a] MT)) #[.int .i64 m0, .int .i64 m1, .int .i64 m2, .slice A n c, .slice B k d, .int .i64 m5, .int .i64 m6, .int .i64 m7, .int .i64 a]
    refine bodyPost_ret (v := .tuple #[.agg #[.int .i64 m0, .int .i64 m1, .int .i64 m2, .slice A n c, .slice B k d, .int .i64 m5, .int .i64 m6, .int .i64 m7, .int .i64 a], .int .i64 0]) ?_ rfl ?_
    · exact ret_m2 (p := 4) (u := 5) rfl rfl (by simp) (by first | rfl | simp) hg
    · exact ⟨rfl, (by repeat (first | exact Q.refl _ | assumption | refine Q.drew ?_ | refine Q.drewN ?_ _ | refine Q.alloc ?_ _ | refine Q.set ?_ (by first | (simp; done) | (simp; omega) | omega) _ | refine Q.trans ?_ (by assumption)))⟩
  · have hb : (decide (0 ≤ a) && decide (a ≤ 1000)) = false := by
      rw [← Bool.not_eq_true]
      simpa using e0
    simp only [e0, if_false]
    simp only [hb] at HW
    clear hb e0
    go_enter Tryz.func27, Tryz.ntmps27
    go_wp2_with (go_at_call 15; refine ((HW _).out).mono ?_; rintro e w1 ⟨rfl, rfl⟩)
    have HN := HNH.out
    have hg := HN (w.alloc (.cells #[.int .i64 m0, .int .i64 m1, .int .i64 m2, .slice A n c, .slice B k d, .int .i64 m5, .int .i64 m6, .int .i64 m7, .int .i64 m8] MT)) #[.int .i64 m0, .int .i64 m1, .int .i64 m2, .slice A n c, .slice B k d, .int .i64 m5, .int .i64 m6, .int .i64 m7, .int .i64 m8]
    refine bodyPost_ret (v := .tuple #[.agg #[.int .i64 m0, .int .i64 m1, .int .i64 m2, .slice A n c, .slice B k d, .int .i64 m5, .int .i64 m6, .int .i64 m7, .int .i64 m8], .int .i64 1]) ?_ rfl ?_
    · exact ret_m2 (p := 4) (u := 5) rfl rfl (by simp) (by first | rfl | simp) hg
    · exact ⟨rfl, (by repeat (first | exact Q.refl _ | assumption | refine Q.drew ?_ | refine Q.drewN ?_ _ | refine Q.alloc ?_ _ | refine Q.set ?_ (by first | (simp; done) | (simp; omega) | omega) _ | refine Q.trans ?_ (by assumption)))⟩
def resetR (v : RV) : RV × Int := if v.m.kind = 0 ∨ v.m.kind = 3 then (v, 7) else (⟨none, 0, 0, v.B, v.k, v.d, { v.m with bl := [], top := 0 }⟩, 0)
set_option maxHeartbeats 1000000 in
theorem rReset_any (v : RV) (w : World) : Calls Tryz.prog 26 #[v.val] w fun e w' => e = .returned (.tuple #[(resetR v).1.val, .int .i64 (resetR v).2]) ∧ Q w w' := by
  obtain ⟨A, n, c, B, k, d, ⟨m0, m1, m2, bl, ys, m5, m6, m7, m8⟩⟩ := v
  unfold resetR RV.val RV.cells
  dsimp only
  have HN := fun (W : World) (cs : Array Value) => heap_alloc_new W (.cells cs MT)
  have HNH := hide HN
  clear HN
  by_cases e0 : m0 = 0
  · subst e0
    go_enter Tryz.func26, Tryz.ntmps26
    go_wp2_with fail
    have HN := HNH.out
    have hg := HN (w.alloc (.cells #[.int .i64 0, .int .i64 m1, .int .i64 m2, .slice A n c, .slice B k d, .int .i64 m5, .int .i64 m6, .int .i64 m7, .int .i64 m8] MT)) #[.int .i64 0, .int .i64 m1, .int .i64 m2, .slice A n c, .slice B k d, .int .i64 m5, .int .i64 m6, .int .i64 m7, .int .i64 m8]
    refine bodyPost_ret (v := .tuple #[.agg #[.int .i64 0, .int .i64 m1, .int .i64 m2, .slice A n c, .slice B k d, .int .i64 m5, .int .i64 m6, .int .i64 m7, .int .i64 m8], .int .i64 7]) ?_ rfl ?_
    · exact ret_m2 (p := 2) (u := 3) rfl rfl (by simp) (by first | rfl | simp) hg
    · exact ⟨rfl, (by repeat (first | exact Q.refl _ | assumption | refine Q.drew ?_ | refine Q.drewN ?_ _ | refine Q.alloc ?_ _ | refine Q.set ?_ (by first | (simp; done) | (simp; omega) | omega) _ | refine Q.trans ?_ (by assumption)))⟩
  by_cases e3 : m0 = 3
  · subst e3
    go_enter Tryz.func26, Tryz.ntmps26
    go_wp2_with fail
    have HN := HNH.out
    have hg := HN (w.alloc (.cells #[.int .i64 3, .int .i64 m1, .int .i64 m2, .slice A n c, .slice B k d, .int .i64 m5, .int .i64 m6, .int .i64 m7, .int .i64 m8] MT)) #[.int .i64 3, .int .i64 m1, .int .i64 m2, .slice A n c, .slice B k d, .int .i64 m5, .int .i64 m6, .int .i64 m7, .int .i64 m8]
    refine bodyPost_ret (v := .tuple #[.agg #[.int .i64 3, .int .i64 m1, .int .i64 m2, .slice A n c, .slice B k d, .int .i64 m5, .int .i64 m6, .int .i64 m7, .int .i64 m8], .int .i64 7]) ?_ rfl ?_
    · exact ret_m2 (p := 2) (u := 3) rfl rfl (by simp) (by first | rfl | simp) hg
    · exact ⟨rfl, (by repeat (first | exact Q.refl _ | assumption | refine Q.drew ?_ | refine Q.drewN ?_ _ | refine Q.alloc ?_ _ | refine Q.set ?_ (by first | (simp; done) | (simp; omega) | omega) _ | refine Q.trans ?_ (by assumption)))⟩
  have hd0 : decide (m0 = 0) = false := by simpa using e0
  have hd3 : decide (m0 = 3) = false := by simpa using e3
  have hb0 : (m0 == 0) = false := by simpa using e0
  have hb3 : (m0 == 3) = false := by simpa using e3
  have hor : ¬(m0 = 0 ∨ m0 = 3) := by omega
  simp only [hor, if_false]
  clear hor
  go_enter Tryz.func26, Tryz.ntmps26
  go_wp2_with fail
  have HN := HNH.out
  have hg := HN (w.alloc (.cells #[.int .i64 m0, .int .i64 m1, .int .i64 m2, .slice none 0 0, .slice B k d, .int .i64 0, .int .i64 m6, .int .i64 m7, .int .i64 m8] MT)) #[.int .i64 m0, .int .i64 m1, .int .i64 m2, .slice none 0 0, .slice B k d, .int .i64 0, .int .i64 m6, .int .i64 m7, .int .i64 m8]
  refine bodyPost_ret (v := .tuple #[.agg #[.int .i64 m0, .int .i64 m1, .int .i64 m2, .slice none 0 0, .slice B k d, .int .i64 0, .int .i64 m6, .int .i64 m7, .int .i64 m8], .int .i64 0]) ?_ rfl ?_
  · exact ret_m2 (p := 2) (u := 3) rfl rfl (by simp) (by first | rfl | simp) hg
  · exact ⟨rfl, (by repeat (first | exact Q.refl _ | assumption | refine Q.drew ?_ | refine Q.drewN ?_ _ | refine Q.alloc ?_ _ | refine Q.set ?_ (by first | (simp; done) | (simp; omega) | omega) _ | refine Q.trans ?_ (by assumption)))⟩
end Go.Proofs.YtegpkcbmgjoicaaGreat

namespace Go.Proofs.YtegpkcbmgjoicaaGreat
open Go.RowKit HP
set_option linter.unusedVariables false
set_option maxHeartbeats 2000000 in
theorem isLive_any (v : RV) (at_ : Int) (w : World) (H : RmR w v) (N : RmN v.m) : Calls Tryz.prog 62 #[v.val, .int .i64 at_] w fun e w' => e = .returned (.bool (liveR v.m.bl at_)) ∧ Q w w' := by
  obtain ⟨A, n, c, B, k, d, ⟨m0, m1, m2, bl, ys, m5, m6, m7, m8⟩⟩ := v
  unfold RV.val RV.cells
  dsimp only at H N ⊢
  have hl := H.b.len
  dsimp only at hl
  have hn := N.n
  dsimp only at hn
  have HS := hide (show Sl 2 encP w A n c bl from H.b)
  have HY := hide (show Sl 1 encN w B k d ys from H.y)
  have HL := hide hl
  have HP := hide (show ∀ p ∈ bl, 0 ≤ p.1 ∧ 0 ≤ p.2 ∧ p.1 + p.2 ≤ m1 from N.all)
  have HK := hide (show ys.length = m1.toNat from N.k)
  have hsz1 := N.sz
  dsimp only at hsz1
  have hm10 := hsz1.1
  have hm11 := hsz1.2
  clear hsz1
  have hni : (n : Int) ≤ 100 := by omega
  obtain ⟨w1, hw1⟩ : ∃ w1, w.alloc (.cells #[.int .i64 m0, .int .i64 m1, .int .i64 m2, .slice A n c, .slice B k d, .int .i64 m5, .int .i64 m6, .int .i64 m7, .int .i64 m8] 32) = w1 := ⟨_, rfl⟩
  have hq1 : Q w w1 := by rw [← hw1]; exact (Q.refl w).alloc _
  have hs1 : w.heap.size < w1.heap.size := by rw [← hw1]; simp
  have KB := hide (show w1.cell? ⟨w.heap.size, 3, none⟩ = some (.slice A n c) by rw [← hw1]; simp)
  have HW1 := hide hw1
  clear hw1
  clear H N hl hn
  go_enter Tryz.func62, Tryz.ntmps62
  go_wp2_with fail
  rw [HW1.out]
  go_loopw [5] (fun vi wr => ∃ i : Nat, i ≤ n ∧ vi = .int .i64 (i : Int) ∧ (∀ (j : Nat) (x y : Int), j < i → bl[j]? = some (x, y) → ¬(x ≤ at_ ∧ at_ < x + y)) ∧ Q w1 wr) (fun vi _ => n - (intOf vi).toNat)
  case atStart => exact ⟨0, by omega, by go_num, fun j x y hj => by omega, Q.refl _⟩
  case round =>
    obtain ⟨i, hi, rfl, hall, hq⟩ := hrel
    obtain ⟨wo, rfl⟩ : ∃ wo : World, wo = wr := ⟨_, rfl⟩
    have HALL := hide hall
    have hsz := hq.size
    have kb := (hq.facts.1 _ 3 hs1).trans KB.out
    have HQ := hide hq
    clear hall hq
    by_cases hlt : i < n
    · have hd1 : decide ((i : Int) < (n : Int)) = true := by simp; omega
      have hd0 : decide (i < n) = true := by simp; omega
      have hlti : (i : Int) < (n : Int) := by omega
      obtain ⟨b1, o1, x, y, rfl, hb1, g1, x1, x2⟩ := (HS.out.up (hq1.trans HQ.out)).pr i hlt
      have G1 := hide g1
      have hu2 := HP.out _ (List.mem_of_getElem? g1)
      dsimp only at hu2
      obtain ⟨hx0, hy0, hxy⟩ := hu2
      have hxy1 : x + y ≤ 4096 := by omega
      have hgs : w.heap.size < wo.heap.size := by omega
      obtain ⟨t, ht⟩ : ∃ t, t = (decide (x ≤ at_) && decide (at_ ≤ x + y - 1)) := ⟨_, rfl⟩
      have HC : Hid (∀ W, Calls Tryz.prog 15 #[.int .i64 at_, .int .i64 x, .int .i64 (x + y - 1)] W fun e w' => e = .returned (.bool t) ∧ Q W w') := fun W => by
        rw [ht]
        exact (within_any at_ x (x + y - 1) W).mono fun e w' h => ⟨h.1, by rw [h.2]; exact Q.refl _⟩
      have HT := hide ht
      clear g1 ht
      go_wp2_with fail
      have hxc := ext_cell
      refine wp_region_ext (by kernel_rfl) (by kernel_rfl) ?_
      repeat (go_big_quiet_step (((go_at_call 15; exact ext_call (HC.out _)))))
      clear hxc
      refine wpQuiet_nil ?_
      intro w2 hww2
      have hqw2 := q_of_ext hww2
      clear hww2
      obtain ⟨hcw2, hfw2, hzw2⟩ := hqw2.facts
      try simp at hzw2
      try have hs0w2 : w.heap.size < w2.heap.size := by omega
      try have hs1w2 : w.heap.size + 1 < w2.heap.size := by omega
      cases ht2 : t
      · rw [ht2] at HT
        have hno : ¬(x ≤ at_ ∧ at_ < x + y) := fun h => by
          have := HT.out
          rw [eq_comm, Bool.and_eq_false_iff, decide_eq_false_iff_not, decide_eq_false_iff_not] at this
          omega
        have HNO := hide hno
        clear hno HT
        go_wp2_with fail
        go_roundw
        case rel => exact ⟨i + 1, by omega, by go_num, fun j x' y' hj hp => by
          rcases Nat.lt_or_eq_of_le (Nat.le_of_lt_succ hj) with h3 | h3
          · exact HALL.out j x' y' h3 hp
          · rw [h3, G1.out] at hp
            cases hp
            exact HNO.out, HQ.out.trans hqw2⟩
        case measure => simp [intOf] <;> omega
      · rw [ht2] at HT
        have HF := hide (show liveR bl at_ = true from liveR_iff.2 ⟨_, List.mem_of_getElem? G1.out, by
          have := HT.out
          rw [eq_comm, Bool.and_eq_true, decide_eq_true_iff, decide_eq_true_iff] at this
          dsimp only
          omega⟩)
        clear HT
        go_wp2_with fail
        go_ret
        exact ⟨ret_bool HF.out.symm, (hq1.trans HQ.out).trans hqw2⟩
    · have hd1 : decide ((i : Int) < (n : Int)) = false := by simp; omega
      have hd0 : decide (i < n) = false := by simp; omega
      obtain rfl : i = n := by omega
      have HF := hide (show liveR bl at_ = false from liveR_not fun ⟨p, hp, h⟩ => by
        obtain ⟨j, hj, rfl⟩ := List.getElem_of_mem hp
        exact HALL.out j _ _ (by have := HL.out; omega) (List.getElem?_eq_getElem hj) h)
      go_wp2_with fail
      go_ret
      exact ⟨ret_bool HF.out.symm, hq1.trans HQ.out⟩
theorem Sl.nu {w : World} {A : Option Addr} {n c : Nat} {xs : List Int} (h : Sl 1 encN w A n c xs) (i : Nat) (hi : i < n) :
    ∃ b o x, A = some ⟨b, o, none⟩ ∧ b < w.heap.size ∧ xs[i]? = some x ∧ w.cell? ⟨b, o + i, none⟩ = some (.int .i64 x) := by
  obtain ⟨b, o, x, e, hb, hx, hc⟩ := h.at_ (fun _ => rfl) (by decide) i hi
  exact ⟨b, o, x, e, hb, hx, by simpa using hc 0 _ rfl⟩
theorem RmN.live {m : RM} (N : RmN m) {at_ : Int} (h : liveR m.bl at_ = true) : 0 ≤ at_ ∧ at_ < m.size := by
  obtain ⟨p, hp, h1, h2⟩ := liveR_iff.1 h
  have := N.all p hp
  omega
noncomputable def loadR (m : RM) (at_ : Int) : Int × Int := if liveR m.bl at_ = false then (0, 9) else if m.ys[at_.toNat]?.getD 0 < 0 then (0, 11) else (m.ys[at_.toNat]?.getD 0, 0)
set_option maxHeartbeats 2000000 in
theorem rLoad_any (v : RV) (at_ : Int) (w : World) (H : RmR w v) (N : RmN v.m) : Calls Tryz.prog 29 #[v.val, .int .i64 at_] w fun e w' => e = .returned (.tuple #[.int .i64 (loadR v.m at_).1, .int .i64 (loadR v.m at_).2]) ∧ Q w w' := by
  have HLV := hide fun (W : World) (h : Q w W) => isLive_any v at_ W (H.up h) N
  obtain ⟨q, hq⟩ : ∃ q, q = liveR v.m.bl at_ := ⟨_, rfl⟩
  have NL := fun h => N.live (at_ := at_) h
  unfold loadR
  rw [← hq] at HLV NL ⊢
  unfold RV.val RV.cells at HLV
  obtain ⟨A, n, c, B, k, d, ⟨m0, m1, m2, bl, ys, m5, m6, m7, m8⟩⟩ := v
  unfold RV.val RV.cells
  dsimp only at H N HLV NL ⊢
  have hl := H.b.len
  dsimp only at hl
  have hn := N.n
  dsimp only at hn
  have HS := hide (show Sl 2 encP w A n c bl from H.b)
  have HY := hide (show Sl 1 encN w B k d ys from H.y)
  have HL := hide hl
  have HP := hide (show ∀ p ∈ bl, 0 ≤ p.1 ∧ 0 ≤ p.2 ∧ p.1 + p.2 ≤ m1 from N.all)
  have HK := hide (show ys.length = m1.toNat from N.k)
  have hsz1 := N.sz
  dsimp only at hsz1
  have hm10 := hsz1.1
  have hm11 := hsz1.2
  clear hsz1
  have hni : (n : Int) ≤ 100 := by omega
  obtain ⟨w1, hw1⟩ : ∃ w1, w.alloc (.cells #[.int .i64 m0, .int .i64 m1, .int .i64 m2, .slice A n c, .slice B k d, .int .i64 m5, .int .i64 m6, .int .i64 m7, .int .i64 m8] 32) = w1 := ⟨_, rfl⟩
  have hq1 : Q w w1 := by rw [← hw1]; exact (Q.refl w).alloc _
  have hs1 : w.heap.size < w1.heap.size := by rw [← hw1]; simp
  have KB := hide (show w1.cell? ⟨w.heap.size, 3, none⟩ = some (.slice A n c) by rw [← hw1]; simp)
  have HW1 := hide hw1
  clear hw1
  have kb4 : w1.cell? ⟨w.heap.size, 4, none⟩ = some (.slice B k d) := by rw [← HW1.out]; simp
  have HYL := hide H.y.len
  clear H N hl hn
  cases hq2 : q
  · rw [hq2] at HLV
    clear NL hq
    go_enter Tryz.func29, Tryz.ntmps29
    go_wp2_with (go_at_call 62; refine (HLV.out _ ((Q.refl w).alloc _)).mono ?_; rintro e w1 ⟨rfl, hq1⟩; obtain ⟨hc1, hf1, hz1⟩ := hq1.facts; try simp at hz1; try have hs01 : w.heap.size < w1.heap.size := by omega; try have hs11 : w.heap.size + 1 < w1.heap.size := by omega)
    go_ret2
    exact ⟨by simp, ((Q.refl w).alloc _).trans hq1⟩
  · rw [hq2] at HLV
    obtain ⟨ha0, ha1⟩ := NL hq2
    clear NL hq
    obtain ⟨j, rfl⟩ : ∃ j : Nat, at_ = (j : Int) := ⟨at_.toNat, by omega⟩
    have hjk : j < k := by
      have h1 := HYL.out
      have h2 := HK.out
      dsimp only at h1
      omega
    obtain ⟨b1, o1, x, rfl, hb1, g1, x1⟩ := HY.out.nu j hjk
    have HX := hide (show (ys[((j : Int)).toNat]?.getD 0) = x by rw [Int.toNat_natCast, g1]; rfl)
    rw [HX.out]
    clear g1
    have hji : (j : Int) < (k : Int) := by omega
    have hjj : (j : Int) ≤ 100000 := by omega
    have X1 := hide x1
    clear x1 kb4
    go_enter Tryz.func29, Tryz.ntmps29
    go_wp2_with fail
    refine (HLV.out _ ((Q.refl w).alloc _)).mono ?_
    rintro e w2 ⟨rfl, hq2⟩
    have kb4 : w2.cell? ⟨w.heap.size, 4, none⟩ = some (.slice (some ⟨b1, o1, none⟩) k d) := by
      rw [hq2.facts.1 _ _ (by simp)]
      simp
    have hqq := ((Q.refl w).alloc _).trans hq2
    have x1 := (hqq.facts.1 _ _ hb1).trans X1.out
    have HQQ := hide hqq
    have hsz2 := hqq.size
    have hd0 : decide (j < k) = true := by simpa using hjk
    clear hq2 hqq hq1 hs1
    by_cases hneg : x < 0
    · have hd : decide (x < 0) = true := by simpa using hneg
      go_wp2_with fail
      go_ret2
      exact ⟨by simp [hneg], HQQ.out⟩
    · have hd : decide (x < 0) = false := by simpa using hneg
      go_wp2_with fail
      go_ret2
      exact ⟨by simp [hneg], HQQ.out⟩
noncomputable def staysR (m : RM) (k : Nat) (x y n : Int) : Bool := if n ≤ y then true else if m.kind = 0 then freeR m.bl m.size (x + y) (x + n) (k : Int) else if m.kind = 3 then decide (n ≤ m.piece) else decide (x + y = m.top) && decide (x + n ≤ m.size)
set_option maxHeartbeats 2000000 in
theorem rStays_any (v : RV) (j : Nat) (x y z : Int) (w : World) (H : RmR w v) (N : RmN v.m) (hj : v.m.bl[j]? = some (x, y)) (hz : z ≤ 4096) (hz0 : 0 ≤ z) : Calls Tryz.prog 60 #[v.val, .int .i64 (j : Int), .int .i64 z] w fun e w' => e = .returned (.bool (staysR v.m j x y z)) ∧ Q w w' := by
  have HFR := hide fun (W : World) (h : Q w W) => isFree_any v (x + y) (x + z) (j : Int) W (H.up h) N
  have hxy := N.all _ (List.mem_of_getElem? hj)
  dsimp only at hxy
  obtain ⟨hx0, hy0, hxy⟩ := hxy
  obtain ⟨fr, hfr⟩ : ∃ fr, fr = freeR v.m.bl v.m.size (x + y) (x + z) (j : Int) := ⟨_, rfl⟩
  unfold staysR
  rw [← hfr] at HFR ⊢
  clear hfr
  unfold RV.val RV.cells at HFR
  obtain ⟨A, n, c, B, k, d, ⟨m0, m1, m2, bl, ys, m5, m6, m7, m8⟩⟩ := v
  unfold RV.val RV.cells
  dsimp only at H N HFR hj hxy ⊢
  have hl := H.b.len
  dsimp only at hl
  have hn := N.n
  dsimp only at hn
  have HS := hide (show Sl 2 encP w A n c bl from H.b)
  have HY := hide (show Sl 1 encN w B k d ys from H.y)
  have HL := hide hl
  have HP := hide (show ∀ p ∈ bl, 0 ≤ p.1 ∧ 0 ≤ p.2 ∧ p.1 + p.2 ≤ m1 from N.all)
  have HK := hide (show ys.length = m1.toNat from N.k)
  have hsz1 := N.sz
  dsimp only at hsz1
  have hm10 := hsz1.1
  have hm11 := hsz1.2
  clear hsz1
  have hni : (n : Int) ≤ 100 := by omega
  have hjn : j < n := by
    have := (List.getElem?_eq_some_iff.1 hj).1
    omega
  have hji : (j : Int) < (n : Int) := by omega
  have hjj : (j : Int) ≤ 100 := by omega
  have hd0 : decide (j < n) = true := by simpa using hjn
  obtain ⟨b1, o1, x', y', rfl, hb1, g1, x1, x2⟩ := HS.out.pr j hjn
  rw [hj] at g1
  cases g1
  have hxy1 : x + y ≤ 4096 := by omega
  clear H N hl hn hj
  by_cases e1 : z ≤ y
  · have d1 : decide (z ≤ y) = true := by simpa using e1
    simp only [e1, if_true]
    go_enter Tryz.func60, Tryz.ntmps60
    go_wp2_with fail
    go_ret
    exact ⟨by simp, (by repeat (first | exact Q.refl _ | assumption | refine Q.drew ?_ | refine Q.drewN ?_ _ | refine Q.alloc ?_ _ | refine Q.set ?_ (by first | (simp; done) | (simp; omega) | omega) _ | refine Q.trans ?_ (by assumption)))⟩
  have d1 : decide (z ≤ y) = false := by simpa using e1
  simp only [e1, if_false]
  by_cases e2 : m0 = 0
  · subst e2
    simp only [if_true]
    go_enter Tryz.func60, Tryz.ntmps60
    go_wp2_with (go_at_call 74; refine (HFR.out _ (((Q.refl w).alloc _).alloc _)).mono ?_; rintro e w1 ⟨rfl, hq1⟩; obtain ⟨hc1, hf1, hz1⟩ := hq1.facts; try simp at hz1; try have hs01 : w.heap.size < w1.heap.size := by omega; try have hs11 : w.heap.size + 1 < w1.heap.size := by omega)
    go_ret
    exact ⟨by simp, (((Q.refl w).alloc _).alloc _).trans hq1⟩
  have d2 : decide (m0 = 0) = false := by simpa using e2
  have b2 : (m0 == 0) = false := by simpa using e2
  simp only [e2, if_false]
  by_cases e3 : m0 = 3
  · subst e3
    simp only [if_true]
    go_enter Tryz.func60, Tryz.ntmps60
    go_wp2_with fail
    go_ret
    exact ⟨by simp, (by repeat (first | exact Q.refl _ | assumption | refine Q.drew ?_ | refine Q.drewN ?_ _ | refine Q.alloc ?_ _ | refine Q.set ?_ (by first | (simp; done) | (simp; omega) | omega) _ | refine Q.trans ?_ (by assumption)))⟩
  have d3 : decide (m0 = 3) = false := by simpa using e3
  have b3 : (m0 == 3) = false := by simpa using e3
  simp only [e3, if_false]
  by_cases e4 : x + y = m5
  · have d4 : decide (x + y = m5) = true := by simpa using e4
    have b4 : (x + y == m5) = true := by simpa using e4
    rw [d4]
    clear e4
    go_enter Tryz.func60, Tryz.ntmps60
    go_wp2_with fail
    go_ret
    exact ⟨by simp, (by repeat (first | exact Q.refl _ | assumption | refine Q.drew ?_ | refine Q.drewN ?_ _ | refine Q.alloc ?_ _ | refine Q.set ?_ (by first | (simp; done) | (simp; omega) | omega) _ | refine Q.trans ?_ (by assumption)))⟩
  · have d4 : decide (x + y = m5) = false := by simpa using e4
    have b4 : (x + y == m5) = false := by simpa using e4
    rw [d4]
    go_enter Tryz.func60, Tryz.ntmps60
    go_wp2_with fail
    go_ret
    exact ⟨by simp, (by repeat (first | exact Q.refl _ | assumption | refine Q.drew ?_ | refine Q.drewN ?_ _ | refine Q.alloc ?_ _ | refine Q.set ?_ (by first | (simp; done) | (simp; omega) | omega) _ | refine Q.trans ?_ (by assumption)))⟩
end Go.Proofs.YtegpkcbmgjoicaaGreat

namespace Go.Proofs.YtegpkcbmgjoicaaGreat
open Go.RowKit HP
set_option linter.unusedVariables false
set_option maxHeartbeats 1000000 in
theorem rIsAlign_any (a : Int) (w : World) : Calls Tryz.prog 52 #[.int .i64 a] w fun e w' => e = .returned (.bool (alignB a)) ∧ w = w' := by
  have hb : alignB a = (decide (a = 1) || decide (a = 2) || decide (a = 4) || decide (a = 8) || decide (a = 16)) := by
    unfold alignB
    simp only [List.any_cons, List.any_nil, Bool.or_false, Bool.or_assoc]
    simp only [eq_comm (a := a)]
    rfl
  rw [hb]
  clear hb
  by_cases h1 : a = 1
  · subst h1
    go_enter Tryz.func52, Tryz.ntmps52
    go_wp2_with fail
    go_ret
    exact ⟨rfl, rfl⟩
  by_cases h2 : a = 2
  · subst h2
    go_enter Tryz.func52, Tryz.ntmps52
    go_wp2_with fail
    go_ret
    exact ⟨rfl, rfl⟩
  by_cases h3 : a = 4
  · subst h3
    go_enter Tryz.func52, Tryz.ntmps52
    go_wp2_with fail
    go_ret
    exact ⟨rfl, rfl⟩
  by_cases h4 : a = 8
  · subst h4
    go_enter Tryz.func52, Tryz.ntmps52
    go_wp2_with fail
    go_ret
    exact ⟨rfl, rfl⟩
  have b1 : (a == 1) = false := by simpa using h1
  have b2 : (a == 2) = false := by simpa using h2
  have b3 : (a == 4) = false := by simpa using h3
  have b4 : (a == 8) = false := by simpa using h4
  have d1 : decide (a = 1) = false := by simpa using h1
  have d2 : decide (a = 2) = false := by simpa using h2
  have d3 : decide (a = 4) = false := by simpa using h3
  have d4 : decide (a = 8) = false := by simpa using h4
  rw [d1, d2, d3, d4]
  go_enter Tryz.func52, Tryz.ntmps52
  go_wp2_with fail
  go_ret
  exact ⟨by simp; rfl, rfl⟩
set_option maxHeartbeats 1000000 in
theorem rAligned_any (at_ : Int) (w : World) (h0 : 0 ≤ at_) : Calls Tryz.prog 61 #[.int .i64 at_] w fun e w' => e = .returned (.int .i64 (alignOfM at_)) ∧ w = w' := by
  have HA := hide (show ∀ d : Int, (d = 16 ∨ d = 8 ∧ at_ % 16 ≠ 0 ∨ d = 4 ∧ at_ % 8 ≠ 0 ∨ d = 2 ∧ at_ % 4 ≠ 0 ∨ d = 1 ∧ at_ % 2 ≠ 0) → at_ % d = 0 → alignOfM at_ = d from fun d hd h => by
    unfold alignOfM
    rcases hd with rfl | ⟨rfl, h'⟩ | ⟨rfl, h'⟩ | ⟨rfl, h'⟩ | ⟨rfl, h'⟩ <;> (repeat (first | rw [if_pos (by omega)] | rw [if_neg (by omega)])))
  go_enter Tryz.func61, Tryz.ntmps61
  go_wp2_with fail
  go_loopw [3] (fun va wr => (∃ d : Int, va = .int .i64 d ∧ (d = 16 ∨ d = 8 ∧ at_ % 16 ≠ 0 ∨ d = 4 ∧ at_ % 8 ≠ 0 ∨ d = 2 ∧ at_ % 4 ≠ 0 ∨ d = 1 ∧ at_ % 2 ≠ 0)) ∧ w = wr) (fun va _ => (intOf va).toNat)
  case atStart => exact ⟨⟨16, rfl, .inl rfl⟩, rfl⟩
  case round =>
    obtain ⟨⟨d, rfl, hd⟩, rfl⟩ := hrel
    have hd0 : 1 ≤ d := by omega
    have hd1 : d ≤ 16 := by omega
    have htm : at_.tmod d = at_ % d := Int.tmod_eq_emod_of_nonneg h0
    have hdz : d ≠ 0 := by omega
    have HD := hide hd
    have hb0 : 0 ≤ at_ % d := Int.emod_nonneg _ (by omega)
    by_cases e : at_ % d = 0
    · have bn : (at_ % d != 0) = false := by simpa using e
      have HR := hide (HA.out d hd e)
      clear hd
      go_wp2_with fail
      go_ret
      exact ⟨ret_int HR.out.symm, rfl⟩
    · have bn : (at_ % d != 0) = true := by simpa using e
      have h1 : d ≠ 1 := fun h => e (by rw [h]; omega)
      have hdt : d.tdiv 2 = d / 2 := Int.tdiv_eq_ediv_of_nonneg (by omega)
      have NX := hide (show (d / 2 = 16 ∨ d / 2 = 8 ∧ at_ % 16 ≠ 0 ∨ d / 2 = 4 ∧ at_ % 8 ≠ 0 ∨ d / 2 = 2 ∧ at_ % 4 ≠ 0 ∨ d / 2 = 1 ∧ at_ % 2 ≠ 0) by
        rcases hd with rfl | ⟨rfl, h'⟩ | ⟨rfl, h'⟩ | ⟨rfl, h'⟩ | ⟨rfl, h'⟩ <;> omega)
      clear hd
      go_wp2_with fail
      go_roundw
      case rel => exact ⟨⟨d / 2, rfl, NX.out⟩, trivial⟩
      case measure => simp [intOf] <;> omega
end Go.Proofs.YtegpkcbmgjoicaaGreat
