/- A pool that is filled, piece by piece, and one of whose pieces is given back: plain. No program. Conditions: as each theorem says. -/
import Derived.Test.YtegpkcbmgjoicaaHqH
namespace Go.Proofs.Ytegpkcbmgjoicaa
open Go.RowKit HP
set_option linter.unusedVariables false
/-- the piece number j -/
def pc (P : Int) (j : Nat) : PB := ((j : Int) * P, undefs P.toNat)
theorem mulP_lt {P : Int} (hP : 1 ≤ P) (a b : Nat) : ((a : Int) * P < (b : Int) * P) ↔ a < b := by
  constructor
  · intro h
    have := Int.lt_of_mul_lt_mul_right h (by omega)
    omega
  · intro h
    exact Int.mul_lt_mul_of_pos_right (by omega) (by omega)
theorem mulP_inj {P : Int} (hP : 1 ≤ P) {a b : Nat} (h : (a : Int) * P = (b : Int) * P) : a = b := by
  rcases Nat.lt_trichotomy a b with h1 | h1 | h1
  · have := (mulP_lt hP a b).2 h1; omega
  · exact h1
  · have := (mulP_lt hP b a).2 h1; omega
theorem mulP_succ (P : Int) (a : Nat) : ((a + 1 : Nat) : Int) * P = (a : Int) * P + P := by push_cast; rw [Int.add_mul]; omega
theorem pc_pend {P : Int} (hP : 1 ≤ P) (j : Nat) : pend (pc P j) = (j : Int) * P + P := by
  unfold pc
  rw [undef_pend]
  omega
theorem pc_clash {P : Int} (hP : 1 ≤ P) (a j : Nat) : clash ((a : Int) * P) ((a : Int) * P + P) (-1) (pc P j) = decide (a = j) := by
  have h0 : 0 ≤ (j : Int) * P := Int.mul_nonneg (by omega) (by omega)
  have h1 := mulP_lt hP j (a + 1)
  have h2 := mulP_lt hP a (j + 1)
  rw [mulP_succ] at h1 h2
  unfold clash
  rw [pc_pend hP]
  by_cases e : a = j
  · subst e
    rw [decide_eq_true (rfl : a = a)]
    simp only [Bool.and_eq_true, decide_eq_true_eq]
    exact ⟨(by show ¬ (a : Int) * P = -1; omega), (by show (a : Int) * P < _; omega), (by omega)⟩
  · rw [decide_eq_false e]
    rw [Bool.and_eq_false_iff, Bool.and_eq_false_iff]
    simp only [decide_eq_false_iff_not]
    show _ ∨ ¬ (j : Int) * P < _ ∨ _
    rw [h1, h2]
    omega
theorem pc_free {P : Int} (hP : 1 ≤ P) (size : Int) (J : List Nat) (a : Nat) : freeB size (J.map (pc P)) ((a : Int) * P) ((a : Int) * P + P) (-1) = (!decide (size < (a : Int) * P + P) && !J.contains a) := by
  unfold freeB
  congr 2
  induction J with
  | nil => rfl
  | cons j J ih =>
    rw [List.map_cons, List.any_cons, pc_clash hP, ih, List.contains_cons]
    congr 1
/-- the first piece that is free -/
theorem scan_hit {P : Int} (hP : 1 ≤ P) (size : Int) (J : List Nat) (t : Nat) (ht : J.contains t = false) (hfit : (t : Int) * P + P ≤ size) : ∀ (f i : Nat), i ≤ t → (∀ k, i ≤ k → k < t → J.contains k = true) → t - i < f →
    scanF (poolP size (J.map (pc P)) P 1) (size - P) P f ((i : Int) * P) = some ((t : Int) * P)
  | 0, i, _, _, h => by omega
  | f + 1, i, hi, hk, hf => by
    have hle : (i : Int) * P ≤ (t : Int) * P := Int.mul_le_mul_of_nonneg_right (by omega) (by omega)
    unfold scanF
    rw [if_neg (by omega)]
    unfold poolP
    rw [pc_free hP, Int.emod_one]
    by_cases e : i = t
    · subst e
      rw [ht, decide_eq_false (by omega : ¬ size < _)]
      simp
    · rw [hk i (Nat.le_refl _) (by omega)]
      simp only [Bool.not_true, Bool.and_false, Bool.false_eq_true, if_false]
      rw [← mulP_succ]
      exact scan_hit hP size J t ht hfit f (i + 1) (by omega) (fun k h1 h2 => hk k (by omega) h2) (by omega)
theorem scan_miss {P : Int} (hP : 1 ≤ P) (size : Int) (J : List Nat) (hall : ∀ k : Nat, (k : Int) * P + P ≤ size → J.contains k = true) : ∀ (f i : Nat), scanF (poolP size (J.map (pc P)) P 1) (size - P) P f ((i : Int) * P) = none
  | 0, i => rfl
  | f + 1, i => by
    unfold scanF
    split
    · rfl
    · rename_i h
      unfold poolP
      rw [pc_free hP, hall i (by omega)]
      simp only [Bool.not_true, Bool.and_false, Bool.false_eq_true, if_false]
      rw [← mulP_succ]
      exact scan_miss hP size J hall f (i + 1)
/-- a pool whose live pieces are those of J -/
structure Pool (P size : Int) (J : List Nat) (m : HM) : Prop where
  kind : m.kind = 3
  piece : m.piece = P
  size : m.size = size
  live : m.live = J.map (pc P)
  failIn : m.failIn = 0
theorem Pool.count {P size : Int} {J : List Nat} {m : HM} (h : Pool P size J m) : Pool P size J (countM m) := ⟨h.kind, h.piece, h.size, h.live, by show (if m.failIn = 0 then 0 else _) = 0; rw [if_pos h.failIn]⟩
theorem pool_new {P size : Int} : Pool P size [] (newM 3 size P) := ⟨rfl, rfl, rfl, rfl, rfl⟩
theorem room_pool {P size : Int} {J : List Nat} {m : HM} (h : Pool P size J m) (n : Int) : roomM m n 1 = if n ≤ P then scanF (poolP size (J.map (pc P)) P 1) (size - P) P 5000 0 else none := by
  unfold roomM
  rw [if_neg (by rw [h.kind]; decide), if_pos h.kind, h.piece, h.size, h.live]
theorem below_all {P : Int} (hP : 1 ≤ P) (J : List Nat) (t : Nat) (h : ∀ j ∈ J, j < t) : below (J.map (pc P)) ((t : Int) * P) = (J.map (pc P)).length := by
  unfold below
  rw [List.countP_eq_length]
  intro x hx
  obtain ⟨j, hj, rfl⟩ := List.mem_map.1 hx
  exact decide_eq_true ((mulP_lt hP j t).2 (h j hj))
theorem insAt_end {α : Type} (l : List α) (x : α) : insAt l l.length [x] = l ++ [x] := by
  unfold insAt
  simp
theorem sizeB_P {P size : Int} (hP : 1 ≤ P) (hs : P ≤ size) (h4 : size ≤ 400) : (sizeB P && alignB 1) = true := by
  unfold sizeB
  rw [show alignB 1 = true from rfl]
  simp
  omega
theorem fill_step {P size : Int} (hP : 1 ≤ P) (hs : P ≤ size) (h4 : size ≤ 400) {j : Nat} {m : HM} (h : Pool P size (List.range j) m) (hj : j < 64) (hfit : (j : Int) * P + P ≤ size) :
    (allocM m P 1).2 = ((j : Int) * P, 0) ∧ Pool P size (List.range (j + 1)) (allocM m P 1).1 := by
  have hl : m.live.length = j := by rw [h.live]; simp
  have hsc : roomM (countM m) P 1 = some ((j : Int) * P) := by
    rw [room_pool h.count, if_pos (Int.le_refl _)]
    have := scan_hit hP size (List.range j) j (by simp) hfit 5000 0 (by omega) (fun k _ hk => by simpa using hk) (by omega)
    simpa using this
  unfold allocM
  rw [if_neg (by rw [sizeB_P hP hs h4]; simp), if_neg (by rw [h.failIn, hl]; omega), hsc]
  refine ⟨rfl, ⟨h.kind, h.piece, h.size, ?_, h.count.failIn⟩⟩
  show insAt (countM m).live (below (countM m).live ((j : Int) * P)) [((j : Int) * P, undefs P.toNat)] = _
  rw [h.count.live, below_all hP _ _ (fun k hk => by simpa using hk), insAt_end, List.range_succ, List.map_append]
  rfl
theorem fill_end {P size : Int} (hP : 1 ≤ P) (hs : P ≤ size) (h4 : size ≤ 400) {j : Nat} {m : HM} (h : Pool P size (List.range j) m) (hj : j = 64 ∨ size < (j : Int) * P + P) :
    (allocM m P 1).2.2 = 3 ∧ Pool P size (List.range j) (allocM m P 1).1 := by
  have hl : m.live.length = j := by rw [h.live]; simp
  unfold allocM
  rw [if_neg (by rw [sizeB_P hP hs h4]; simp)]
  by_cases e : j = 64
  · rw [if_pos (.inr (by rw [hl, e]))]
    exact ⟨rfl, h.count⟩
  · have hsc : roomM (countM m) P 1 = none := by
      rw [room_pool h.count, if_pos (Int.le_refl _)]
      have := scan_miss hP size (List.range j) (fun k hk => by
        rcases Nat.lt_or_ge k j with h1 | h1
        · simpa using h1
        · have : (j : Int) * P ≤ (k : Int) * P := Int.mul_le_mul_of_nonneg_right (by omega) (by omega)
          omega) 5000 0
      simpa using this
    split
    · exact ⟨rfl, h.count⟩
    · rw [hsc]
      exact ⟨rfl, h.count⟩
theorem alloc_calls (m : HM) (P : Int) (h : (sizeB P && alignB 1) = true) : (allocM m P 1).1.calls = m.calls + 1 := by
  unfold allocM
  rw [if_neg (by rw [h]; simp)]
  split
  · rfl
  · split <;> rfl
theorem has_pc {P : Int} (hP : 1 ≤ P) (J : List Nat) (t : Nat) : has (J.map (pc P)) ((t : Int) * P) = J.contains t := by
  unfold has
  induction J with
  | nil => rfl
  | cons j J ih =>
    rw [List.map_cons, List.any_cons, ih, List.contains_cons]
    congr 1
    show ((j : Int) * P == (t : Int) * P) = (t == j)
    by_cases e : t = j
    · subst e; simp
    · have : ¬ (j : Int) * P = (t : Int) * P := fun h => e (mulP_inj hP h).symm
      rw [beq_eq_false_iff_ne.2 this, beq_eq_false_iff_ne.2 e]
/-- a piece is given back, twice, and handed out again -/
theorem pool_back {P size : Int} (hP : 1 ≤ P) (hs : P ≤ size) (h4 : size ≤ 400) {N t : Nat} {m : HM} (h : Pool P size (List.range N) m) (hN : N ≤ 64) (ht : t < N) (hfit : (N : Int) * P ≤ size) :
    (freeM m ((t : Int) * P)).2 = 0 ∧ (freeM (freeM m ((t : Int) * P)).1 ((t : Int) * P)) = ((freeM m ((t : Int) * P)).1, 9) ∧ (allocM (freeM m ((t : Int) * P)).1 1 1).2 = ((t : Int) * P, 0) := by
  have h1 : has m.live ((t : Int) * P) = true := by rw [h.live, has_pc hP]; simpa using ht
  have hb : below m.live ((t : Int) * P) = t := by
    rw [h.live]
    unfold below
    rw [List.countP_map]
    have e : List.range N = List.range t ++ (List.range (N - t)).map (t + ·) := by
      have := List.range_add (n := t) (m := N - t)
      rw [show t + (N - t) = N by omega] at this
      exact this
    rw [e, List.countP_append, List.countP_eq_length.2 (fun x hx => by
      have hx : x < t := by simpa using hx
      exact decide_eq_true ((mulP_lt hP x t).2 hx)), List.countP_eq_zero.2 (fun x hx => by
      obtain ⟨y, _, rfl⟩ := List.mem_map.1 hx
      have : (t : Int) * P ≤ ((t + y : Nat) : Int) * P := Int.mul_le_mul_of_nonneg_right (by omega) (by omega)
      exact (by
        show ¬ decide (((t + y : Nat) : Int) * P < (t : Int) * P) = true
        rw [decide_eq_true_eq]
        omega))]
    simp
  have hf : freeM m ((t : Int) * P) = (takeM m t (atM m ((t : Int) * P)), 0) := by
    unfold freeM
    rw [if_neg (by rw [h1]; simp), hb]
  have hp : Pool P size (delAt (List.range N) t 1) (takeM m t (atM m ((t : Int) * P))) := ⟨h.kind, h.piece, h.size, by
    show delAt m.live t 1 = _
    rw [h.live, delAt_map], h.failIn⟩
  have hnot : (delAt (List.range N) t 1).contains t = false := by
    rw [← Bool.not_eq_true, List.contains_iff_mem]
    intro hx
    obtain ⟨j, hj, e⟩ := List.getElem_of_mem hx
    have hg := List.getElem?_eq_getElem hj
    rw [e, delAt_get _ _ _ (by simp; omega)] at hg
    split at hg
    · rw [List.getElem?_range (by omega)] at hg
      have := Option.some.inj hg
      omega
    · have hlt : j + 1 < N := by
        have := (List.getElem?_eq_some_iff.1 hg).1
        simpa using this
      rw [List.getElem?_range hlt] at hg
      have := Option.some.inj hg
      omega
  have hin : ∀ k, k < t → (delAt (List.range N) t 1).contains k = true := fun k hk => by
    rw [List.contains_iff_mem]
    refine List.mem_of_getElem? (i := k) ?_
    rw [delAt_get _ _ _ (by simp; omega), if_pos hk, List.getElem?_range (by omega)]
  rw [hf]
  refine ⟨rfl, ?_, ?_⟩
  · show freeM (takeM m t _) _ = (takeM m t _, 9)
    unfold freeM
    rw [if_pos (by rw [hp.live, has_pc hP]; exact hnot)]
  · show (allocM (takeM m t _) 1 1).2 = _
    have hl : (takeM m t (atM m ((t : Int) * P))).live.length < 64 := by
      rw [hp.live, List.length_map, delAt_len _ _ _ (by simp; omega)]
      simp
      omega
    have hle : (t : Int) * P + P ≤ (N : Int) * P := by
      have := Int.mul_le_mul_of_nonneg_right (show ((t + 1 : Nat) : Int) ≤ (N : Int) by omega) (show 0 ≤ P by omega)
      rw [mulP_succ] at this
      exact this
    have hsc : roomM (countM (takeM m t (atM m ((t : Int) * P)))) 1 1 = some ((t : Int) * P) := by
      rw [room_pool hp.count, if_pos hP]
      have := scan_hit hP size _ t hnot (by omega) 5000 0 (by omega) (fun k _ hk => hin k hk) (by omega)
      simpa using this
    unfold allocM
    rw [if_neg (by simp [sizeB, show alignB 1 = true from rfl]), if_neg (by rw [hp.failIn]; omega), hsc]
/-- how many pieces there are -/
theorem pieces_end {P size : Int} (hP : 1 ≤ P) (hs : P ≤ size) {j : Nat} (hj : j ≤ 64) (hfit : (j : Int) * P ≤ size) (he : j = 64 ∨ size < (j : Int) * P + P) : min (size / P) 64 = (j : Int) := by
  have h1 : (j : Int) ≤ size / P := (Int.le_ediv_iff_mul_le (by omega)).2 hfit
  rcases he with rfl | he
  · exact Int.min_eq_right h1
  · have h2 : size / P < (j : Int) + 1 := (Int.ediv_lt_iff_lt_mul (by omega)).2 (by rw [Int.add_mul]; omega)
    have : size / P = (j : Int) := by omega
    rw [this]
    exact Int.min_eq_left (by omega)
end Go.Proofs.Ytegpkcbmgjoicaa
