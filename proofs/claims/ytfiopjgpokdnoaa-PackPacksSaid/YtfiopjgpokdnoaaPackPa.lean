/- Packing in plain Lean: matches, what items make, the smallest length. Conditions: as each theorem says. -/
import Derived.Test.YtfiopjgpokdnoaaPackU
namespace Go.Proofs.Ytfiopjgpokdnoaa.PP
set_option linter.unusedVariables false
set_option linter.unusedSimpArgs false
/-! ### how many bytes from two places on are equal -/
def mtR (b : List Nat) : Nat → Nat → Nat → Nat
  | 0, _, _ => 0
  | f + 1, i, j => if j < b.length ∧ b.getD i 0 = b.getD j 0 then 1 + mtR b f (i + 1) (j + 1) else 0
def mt (b : List Nat) (i j : Nat) : Nat := mtR b 130 i j
theorem mtR_le (b : List Nat) : ∀ f i j, mtR b f i j ≤ f
  | 0, _, _ => Nat.le_refl _
  | f + 1, i, j => by
    unfold mtR
    split
    · have := mtR_le b f (i + 1) (j + 1); omega
    · omega
theorem mt_le (b : List Nat) (i j : Nat) : mt b i j ≤ 130 := mtR_le b 130 i j
theorem mtR_eq (b : List Nat) : ∀ f i j k, k < mtR b f i j → j + k < b.length ∧ b.getD (i + k) 0 = b.getD (j + k) 0
  | 0, _, _, k, h => by simp [mtR] at h
  | f + 1, i, j, k, h => by
    unfold mtR at h
    split at h
    · rename_i hc
      cases k with
      | zero => exact hc
      | succ k =>
        have := mtR_eq b f (i + 1) (j + 1) k (by omega)
        rw [show i + (k + 1) = i + 1 + k by omega, show j + (k + 1) = j + 1 + k by omega]
        exact this
    · omega
theorem mtR_ge (b : List Nat) : ∀ f i j m, m ≤ f → (∀ k, k < m → j + k < b.length ∧ b.getD (i + k) 0 = b.getD (j + k) 0) → m ≤ mtR b f i j
  | 0, _, _, m, h, _ => by omega
  | f + 1, i, j, m, h, hk => by
    cases m with
    | zero => omega
    | succ m =>
      have h0 : j < b.length ∧ b.getD i 0 = b.getD j 0 := hk 0 (by omega)
      unfold mtR
      rw [if_pos h0]
      have := mtR_ge b f (i + 1) (j + 1) m (by omega) fun k hk' => by
        have := hk (k + 1) (by omega)
        rw [show i + 1 + k = i + (k + 1) by omega, show j + 1 + k = j + (k + 1) by omega]
        exact this
      omega
theorem mt_end {b : List Nat} {i j : Nat} (h : 0 < mt b i j) : j + mt b i j ≤ b.length := by
  have := mtR_eq b 130 i j (mt b i j - 1) (by unfold mt at h ⊢; omega)
  omega
/-! ### a copy, and what it is in the bytes -/
theorem getD_app1 {o : List Nat} {x : Nat} {i : Nat} (h : i < o.length) : (o ++ [x]).getD i 0 = o.getD i 0 := by
  rw [List.getD_eq_getElem?_getD, List.getD_eq_getElem?_getD, List.getElem?_append_left h]
theorem getD_last {o : List Nat} {x : Nat} : (o ++ [x]).getD o.length 0 = x := by
  rw [List.getD_eq_getElem?_getD, List.getElem?_append_right (Nat.le_refl _)]
  simp
theorem cp_low {d : Nat} {o : List Nat} : ∀ m i, i < o.length → (cp d o m).getD i 0 = o.getD i 0
  | 0, _, _ => rfl
  | m + 1, i, h => by
    show (cpS d (cp d o m)).getD i 0 = _
    unfold cpS
    rw [getD_app1 (by rw [cp_length]; omega)]
    exact cp_low m i h
theorem cp_at {d : Nat} {o : List Nat} (h1 : 1 ≤ d) (h2 : d ≤ o.length) : ∀ m k, k < m → (cp d o m).getD (o.length + k) 0 = (cp d o m).getD (o.length + k - d) 0
  | 0, _, h => by omega
  | m + 1, k, h => by
    show (cpS d (cp d o m)).getD _ 0 = (cpS d (cp d o m)).getD _ 0
    have hl := cp_length d o m
    unfold cpS
    by_cases e : k = m
    · subst e
      rw [show o.length + k = (cp d o k).length by omega, getD_last, getD_app1 (by omega)]
    · rw [getD_app1 (by omega), getD_app1 (by omega)]
      exact cp_at h1 h2 m k (by omega)
theorem take_snoc {b : List Nat} {n : Nat} (h : n < b.length) : b.take (n + 1) = b.take n ++ [b.getD n 0] := by
  rw [List.take_add_one, List.getD_eq_getElem?_getD, List.getElem?_eq_getElem h]
  rfl
theorem cp_take {b : List Nat} {at_ d : Nat} (h1 : 1 ≤ d) (h2 : d ≤ at_) : ∀ m, m ≤ mt b (at_ - d) at_ → cp d (b.take at_) m = b.take (at_ + m) ∧ (m = 0 ∨ at_ + m ≤ b.length)
  | 0, _ => ⟨rfl, .inl rfl⟩
  | m + 1, h => by
    obtain ⟨e1, e2⟩ := mtR_eq b 130 (at_ - d) at_ m h
    obtain ⟨ih, -⟩ := cp_take (b := b) h1 h2 m (by omega)
    refine ⟨?_, .inr (by omega)⟩
    show cpS d (cp d (b.take at_) m) = _
    rw [ih]
    unfold cpS
    have hl : (b.take (at_ + m)).length = at_ + m := by rw [List.length_take]; omega
    rw [hl, ← Nat.add_assoc, take_snoc e1, ← e2]
    congr 2
    rw [List.getD_eq_getElem?_getD, List.getElem?_take, if_pos (by omega), List.getD_eq_getElem?_getD]
    congr 2
    omega
/-! ### items, one text behind another one -/
theorem item_app {x o x' o' : List Nat} (hx : x.length ≠ 0) (h : item x o = some (x', o')) (y : List Nat) : item (x ++ y) o = some (x' ++ y, o') := by
  have g0 : (x ++ y).getD 0 0 = x.getD 0 0 := by
    rw [List.getD_eq_getElem?_getD, List.getD_eq_getElem?_getD, List.getElem?_append_left (by omega)]
  unfold item at h ⊢
  rw [g0]
  split at h
  · rename_i hc
    rw [if_pos hc]
    split at h
    · cases h
    · rename_i hl
      rw [if_neg (by rw [List.length_append]; omega)]
      injection h with h
      injection h with h1 h2
      rw [← h1, ← h2, List.drop_append_of_le_length (by omega), List.drop_append_of_le_length (by omega), List.take_append_of_le_length (by rw [List.length_drop]; omega)]
  · rename_i hc
    rw [if_neg hc]
    split at h
    · cases h
    · rename_i hl
      have g1 : (x ++ y).getD 1 0 = x.getD 1 0 := by
        rw [List.getD_eq_getElem?_getD, List.getD_eq_getElem?_getD, List.getElem?_append_left (by omega)]
      have g2 : (x ++ y).getD 2 0 = x.getD 2 0 := by
        rw [List.getD_eq_getElem?_getD, List.getD_eq_getElem?_getD, List.getElem?_append_left (by omega)]
      rw [if_neg (by rw [List.length_append]; omega), g1, g2]
      split at h
      · cases h
      · rename_i hd
        rw [if_neg hd]
        have h := Prod.mk.inj (Option.some.inj h)
        obtain ⟨h1, h2⟩ := h
        rw [← h1, ← h2, List.drop_append_of_le_length (by omega)]
/-- some items make of what has come something else -/
def Pk (x o o' : List Nat) : Prop := ∃ k, k ≤ x.length ∧ ∀ y f n, items (f + k) (x ++ y) o n = items f y o' (n + k)
theorem Pk.nil (o : List Nat) : Pk [] o o := ⟨0, Nat.le_refl _, fun _ _ _ => rfl⟩
theorem Pk.app {x y o1 o2 o3 : List Nat} (h1 : Pk x o1 o2) (h2 : Pk y o2 o3) : Pk (x ++ y) o1 o3 := by
  obtain ⟨k1, l1, h1⟩ := h1
  obtain ⟨k2, l2, h2⟩ := h2
  refine ⟨k1 + k2, by rw [List.length_append]; omega, fun z f n => ?_⟩
  have e : f + (k1 + k2) = f + k2 + k1 := by omega
  rw [List.append_assoc, e, h1, h2, Nat.add_assoc]
theorem Pk.one {x o o' : List Nat} (hx : x.length ≠ 0) (h : item x o = some ([], o')) : Pk x o o' := by
  refine ⟨1, by omega, fun y f n => ?_⟩
  rw [items_some (by omega) (by rw [List.length_append]; omega) (item_app hx h y)]
  rfl
theorem Pk.whole {x b : List Nat} (h : Pk x [] b) : ∃ k, itemsF x = some (k, b) := by
  obtain ⟨k, l, h⟩ := h
  refine ⟨k, ?_⟩
  have := h [] (x.length + 1 - k) 0
  rw [List.append_nil, show x.length + 1 - k + k = x.length + 1 by omega] at this
  unfold itemsF
  rw [this, items_end (by omega) rfl, Nat.zero_add]
/-- bytes that stand for themselves -/
def plF : Nat → List Nat → List Nat
  | 0, _ => []
  | f + 1, s => if s.length = 0 then [] else (min s.length 128 - 1) :: (s.take (min s.length 128) ++ plF f (s.drop (min s.length 128)))
def plainF (s : List Nat) : List Nat := plF s.length s
theorem plF_two : ∀ f g s, s.length ≤ f → s.length ≤ g → plF f s = plF g s
  | 0, 0, _, _, _ => rfl
  | 0, g + 1, s, h, _ => by
    show [] = plF (g + 1) s
    unfold plF
    rw [if_pos (by omega)]
  | f + 1, 0, s, _, h => by
    show plF (f + 1) s = []
    unfold plF
    rw [if_pos (by omega)]
  | f + 1, g + 1, s, h1, h2 => by
    by_cases h0 : s.length = 0
    · unfold plF
      rw [if_pos h0, if_pos h0]
    · unfold plF
      rw [if_neg h0, if_neg h0, plF_two f g _ (by rw [List.length_drop]; omega) (by rw [List.length_drop]; omega)]
theorem plF_more (f : Nat) (s : List Nat) (h : s.length ≤ f) : plF f s = plF s.length s := plF_two f _ s h (Nat.le_refl _)
theorem plainF_step {s : List Nat} (h : s.length ≠ 0) : plainF s = (min s.length 128 - 1) :: (s.take (min s.length 128) ++ plainF (s.drop (min s.length 128))) := by
  unfold plainF
  obtain ⟨n, hn⟩ : ∃ n, s.length = n + 1 := ⟨s.length - 1, by omega⟩
  rw [hn, plF, if_neg h, hn, plF_more n _ (by rw [List.length_drop]; omega)]
theorem plainF_nil : plainF [] = [] := rfl
theorem plain_pk : ∀ (n : Nat) (s o : List Nat), s.length ≤ n → Pk (plainF s) o (o ++ s)
  | n, s, o, hn => by
    by_cases h : s.length = 0
    · obtain rfl : s = [] := List.eq_nil_of_length_eq_zero h
      rw [plainF_nil, List.append_nil]
      exact Pk.nil o
    · cases n with
      | zero => omega
      | succ n =>
        rw [plainF_step h]
        obtain ⟨c, hc⟩ : ∃ c, c = min s.length 128 := ⟨_, rfl⟩
        rw [← hc]
        have ht : (s.take c).length = c := by rw [List.length_take]; omega
        have h1 : Pk ((c - 1) :: s.take c) o (o ++ s.take c) := by
          refine Pk.one (by simp) ?_
          have e0 : ((c - 1) :: s.take c).getD 0 0 = c - 1 := rfl
          rw [item_plain (by rw [e0]; omega) (by rw [e0, List.length_cons, ht]; omega), e0]
          have e1 : ((c - 1) :: s.take c).drop (c - 1 + 2) = [] := by
            rw [List.drop_eq_nil_iff, List.length_cons, ht]; omega
          have e2 : (((c - 1) :: s.take c).drop 1).take (c - 1 + 1) = s.take c := by
            show (s.take c).take (c - 1 + 1) = _
            rw [List.take_take, show min (c - 1 + 1) c = c by omega]
          rw [e1, e2]
        have h2 := plain_pk n (s.drop c) (o ++ s.take c) (by rw [List.length_drop]; omega)
        have := h1.app h2
        rw [List.append_assoc, List.take_append_drop] at this
        rw [← List.cons_append]
        exact this
theorem plain_len : ∀ (n : Nat) (s : List Nat), s.length ≤ n → (plainF s).length = s.length + (s.length + 127) / 128
  | n, s, hn => by
    by_cases h : s.length = 0
    · obtain rfl : s = [] := List.eq_nil_of_length_eq_zero h
      rfl
    · cases n with
      | zero => omega
      | succ n =>
        rw [plainF_step h, List.length_cons, List.length_append, plain_len n _ (by rw [List.length_drop]; omega), List.length_take, List.length_drop]
        omega
theorem plain_small {s : List Nat} : ∀ (n : Nat) (s : List Nat), s.length ≤ n → (∀ x ∈ s, x < 256) → ∀ x ∈ plainF s, x < 256
  | n, s, hn, hs => by
    by_cases h : s.length = 0
    · obtain rfl : s = [] := List.eq_nil_of_length_eq_zero h
      intro x hx
      cases hx
    · cases n with
      | zero => omega
      | succ n =>
        rw [plainF_step h]
        intro x hx
        rcases List.mem_cons.1 hx with rfl | hx
        · omega
        · rcases List.mem_append.1 hx with hx | hx
          · exact hs x (List.mem_of_mem_take hx)
          · exact plain_small (s := []) n _ (by rw [List.length_drop]; omega) (fun y hy => hs y (List.mem_of_mem_drop hy)) x hx
theorem copy_pk {b : List Nat} {at_ d m : Nat} (h1 : 1 ≤ d) (h2 : d ≤ at_) (hb : at_ ≤ b.length) (h65 : d < 65536) (hm : m ≤ mt b (at_ - d) at_) (h3 : 3 ≤ m) : Pk [125 + m, d % 256, d / 256] (b.take at_) (b.take (at_ + m)) := by
  have hm130 := mt_le b (at_ - d) at_
  refine Pk.one (by simp) ?_
  have e : ([125 + m, d % 256, d / 256] : List Nat).getD 1 0 + 256 * ([125 + m, d % 256, d / 256] : List Nat).getD 2 0 = d := by
    show d % 256 + 256 * (d / 256) = d
    omega
  rw [item_copy (by show 128 ≤ 125 + m; omega) (by simp) (by rw [e]; exact h1) (by rw [e, List.length_take]; omega), e]
  show some (_, cp d (b.take at_) (125 + m - 125)) = _
  rw [show 125 + m - 125 = m by omega, (cp_take h1 h2 m hm).1]
  rfl
/-! ### the smallest length -/
def mnP (v0 : Nat) (ls : List Nat) : Nat → Nat
  | 0 => v0
  | n + 1 => min (mnP v0 ls n) (1 + (n + 1) + ls.getD n 0)
def mnC (v0 : Nat) (ls : List Nat) : Nat → Nat
  | 0 => v0
  | n + 1 => if n < 2 then v0 else min (mnC v0 ls n) (3 + ls.getD n 0)
def mnA (b : List Nat) (at_ v0 : Nat) (ls : List Nat) : Nat → Nat
  | 0 => v0
  | k + 1 => mnC (mnA b at_ v0 ls k) ls (mt b k at_)
/-- the program's way at one place, of what stands behind it -/
def lsOne (b : List Nat) (at_ : Nat) (ls : List Nat) : Nat := mnA b at_ (mnP (2 + ls.getD 0 0) ls (min 128 (b.length - at_))) ls at_
def lsF (b : List Nat) : Nat → List Nat
  | 0 => [0]
  | k + 1 => lsOne b (b.length - k - 1) (lsF b k) :: lsF b k
def shortF (b : List Nat) : Nat := (lsF b b.length).headD 0
theorem mnP_init (v0 : Nat) (ls : List Nat) : ∀ n, mnP v0 ls n ≤ v0
  | 0 => Nat.le_refl _
  | n + 1 => by have := mnP_init v0 ls n; unfold mnP; omega
theorem mnP_le (v0 : Nat) (ls : List Nat) : ∀ n k, k < n → mnP v0 ls n ≤ 1 + (k + 1) + ls.getD k 0
  | 0, _, h => by omega
  | n + 1, k, h => by
    unfold mnP
    by_cases e : k = n
    · subst e; omega
    · have := mnP_le v0 ls n k (by omega); omega
theorem mnC_small (v0 : Nat) (ls : List Nat) : ∀ n, n ≤ 2 → mnC v0 ls n = v0
  | 0, _ => rfl
  | n + 1, h => by unfold mnC; rw [if_pos (by omega)]
theorem mnC_init (v0 : Nat) (ls : List Nat) : ∀ n, mnC v0 ls n ≤ v0
  | 0 => Nat.le_refl _
  | n + 1 => by
    have := mnC_init v0 ls n
    unfold mnC
    split <;> omega
theorem mnC_le (v0 : Nat) (ls : List Nat) : ∀ n k, k < n → 2 ≤ k → mnC v0 ls n ≤ 3 + ls.getD k 0
  | 0, _, h, _ => by omega
  | n + 1, k, h, h2 => by
    unfold mnC
    rw [if_neg (by omega)]
    by_cases e : k = n
    · subst e; omega
    · have := mnC_le v0 ls n k (by omega) h2; omega
theorem mnC_min (v0 u : Nat) (ls : List Nat) : ∀ n, mnC (min v0 u) ls n = min (mnC v0 ls n) u
  | 0 => rfl
  | n + 1 => by
    unfold mnC
    split
    · rfl
    · rw [mnC_min v0 u ls n]; omega
theorem mnC_two (v0 : Nat) (ls : List Nat) : ∀ n m, mnC (mnC v0 ls n) ls m = mnC v0 ls (max n m)
  | n, 0 => by rw [Nat.max_zero]; rfl
  | n, m + 1 => by
    by_cases h : m < 2
    · rw [mnC_small _ _ _ (by omega)]
      by_cases h2 : n ≤ 2
      · rw [mnC_small _ _ _ h2, mnC_small _ _ _ (by omega)]
      · rw [show max n (m + 1) = n by omega]
    · rw [mnC, if_neg h, mnC_two v0 ls n m]
      by_cases h3 : n ≤ m
      · rw [show max n m = m by omega, show max n (m + 1) = m + 1 by omega]
        conv => rhs; rw [mnC, if_neg h]
      · rw [show max n m = n by omega, show max n (m + 1) = n by omega]
        have := mnC_le v0 ls n m (by omega) (by omega)
        omega
def mxA (f : Nat → Nat) : Nat → Nat
  | 0 => 0
  | k + 1 => max (mxA f k) (f k)
theorem mxA_ge (f : Nat → Nat) : ∀ n k, k < n → f k ≤ mxA f n
  | 0, _, h => by omega
  | n + 1, k, h => by
    unfold mxA
    by_cases e : k = n
    · subst e; omega
    · have := mxA_ge f n k (by omega); omega
theorem mxA_le (f : Nat → Nat) {u : Nat} : ∀ n, (∀ k, k < n → f k ≤ u) → mxA f n ≤ u
  | 0, _ => Nat.zero_le _
  | n + 1, h => by
    have := mxA_le f n fun k hk => h k (by omega)
    have := h n (by omega)
    unfold mxA
    omega
theorem mnA_eq (b : List Nat) (at_ v0 : Nat) (ls : List Nat) : ∀ k, mnA b at_ v0 ls k = mnC v0 ls (mxA (fun i => mt b i at_) k)
  | 0 => rfl
  | k + 1 => by
    show mnC (mnA b at_ v0 ls k) ls (mt b k at_) = _
    rw [mnA_eq b at_ v0 ls k, mnC_two]
    rfl
/-- the document's way -/
def reachF (b : List Nat) (at_ : Nat) : Nat := mxA (fun d => mt b (at_ - (d + 1)) at_) at_
def rOne (b : List Nat) (at_ : Nat) (ls : List Nat) : Nat := mnC (mnP 1073741824 ls (min 128 (b.length - at_))) ls (reachF b at_)
theorem reach_eq (b : List Nat) (at_ : Nat) : mxA (fun i => mt b i at_) at_ = reachF b at_ := by
  refine Nat.le_antisymm (mxA_le _ _ fun k hk => ?_) (mxA_le _ _ fun k hk => ?_)
  · have := mxA_ge (fun d => mt b (at_ - (d + 1)) at_) at_ (at_ - 1 - k) (by omega)
    rw [show at_ - (at_ - 1 - k + 1) = k by omega] at this
    exact this
  · exact mxA_ge (fun i => mt b i at_) at_ (at_ - (k + 1)) (by omega)
theorem mnP_first {v0 u : Nat} {ls : List Nat} (h : 2 + ls.getD 0 0 ≤ v0) (hu : 2 + ls.getD 0 0 ≤ u) : ∀ n, 0 < n → mnP v0 ls n = mnP u ls n
  | 0, h0 => by omega
  | 1, _ => by unfold mnP mnP; omega
  | n + 2, _ => by
    have := mnP_first h hu (n + 1) (by omega)
    unfold mnP
    rw [this]
theorem one_eq {b : List Nat} {at_ : Nat} {ls : List Nat} (h : at_ < b.length) (hl : 2 + ls.getD 0 0 ≤ 1073741824) : lsOne b at_ ls = rOne b at_ ls := by
  unfold lsOne rOne
  rw [mnA_eq, reach_eq, mnP_first (u := 1073741824) (Nat.le_refl _) hl _ (by omega)]
theorem lsF_len (b : List Nat) : ∀ k, (lsF b k).length = k + 1
  | 0 => rfl
  | k + 1 => by unfold lsF; rw [List.length_cons, lsF_len b k]
theorem lsOne_le (b : List Nat) (at_ : Nat) (ls : List Nat) : lsOne b at_ ls ≤ 2 + ls.getD 0 0 := by
  unfold lsOne
  rw [mnA_eq]
  exact Nat.le_trans (mnC_init _ _ _) (mnP_init _ _ _)
theorem lsF_head_le (b : List Nat) : ∀ k, (lsF b k).getD 0 0 ≤ 2 * k
  | 0 => Nat.le_refl _
  | k + 1 => by
    have := lsF_head_le b k
    have h := lsOne_le b (b.length - k - 1) (lsF b k)
    show lsOne b (b.length - k - 1) (lsF b k) ≤ _
    omega
theorem lsF_le (b : List Nat) : ∀ k, ∀ x ∈ lsF b k, x ≤ 2 * k
  | 0, x, h => by
    rcases List.mem_cons.1 h with rfl | h
    · exact Nat.le_refl _
    · cases h
  | k + 1, x, h => by
    rcases List.mem_cons.1 h with rfl | h
    · exact lsF_head_le b (k + 1)
    · have := lsF_le b k x h; omega
/-- the smallest length from a place on -/
def Lat (b : List Nat) (at_ : Nat) : Nat := (lsF b (b.length - at_)).getD 0 0
theorem lsF_at (b : List Nat) : ∀ k j, j ≤ k → k ≤ b.length → (lsF b k).getD j 0 = Lat b (b.length - k + j)
  | k, 0, _, h => by
    unfold Lat
    rw [show b.length - (b.length - k + 0) = k by omega]
  | 0, j + 1, h, _ => by omega
  | k + 1, j + 1, h, h2 => by
    show (lsF b k).getD j 0 = _
    rw [lsF_at b k j (by omega) (by omega), show b.length - (k + 1) + (j + 1) = b.length - k + j by omega]
theorem Lat_end (b : List Nat) : Lat b b.length = 0 := by
  unfold Lat
  rw [Nat.sub_self]
  rfl
theorem Lat_step {b : List Nat} {at_ : Nat} (h : at_ < b.length) : Lat b at_ = lsOne b at_ (lsF b (b.length - at_ - 1)) := by
  unfold Lat
  obtain ⟨k, hk⟩ : ∃ k, b.length - at_ = k + 1 := ⟨b.length - at_ - 1, by omega⟩
  rw [hk, lsF]
  show lsOne b (b.length - k - 1) (lsF b k) = _
  rw [show b.length - k - 1 = at_ by omega, show k + 1 - 1 = k by omega]
theorem Lat_plain {b : List Nat} {at_ n : Nat} (h1 : 1 ≤ n) (h2 : n ≤ 128) (h3 : at_ + n ≤ b.length) : Lat b at_ ≤ 1 + n + Lat b (at_ + n) := by
  rw [Lat_step (by omega)]
  unfold lsOne
  rw [mnA_eq]
  refine Nat.le_trans (mnC_init _ _ _) ?_
  have := mnP_le (2 + (lsF b (b.length - at_ - 1)).getD 0 0) (lsF b (b.length - at_ - 1)) (min 128 (b.length - at_)) (n - 1) (by omega)
  rw [lsF_at b _ (n - 1) (by omega) (by omega), show b.length - (b.length - at_ - 1) + (n - 1) = at_ + n by omega] at this
  omega
theorem Lat_copy {b : List Nat} {at_ m i : Nat} (h0 : i < at_) (h1 : 3 ≤ m) (h2 : m ≤ mt b i at_) : Lat b at_ ≤ 3 + Lat b (at_ + m) := by
  have he := mt_end (b := b) (i := i) (j := at_) (by omega)
  rw [Lat_step (by omega)]
  unfold lsOne
  rw [mnA_eq]
  have hx := mxA_ge (fun i => mt b i at_) at_ i h0
  have := mnC_le (mnP (2 + (lsF b (b.length - at_ - 1)).getD 0 0) (lsF b (b.length - at_ - 1)) (min 128 (b.length - at_))) (lsF b (b.length - at_ - 1)) (mxA (fun i => mt b i at_) at_) (m - 1) (by omega) (by omega)
  rw [lsF_at b _ (m - 1) (by omega) (by omega), show b.length - (b.length - at_ - 1) + (m - 1) = at_ + m by omega] at this
  omega
/-! ### no packed text is shorter -/
theorem item_grows {x o x' o' : List Nat} (h : item x o = some (x', o')) : ∃ t, o' = o ++ t := by
  unfold item at h
  split at h
  · split at h
    · cases h
    · injection h with h
      injection h with h1 h2
      exact ⟨_, h2.symm⟩
  · split at h
    · cases h
    · split at h
      · cases h
      · injection h with h
        injection h with h1 h2
        rw [← h2]
        have : ∀ d (o : List Nat) m, ∃ t, cp d o m = o ++ t := fun d o m => by
          induction m with
          | zero => exact ⟨[], (List.append_nil _).symm⟩
          | succ m ih =>
            obtain ⟨t, ht⟩ := ih
            refine ⟨t ++ [(cp d o m).getD ((cp d o m).length - d) 0], ?_⟩
            show cp d o m ++ _ = _
            rw [← List.append_assoc, ← ht]
        exact this _ _ _
theorem items_grows : ∀ f x o n n' r, items f x o n = some (n', r) → ∃ t, r = o ++ t
  | 0, _, _, _, _, _, h => by cases h
  | f + 1, x, o, n, n', r, h => by
    unfold items at h
    split at h
    · injection h with h
      injection h with h1 h2
      exact ⟨[], by rw [h2, List.append_nil]⟩
    · split at h
      · cases h
      · rename_i x' o' hi
        obtain ⟨t, ht⟩ := item_grows hi
        obtain ⟨t2, ht2⟩ := items_grows f x' o' _ _ _ h
        exact ⟨t ++ t2, by rw [ht2, ht, List.append_assoc]⟩
theorem least_items {b : List Nat} : ∀ f x o n n', (∀ c ∈ x, c < 256) → items f x o n = some (n', b) → Lat b o.length ≤ x.length
  | 0, _, _, _, _, _, h => by cases h
  | f + 1, x, o, n, n', hs, h => by
    obtain ⟨t, ht⟩ := items_grows _ _ _ _ _ _ h
    unfold items at h
    split at h
    · injection h with h
      injection h with h1 h2
      rw [h2, Lat_end]
      omega
    · rename_i hx
      split at h
      · cases h
      · rename_i x' o' hi
        have hs' : ∀ c ∈ x', c < 256 := by
          have : ∃ k, x' = x.drop k := by
            unfold item at hi
            split at hi
            · split at hi
              · cases hi
              · injection hi with hi; injection hi with h1 h2; exact ⟨_, h1.symm⟩
            · split at hi
              · cases hi
              · split at hi
                · cases hi
                · injection hi with hi; injection hi with h1 h2; exact ⟨_, h1.symm⟩
          obtain ⟨k, rfl⟩ := this
          exact fun c hc => hs c (List.mem_of_mem_drop hc)
        have hx0 : x.getD 0 0 < 256 := by
          rw [List.getD_eq_getElem?_getD, List.getElem?_eq_getElem (show 0 < x.length by omega)]
          exact hs _ (List.getElem_mem _)
        have ih := least_items f x' o' _ _ hs' h
        obtain ⟨t2, ht2⟩ := items_grows _ _ _ _ _ _ h
        have hbl : b.length = o'.length + t2.length := by rw [ht2, List.length_append]
        unfold item at hi
        split at hi
        · rename_i hc
          split at hi
          · cases hi
          · rename_i hl
            injection hi with hi
            injection hi with h1 h2
            have e1 : x'.length = x.length - (x.getD 0 0 + 2) := by rw [← h1, List.length_drop]
            have e2 : o'.length = o.length + (x.getD 0 0 + 1) := by rw [← h2, List.length_append, List.length_take, List.length_drop]; omega
            have := Lat_plain (b := b) (at_ := o.length) (n := x.getD 0 0 + 1) (by omega) (by omega) (by omega)
            rw [← e2] at this
            omega
        · rename_i hc
          split at hi
          · cases hi
          · rename_i hl
            split at hi
            · cases hi
            · rename_i hd
              injection hi with hi
              injection hi with h1 h2
              obtain ⟨d, ed⟩ : ∃ d, d = x.getD 1 0 + 256 * x.getD 2 0 := ⟨_, rfl⟩
              rw [← ed] at hd h2
              have e1 : x'.length = x.length - 3 := by rw [← h1, List.length_drop]
              have e2 : o'.length = o.length + (x.getD 0 0 - 125) := by rw [← h2, cp_length]
              have h130 : x.getD 0 0 - 125 ≤ 130 := by omega
              have hge : x.getD 0 0 - 125 ≤ mt b (o.length - d) o.length := by
                refine mtR_ge b 130 _ _ _ h130 fun k hk => ⟨by omega, ?_⟩
                have g : ∀ i, i < o'.length → b.getD i 0 = o'.getD i 0 := fun i hi => by
                  rw [ht2, List.getD_eq_getElem?_getD, List.getElem?_append_left hi, List.getD_eq_getElem?_getD]
                rw [g _ (by omega), g _ (by omega), ← h2, cp_at (by omega) (by omega) _ k hk, show o.length + k - d = o.length - d + k by omega]
              have := Lat_copy (b := b) (at_ := o.length) (m := x.getD 0 0 - 125) (i := o.length - d) (by omega) (by omega) hge
              rw [← e2] at this
              omega
end Go.Proofs.Ytfiopjgpokdnoaa.PP
