/- What the acts of a heap do of its bytes and blocks: plain. No program. Rows of numbers in blocks of a heap, as bytes: plain. No program. Rows that grow, are inserted, removed and dropped: plain. No program. A row put in, a row taken out: plain. No program. A general heap with room does not refuse: plain. No program. Conditions: as each theorem says. -/
import Derived.Test.YtdaklffbfadghaaGreatHqQ
namespace Go.Proofs.YtdaklffbfadghaaGreat
open Go.RowKit HP
set_option linter.unusedVariables false
set_option linter.unusedSimpArgs false
/-- a live block that begins at bg has the byte b at a place -/
def Holds (m : HM) (bg at_ b : Int) : Prop := ∃ x ∈ m.live, x.1 = bg ∧ bg ≤ at_ ∧ at_ < pend x ∧ x.2[(at_ - bg).toNat]? = some b
/-- a live block begins at bg and has n bytes -/
def Has (m : HM) (bg n : Int) : Prop := (bg, n) ∈ stretches m
theorem inB_iff {at_ : Int} {x : PB} : inB at_ x = true ↔ x.1 ≤ at_ ∧ at_ < pend x := by
  unfold inB
  rw [Bool.and_eq_true, decide_eq_true_eq, decide_eq_true_eq]
theorem inB_uniq {size : Int} {l : List PB} (F : Fit size l) {x y : PB} (hx : x ∈ l) (hy : y ∈ l) {at_ : Int} (h1 : inB at_ x = true) (h2 : inB at_ y = true) : x = y := by
  obtain ⟨i, hi, rfl⟩ := List.getElem_of_mem hx
  obtain ⟨j, hj, rfl⟩ := List.getElem_of_mem hy
  have e1 := inB_iff.1 h1
  have e2 := inB_iff.1 h2
  rcases Nat.lt_trichotomy i j with h | h | h
  · have := (F.lt (List.getElem?_eq_getElem hi) (List.getElem?_eq_getElem hj) h).2
    omega
  · subst h; rfl
  · have := (F.lt (List.getElem?_eq_getElem hj) (List.getElem?_eq_getElem hi) h).2
    omega
theorem at_uniq {size : Int} {l : List PB} (F : Fit size l) {x y : PB} (hx : x ∈ l) (hy : y ∈ l) (h : x.1 = y.1) : x = y := by
  have h1 := (F.inn x hx).2.1
  have h2 := (F.inn y hy).2.1
  exact inB_uniq F hx hy (at_ := x.1) (inB_iff.2 ⟨Int.le_refl _, by unfold pend; omega⟩) (inB_iff.2 ⟨by omega, by unfold pend; omega⟩)
theorem find_some {l : List PB} {at_ : Int} {k : Nat} (h : l.findIdx? (inB at_) = some k) : ∃ x, l[k]? = some x ∧ inB at_ x = true := by
  obtain ⟨hk, hp, -⟩ := List.findIdx?_eq_some_iff_getElem.1 h
  exact ⟨l[k], List.getElem?_eq_getElem hk, hp⟩
theorem hold_load {m : HM} (I : Inv m) {bg at_ b : Int} (H : Holds m bg at_ b) (hb : 0 ≤ b) : loadM m at_ = (b, 0) := by
  obtain ⟨x, hx, hbg, h1, h2, h3⟩ := H
  have hin : inB at_ x = true := inB_iff.2 ⟨by omega, h2⟩
  unfold loadM
  cases hf : m.live.findIdx? (inB at_) with
  | none =>
    rw [List.findIdx?_eq_none_iff] at hf
    have := hf x hx
    rw [hin] at this
    cases this
  | some k =>
    obtain ⟨y, hy, hp⟩ := find_some hf
    have e := inB_uniq I.fit hx (List.mem_of_getElem? hy) hin hp
    subst e
    simp only
    rw [hy, Option.bind_some, hbg, h3]
    simp only
    rw [if_neg (by omega)]
theorem mem_del {l : List PB} {k : Nat} {x z : PB} (hx : x ∈ l) (hz : l[k]? = some z) (hne : x ≠ z) : x ∈ delAt l k 1 := by
  obtain ⟨i, hi, rfl⟩ := List.getElem_of_mem hx
  have hk := (List.getElem?_eq_some_iff.1 hz).1
  have hik : i ≠ k := fun e => by
    subst e
    rw [List.getElem?_eq_getElem hi] at hz
    exact hne (Option.some.inj hz)
  rcases Nat.lt_or_gt_of_ne hik with h | h
  · refine List.mem_of_getElem? (i := i) ?_
    rw [delAt_get _ _ _ (by omega), if_pos h, List.getElem?_eq_getElem hi]
  · refine List.mem_of_getElem? (i := i - 1) ?_
    rw [delAt_get _ _ _ (by omega), if_neg (by omega), show i - 1 + 1 = i by omega, List.getElem?_eq_getElem hi]
theorem mem_set_ne {l : List PB} {k : Nat} {x z z' : PB} (hx : x ∈ l) (hz : l[k]? = some z) (hne : x ≠ z) : x ∈ l.set k z' := by
  obtain ⟨i, hi, rfl⟩ := List.getElem_of_mem hx
  have hik : k ≠ i := fun e => by
    subst e
    rw [List.getElem?_eq_getElem hi] at hz
    exact hne (Option.some.inj hz)
  refine List.mem_of_getElem? (i := i) ?_
  rw [List.getElem?_set_ne hik, List.getElem?_eq_getElem hi]
theorem Holds.live {m m' : HM} {bg at_ b : Int} (H : Holds m bg at_ b) (h : ∀ x ∈ m.live, x.1 = bg → x ∈ m'.live) : Holds m' bg at_ b := by
  obtain ⟨x, hx, h1, h2⟩ := H
  exact ⟨x, h x hx h1, h1, h2⟩
/-- a place of a live block has a byte -/
theorem Has.byte {m : HM} {bg n : Int} (h : Has m bg n) {at_ : Int} (h1 : bg ≤ at_) (h2 : at_ < bg + n) : ∃ v, Holds m bg at_ v := by
  obtain ⟨x, hx, e⟩ := List.mem_map.1 h
  unfold shape at e
  injection e with e1 e2
  have hj : (at_ - bg).toNat < x.2.length := by omega
  exact ⟨x.2[(at_ - bg).toNat], x, hx, e1, h1, by unfold pend; omega, List.getElem?_eq_getElem hj⟩
/-! a byte is stored -/
structure Stored (m m' : HM) (bg at_ b : Int) : Prop where
  inv : Inv m'
  shape : stretches m' = stretches m
  calls : m'.calls = m.calls
  size : m'.size = m.size
  kind : m'.kind = m.kind
  failIn : m'.failIn = m.failIn
  here : Holds m' bg at_ b
  other : ∀ bg2 at2 v, at2 ≠ at_ → Holds m bg2 at2 v → Holds m' bg2 at2 v
theorem store_in {m : HM} (I : Inv m) {bg at_ v b : Int} (H : Holds m bg at_ v) (hb : 0 ≤ b ∧ b ≤ 255) : (storeM m at_ b).2 = 0 ∧ Stored m (storeM m at_ b).1 bg at_ b := by
  have hinv := store_inv I at_ b
  obtain ⟨x, hx, hbg, h1, h2, h3⟩ := H
  have hin : inB at_ x = true := inB_iff.2 ⟨by omega, h2⟩
  cases hf : m.live.findIdx? (inB at_) with
  | none =>
    rw [List.findIdx?_eq_none_iff] at hf
    have := hf x hx
    rw [hin] at this
    cases this
  | some k =>
    obtain ⟨y, hy, hp⟩ := find_some hf
    have e := inB_uniq I.fit hx (List.mem_of_getElem? hy) hin hp
    subst e
    have hk := (List.getElem?_eq_some_iff.1 hy).1
    have hj := (List.getElem?_eq_some_iff.1 h3).1
    rw [storeM_some hb hf hy] at hinv ⊢
    refine ⟨rfl, hinv, ?_, rfl, rfl, rfl, rfl, ?_, ?_⟩
    · show (m.live.set k _).map Go.Proofs.YtdaklffbfadghaaGreat.shape = m.live.map Go.Proofs.YtdaklffbfadghaaGreat.shape
      rw [List.map_set]
      refine List.ext_getElem? fun i => ?_
      rw [List.getElem?_set]
      split
      · rename_i e
        subst e
        rw [List.getElem?_map, hy]
        simp [hk, Go.Proofs.YtdaklffbfadghaaGreat.shape, putB]
      · rfl
    · refine ⟨putB x (at_ - x.1).toNat b, List.mem_set hk _, hbg, h1, ?_, ?_⟩
      · unfold pend putB
        rw [List.length_set]
        exact h2
      · show (x.2.set (at_ - x.1).toNat b)[(at_ - bg).toNat]? = some b
        rw [hbg, List.getElem?_set_self hj]
    · rintro bg2 at2 v2 hne ⟨z, hz, hzb, g1, g2, g3⟩
      by_cases hxz : z = x
      · subst hxz
        refine ⟨putB z (at_ - z.1).toNat b, List.mem_set hk _, hzb, g1, ?_, ?_⟩
        · unfold pend putB
          rw [List.length_set]
          exact g2
        · show (z.2.set (at_ - z.1).toNat b)[(at2 - bg2).toNat]? = some v2
          rw [List.getElem?_set_ne (by omega)]
          exact g3
      · exact ⟨z, mem_set_ne hz hy hxz, hzb, g1, g2, g3⟩
/-! the live blocks but those that are one's own -/
def rest (m : HM) (own : List Int) : List (Int × Int) := (stretches m).filter fun x => !own.contains x.1
theorem mem_rest {m : HM} {own : List Int} {x : Int × Int} : x ∈ rest m own ↔ x ∈ stretches m ∧ x.1 ∉ own := by
  unfold rest
  rw [List.mem_filter]
  simp
/-! a block is handed out -/
theorem alloc_yes {m : HM} (I : Inv m) {n al : Int} (h : (allocM m n al).2.2 = 0) :
    1 ≤ n ∧ ((allocM m n al).2.1, n) ∈ stretches (allocM m n al).1 ∧ (∀ y ∈ stretches m, y.1 ≠ (allocM m n al).2.1) ∧
    (∀ own : List Int, (∀ p ∈ own, p ≠ (allocM m n al).2.1) → rest (allocM m n al).1 ((allocM m n al).2.1 :: own) = rest m own) ∧ (∀ own : List Int, rest (allocM m n al).1 (own ++ [(allocM m n al).2.1]) = rest m own) ∧
    (∀ bg at_ v, Holds m bg at_ v → Holds (allocM m n al).1 bg at_ v) ∧ (allocM m n al).1.calls = m.calls + 1 ∧ 0 ≤ (allocM m n al).2.1 ∧ (allocM m n al).2.1 + n ≤ m.size ∧ (allocM m n al).1.size = m.size ∧
    (∀ y ∈ stretches m, y ∈ stretches (allocM m n al).1) ∧ (allocM m n al).1.live.length = m.live.length + 1 ∧ (allocM m n al).1.kind = m.kind ∧ roomM (countM m) n al = some (allocM m n al).2.1 := by
  unfold allocM at h ⊢
  split at h
  · cases h
  · rename_i hc
    rw [if_neg hc]
    split at h
    · cases h
    · rename_i hf
      rw [if_neg hf]
      have hnal : 1 ≤ n ∧ 1 ≤ al := by
        unfold sizeB alignB at hc
        simp at hc
        omega
      split at h
      · cases h
      · rename_i a hr
        obtain ⟨h1, h2, h3, h4, h5, h6⟩ := room_spec I.count hnal.1 hnal.2 hr
        have hst : stretches (noteM (putM (countM m) (a, undefs n.toNat))) = insAt (stretches m) (below m.live a) [(a, n)] := by
          show (insAt m.live (below m.live a) [(a, undefs n.toNat)]).map shape = _
          rw [insAt_map]
          show insAt (m.live.map shape) _ [(a, ((undefs n.toNat).length : Int))] = _
          rw [undefs_len, show ((n.toNat : Nat) : Int) = n by omega]
          rfl
        have hnew : ∀ y ∈ stretches m, y.1 ≠ a := fun y hy e => by
          obtain ⟨x, hx, rfl⟩ := List.mem_map.1 hy
          have e : x.1 = a := e
          have := h3 x hx
          have := (I.fit.inn x hx).2.1
          unfold pend at *
          omega
        have hrest : ∀ own : List Int, a ∈ own → (∀ p ∈ own, p ≠ a → p ∈ own) → ∀ own2 : List Int, (∀ y ∈ stretches m, own.contains y.1 = own2.contains y.1) → (insAt (stretches m) (below m.live a) [(a, n)]).filter (fun x => !own.contains x.1) = (stretches m).filter (fun x => !own2.contains x.1) := by
          intro own ha _ own2 he
          have hc : own.contains a = true := by simpa using ha
          unfold insAt
          rw [List.filter_append, List.filter_append, List.filter_cons_of_neg (by simp [ha]), List.filter_nil, List.nil_append, ← List.filter_append, List.take_append_drop]
          refine List.filter_congr fun y hy => ?_
          rw [he y hy]
        refine ⟨hnal.1, ?_, hnew, fun own ho => ?_, fun own => ?_, fun bg at_ v H => ?_, rfl, h1, h2, rfl, fun y hy => ?_, ?_, rfl, hr⟩
        · show (a, n) ∈ stretches (noteM (putM (countM m) (a, undefs n.toNat)))
          rw [hst]
          exact insAt_mem.2 (.inl rfl)
        · show (stretches (noteM (putM (countM m) (a, undefs n.toNat)))).filter _ = _
          rw [hst]
          refine hrest (a :: own) (by simp) (fun p hp _ => hp) own fun y hy => ?_
          have := hnew y hy
          simp [this]
        · show (stretches (noteM (putM (countM m) (a, undefs n.toNat)))).filter _ = _
          rw [hst]
          refine hrest (own ++ [a]) (by simp) (fun p hp _ => hp) own fun y hy => ?_
          have := hnew y hy
          simp [this]
        · exact H.live fun x hx _ => insAt_mem.2 (.inr hx)
        · show y ∈ stretches (noteM (putM (countM m) (a, undefs n.toNat)))
          rw [hst]
          exact insAt_mem.2 (.inr hy)
        · exact insAt_len _ _ _ (below_le _ _)
theorem alloc_no {m : HM} {n al : Int} (h : ¬ (allocM m n al).2.2 = 0) : (allocM m n al).1.live = m.live ∧ (allocM m n al).1.size = m.size ∧ (allocM m n al).1.kind = m.kind := by
  unfold allocM at h ⊢
  split
  · exact ⟨rfl, rfl, rfl⟩
  · split
    · exact ⟨rfl, rfl, rfl⟩
    · split
      · exact ⟨rfl, rfl, rfl⟩
      · rename_i h1 h2 _ a h3
        rw [if_neg h1, if_neg h2, h3] at h
        exact absurd rfl h
/-! a block is given back -/
theorem free_yes {m : HM} (I : Inv m) {p n : Int} (h : (p, n) ∈ stretches m) :
    (freeM m p).2 = 0 ∧ Inv (freeM m p).1 ∧ (freeM m p).1.calls = m.calls ∧ (freeM m p).1.size = m.size ∧ (freeM m p).1.kind = m.kind ∧ (freeM m p).1.failIn = m.failIn ∧ (freeM m p).1.live.length + 1 = m.live.length ∧
    (∀ y ∈ stretches (freeM m p).1, y ∈ stretches m ∧ y.1 ≠ p) ∧ (∀ y ∈ stretches m, y.1 ≠ p → y ∈ stretches (freeM m p).1) ∧
    (∀ own : List Int, p ∉ own → rest (freeM m p).1 own = rest m (own ++ [p])) ∧ (∀ bg at_ v, bg ≠ p → Holds m bg at_ v → Holds (freeM m p).1 bg at_ v) := by
  obtain ⟨x0, hx0, e0⟩ := List.mem_map.1 h
  unfold shape at e0
  injection e0 with e1 e2
  have hh : has m.live p = true := by
    unfold has
    rw [List.any_eq_true]
    exact ⟨x0, hx0, by simpa using e1⟩
  obtain ⟨z, hz, hza, e⟩ := at_eq I.fit hh
  have hinv := free_inv I p
  have hst : freeM m p = (takeM m (below m.live p) z, 0) := by
    unfold freeM
    rw [if_neg (by simp [hh]), e]
  rw [hst] at hinv ⊢
  have hk := (List.getElem?_eq_some_iff.1 hz).1
  have hlive : (takeM m (below m.live p) z).live = delAt m.live (below m.live p) 1 := rfl
  have huniq : ∀ (i : Nat) (y : PB), m.live[i]? = some y → y.1 = p → i = below m.live p := fun i y hy hp => by
    rcases Nat.lt_trichotomy i (below m.live p) with h | h | h
    · have := (I.fit.lt hy hz h).1
      omega
    · exact h
    · have := (I.fit.lt hz hy h).1
      omega
  have hsub : ∀ y ∈ delAt m.live (below m.live p) 1, y ∈ m.live ∧ y.1 ≠ p := fun y hy => by
    refine ⟨delAt_mem hy, fun hp => ?_⟩
    obtain ⟨j, hj, rfl⟩ := List.getElem_of_mem hy
    have hj' : (delAt m.live (below m.live p) 1)[j]? = some (delAt m.live (below m.live p) 1)[j] := List.getElem?_eq_getElem hj
    rw [delAt_get _ _ _ (by omega)] at hj'
    split at hj'
    · have := huniq _ _ hj' hp
      omega
    · have := huniq _ _ hj' hp
      omega
  refine ⟨rfl, hinv, rfl, rfl, rfl, rfl, ?_, fun y hy => ?_, fun y hy hne => ?_, fun own ho => ?_, fun bg at_ v hne H => ?_⟩
  · rw [hlive, delAt_len _ _ _ (by omega)]
    omega
  · obtain ⟨x, hx, rfl⟩ := List.mem_map.1 hy
    obtain ⟨g1, g2⟩ := hsub x hx
    exact ⟨List.mem_map_of_mem g1, g2⟩
  · obtain ⟨x, hx, rfl⟩ := List.mem_map.1 hy
    refine List.mem_map_of_mem (mem_del hx hz fun e3 => hne ?_)
    rw [e3]
    exact hza
  · show ((delAt m.live (below m.live p) 1).map shape).filter _ = (m.live.map shape).filter _
    have e4 : m.live = m.live.take (below m.live p) ++ z :: m.live.drop (below m.live p + 1) := by
      have := List.getElem_cons_drop hk
      have e5 : m.live[below m.live p] = z := (List.getElem?_eq_some_iff.1 hz).2
      rw [e5] at this
      rw [this, List.take_append_drop]
    have hpz : Go.Proofs.YtdaklffbfadghaaGreat.shape z = (p, (z.2.length : Int)) := by unfold shape; rw [hza]
    conv => rhs; rw [e4]
    rw [List.map_append, List.map_cons, hpz, List.filter_append, List.filter_cons_of_neg (by simp)]
    unfold delAt
    rw [List.map_append, ← List.filter_append, ← List.map_append]
    rw [List.filter_map, List.filter_map]
    congr 1
    refine List.filter_congr fun y hy => ?_
    have := (hsub y hy).2
    show (!own.contains y.1) = !(own ++ [p]).contains y.1
    simp [this]
  · exact H.live fun x hx hxb => mem_del hx hz fun e3 => hne (by rw [← hxb, e3]; exact hza)
end Go.Proofs.YtdaklffbfadghaaGreat

namespace Go.Proofs.YtdaklffbfadghaaGreat
open Go.RowKit HP
set_option linter.unusedVariables false
set_option linter.unusedSimpArgs false
/-- a number as a word without a sign, and its bytes -/
def wordN (v : Int) : Nat := (v % 18446744073709551616).toNat
def byteN (v : Int) (b : Nat) : Nat := wordN v / 2 ^ (8 * b) % 256
theorem wordN_lt (v : Int) : wordN v < 18446744073709551616 := by unfold wordN; omega
theorem byteN_lt (v : Int) (b : Nat) : byteN v b < 256 := Nat.mod_lt _ (by decide)
theorem word_zero (v : Int) : wordN v % 2 ^ (8 * 0) = 0 := by simp [Nat.mod_one]
theorem word_all (v : Int) : wordN v % 2 ^ (8 * 8) = wordN v := Nat.mod_eq_of_lt (wordN_lt v)
theorem word_step (v : Int) (b : Nat) : wordN v % 2 ^ (8 * b) ||| byteN v b <<< (8 * b) = wordN v % 2 ^ (8 * (b + 1)) := by
  have h1 : wordN v % 2 ^ (8 * b) < 2 ^ (8 * b) := Nat.mod_lt _ (Nat.two_pow_pos _)
  rw [Nat.or_comm, ← Nat.shiftLeft_add_eq_or_of_lt h1, Nat.shiftLeft_eq]
  unfold byteN
  rw [show 8 * (b + 1) = 8 * b + 8 by omega, Nat.pow_add, Nat.mod_mul]
  rw [show (2 : Nat) ^ 8 = 256 by decide, Nat.mul_comm]
  omega
theorem word_back {v : Int} (h1 : -9223372036854775808 ≤ v) (h2 : v ≤ 9223372036854775807) : wrap64 (wordN v : Int) = v := by
  unfold wrap64 wordN
  omega
/-- a byte of a row -/
def byteR (r : List Int) (c : Nat) : Nat := byteN (r.getD (c / 8) 0) (c % 8)
theorem byteR_kb {r : List Int} {k b : Nat} {v : Int} (hv : r[k]? = some v) (hb : b < 8) : byteR r (8 * k + b) = byteN v b := by
  unfold byteR
  rw [show (8 * k + b) / 8 = k by omega, show (8 * k + b) % 8 = b by omega, List.getD_eq_getElem?_getD, hv]
  rfl
def RowAt (m : HM) (p off : Int) (r : List Int) : Prop := ∀ c, c < 8 * r.length → Holds m p (p + off + (c : Int)) (byteR r c)
/-- row i of the pieces ps, each of four rows of T words -/
def RowIs (m : HM) (T : Nat) (ps : List Int) (i : Nat) (r : List Int) : Prop := ∃ p, ps[i / 4]? = some p ∧ r.length = T ∧ RowAt m p (((i % 4 * (8 * T) : Nat)) : Int) r
theorem Holds.uniq {m : HM} (I : Inv m) {b1 b2 at_ v1 v2 : Int} (h1 : Holds m b1 at_ v1) (h2 : Holds m b2 at_ v2) : b1 = b2 := by
  obtain ⟨x, hx, hxb, g1, g2, -⟩ := h1
  obtain ⟨y, hy, hyb, k1, k2, -⟩ := h2
  have := inB_uniq I.fit hx hy (inB_iff.2 ⟨by omega, g2⟩) (inB_iff.2 ⟨by omega, k2⟩)
  subst this
  omega
/-- what some stores into one row have done so far: c of its bytes are written -/
structure Writing (m m' : HM) (p off : Int) (r : List Int) (c : Nat) : Prop where
  inv : Inv m'
  shape : stretches m' = stretches m
  calls : m'.calls = m.calls
  size : m'.size = m.size
  kind : m'.kind = m.kind
  failIn : m'.failIn = m.failIn
  done : ∀ j, j < c → Holds m' p (p + off + (j : Int)) (byteR r j)
  other : ∀ bg at_ v, bg ≠ p ∨ at_ < p + off ∨ p + off + ((8 * r.length : Nat) : Int) ≤ at_ → Holds m bg at_ v → Holds m' bg at_ v
theorem Writing.start {m : HM} (I : Inv m) (p off : Int) (r : List Int) : Writing m m p off r 0 := ⟨I, rfl, rfl, rfl, rfl, rfl, fun j hj => by omega, fun _ _ _ _ h => h⟩
theorem Writing.step {m m' : HM} {p off : Int} {r : List Int} {c : Nat} (W : Writing m m' p off r c) {n : Int} (hh : Has m p n) (ho : 0 ≤ off) (hn : off + ((8 * r.length : Nat) : Int) ≤ n) (hc : c < 8 * r.length) :
    (storeM m' (p + off + (c : Int)) (byteR r c)).2 = 0 ∧ Writing m (storeM m' (p + off + (c : Int)) (byteR r c)).1 p off r (c + 1) := by
  have hh' : Has m' p n := by unfold Has; rw [W.shape]; exact hh
  obtain ⟨v, hv⟩ := hh'.byte (at_ := p + off + (c : Int)) (by omega) (by omega)
  have hb := byteN_lt (r.getD (c / 8) 0) (c % 8)
  obtain ⟨h1, S⟩ := store_in W.inv hv (b := (byteR r c : Int)) (by unfold byteR; omega)
  refine ⟨h1, S.inv, S.shape.trans W.shape, S.calls.trans W.calls, S.size.trans W.size, S.kind.trans W.kind, S.failIn.trans W.failIn, fun j hj => ?_, fun bg at_ v2 hne H => ?_⟩
  · rcases Nat.lt_or_eq_of_le (Nat.lt_succ_iff.1 hj) with h | h
    · exact S.other _ _ _ (by omega) (W.done j h)
    · subst h; exact S.here
  · have H2 := W.other bg at_ v2 hne H
    refine S.other _ _ _ (fun e => ?_) H2
    subst e
    have := H2.uniq W.inv hv
    omega
/-- what holds of the pieces: how many, apart, live -/
structure Pcs (m : HM) (T : Nat) (ps : List Int) (n : Nat) : Prop where
  len : ps.length = (n + 3) / 4
  nodup : ps.Nodup
  has : ∀ p ∈ ps, Has m p ((32 * T : Nat) : Int)
theorem Pcs.shape {m m' : HM} {T : Nat} {ps : List Int} {n : Nat} (P : Pcs m T ps n) (h : stretches m' = stretches m) : Pcs m' T ps n := ⟨P.len, P.nodup, fun p hp => by unfold Has; rw [h]; exact P.has p hp⟩
theorem Pcs.at {m : HM} {T : Nat} {ps : List Int} {n i : Nat} (P : Pcs m T ps n) (hi : i < n) : ∃ p, ps[i / 4]? = some p ∧ p ∈ ps ∧ Has m p ((32 * T : Nat) : Int) := by
  have hl := P.len
  have h : i / 4 < ps.length := by omega
  exact ⟨ps[i / 4], List.getElem?_eq_getElem h, List.getElem_mem h, P.has _ (List.getElem_mem h)⟩
theorem nodup_idx {ps : List Int} (h : ps.Nodup) {i j : Nat} (hi : i < ps.length) (hj : j < ps.length) (e : ps[i] = ps[j]) : i = j := by
  have hp := List.pairwise_iff_getElem.1 h
  rcases Nat.lt_trichotomy i j with h | h | h
  · exact absurd e (hp i j hi hj h)
  · exact h
  · exact absurd e.symm (hp j i hj hi h)
/-- a row is written whole: the others stay -/
theorem Writing.row {m m' : HM} {T : Nat} {ps : List Int} {i : Nat} {p : Int} {r : List Int} (hp : ps[i / 4]? = some p) (hr : r.length = T) (W : Writing m m' p (((i % 4 * (8 * T) : Nat)) : Int) r (8 * r.length)) (hnd : ps.Nodup) :
    RowIs m' T ps i r ∧ (∀ j r2, j ≠ i → RowIs m T ps j r2 → RowIs m' T ps j r2) ∧ (∀ bg at_ v, bg ∉ ps → Holds m bg at_ v → Holds m' bg at_ v) := by
  refine ⟨⟨p, hp, hr, W.done⟩, fun j r2 hne h => ?_, fun bg at_ v hn H => W.other _ _ _ (.inl fun e => hn (by rw [e]; exact List.mem_of_getElem? hp)) H⟩
  obtain ⟨q, hq, hl, hR⟩ := h
  refine ⟨q, hq, hl, fun c hc => W.other _ _ _ ?_ (hR c hc)⟩
  by_cases e : q = p
  · refine .inr ?_
    subst e
    have hij : j / 4 = i / 4 := by
      obtain ⟨a1, a2⟩ := List.getElem?_eq_some_iff.1 hq
      obtain ⟨b1, b2⟩ := List.getElem?_eq_some_iff.1 hp
      exact nodup_idx hnd a1 b1 (a2.trans b2.symm)
    have hm : j % 4 ≠ i % 4 := by omega
    rw [hr]
    rw [hl] at hc
    rcases Nat.lt_or_gt_of_ne hm with h | h
    · have := Nat.mul_le_mul_right (8 * T) (show j % 4 + 1 ≤ i % 4 by omega)
      rw [Nat.add_mul] at this
      omega
    · have := Nat.mul_le_mul_right (8 * T) (show i % 4 + 1 ≤ j % 4 by omega)
      rw [Nat.add_mul] at this
      omega
  · exact .inl e
/-- a byte of a row is read -/
theorem RowIs.load {m : HM} (I : Inv m) {T : Nat} {ps : List Int} {i : Nat} {r : List Int} {p : Int} (h : RowIs m T ps i r) (hp : ps[i / 4]? = some p) {k b : Nat} {v : Int} (hv : r[k]? = some v) (hb : b < 8) :
    loadM m (p + ((i % 4 * (8 * T) : Nat) : Int) + ((8 * k + b : Nat) : Int)) = ((byteN v b : Int), 0) := by
  obtain ⟨q, hq, hl, hR⟩ := h
  rw [hp] at hq
  obtain rfl := Option.some.inj hq
  have hk := (List.getElem?_eq_some_iff.1 hv).1
  have := hold_load I (hR (8 * k + b) (by omega)) (by omega)
  rw [byteR_kb hv hb] at this
  exact this
end Go.Proofs.YtdaklffbfadghaaGreat

namespace Go.Proofs.YtdaklffbfadghaaGreat
open Go.RowKit HP
set_option linter.unusedVariables false
set_option linter.unusedSimpArgs false
/-- what an act on rows whose pieces were ps, and are qs then, leaves of the heap -/
structure Fr (m m' : HM) (ps qs : List Int) : Prop where
  size : m'.size = m.size
  kind : m'.kind = m.kind
  rest : rest m' qs = rest m ps
  hold : ∀ bg at_ v, bg ∉ ps → Holds m bg at_ v → Holds m' bg at_ v
  new : ∀ p ∈ qs, p ∈ ps ∨ ∀ y ∈ stretches m, y.1 ≠ p
theorem Holds.has {m : HM} {bg at_ v : Int} (h : Holds m bg at_ v) : ∃ n, Has m bg n := by
  obtain ⟨x, hx, e, -⟩ := h
  refine ⟨x.2.length, List.mem_map.2 ⟨x, hx, ?_⟩⟩
  unfold shape
  rw [e]
theorem Fr.refl (m : HM) (ps : List Int) : Fr m m ps ps := ⟨rfl, rfl, rfl, fun _ _ _ _ h => h, fun p hp => .inl hp⟩
theorem Fr.stay {m m' : HM} {ps qs : List Int} (F : Fr m m' ps qs) {y : Int × Int} (hy : y ∈ stretches m) (hn : y.1 ∉ ps) : y ∈ stretches m' ∧ y.1 ∉ qs := by
  have : y ∈ _root_.Go.Proofs.YtdaklffbfadghaaGreat.rest m ps := mem_rest.2 ⟨hy, hn⟩
  rw [← F.rest] at this
  exact mem_rest.1 this
theorem Fr.back {m m' : HM} {ps qs : List Int} (F : Fr m m' ps qs) {y : Int × Int} (hy : y ∈ stretches m') (hn : y.1 ∉ qs) : y ∈ stretches m ∧ y.1 ∉ ps := by
  have : y ∈ _root_.Go.Proofs.YtdaklffbfadghaaGreat.rest m' qs := mem_rest.2 ⟨hy, hn⟩
  rw [F.rest] at this
  exact mem_rest.1 this
theorem Fr.trans {m m1 m2 : HM} {ps qs rs : List Int} (F : Fr m m1 ps qs) (G : Fr m1 m2 qs rs) : Fr m m2 ps rs := by
  refine ⟨G.size.trans F.size, G.kind.trans F.kind, G.rest.trans F.rest, fun bg at_ v hn H => ?_, fun p hp => ?_⟩
  · obtain ⟨n, hh⟩ := H.has
    exact G.hold _ _ _ (F.stay hh hn).2 (F.hold _ _ _ hn H)
  · rcases G.new p hp with h | h
    · exact F.new p h
    · by_cases hps : p ∈ ps
      · exact .inl hps
      · refine .inr fun y hy e => ?_
        exact h y (F.stay hy (by rw [e]; exact hps)).1 e
theorem Writing.fr {m m' : HM} {p off : Int} {r : List Int} {c : Nat} (W : Writing m m' p off r c) {ps : List Int} (hp : p ∈ ps) : Fr m m' ps ps :=
  ⟨W.size, W.kind, by unfold Go.Proofs.YtdaklffbfadghaaGreat.rest; rw [W.shape], fun bg at_ v hn H => W.other _ _ _ (.inl fun e => hn (by rw [e]; exact hp)) H, fun p hp => .inl hp⟩
/-! room for one more -/
theorem grow_same {m : HM} {T : Nat} {ps : List Int} {n : Nat} (P : Pcs m T ps n) (h : n % 4 ≠ 0) : Pcs m T ps (n + 1) := ⟨by have := P.len; omega, P.nodup, P.has⟩
theorem RowIs.more {m m' : HM} {T : Nat} {ps : List Int} {a : Int} {j : Nat} {r : List Int} (h : RowIs m T ps j r) (hh : ∀ bg at_ v, Holds m bg at_ v → Holds m' bg at_ v) : RowIs m' T (ps ++ [a]) j r := by
  obtain ⟨p, hp, hl, hR⟩ := h
  have hlt := (List.getElem?_eq_some_iff.1 hp).1
  exact ⟨p, by rw [List.getElem?_append_left hlt]; exact hp, hl, fun c hc => hh _ _ _ (hR c hc)⟩
theorem grow_new {m : HM} {T : Nat} {ps : List Int} {n : Nat} (I : Inv m) (P : Pcs m T ps n) (h : n % 4 = 0) (hal : (allocM m ((32 * T : Nat) : Int) 8).2.2 = 0) :
    Pcs (allocM m ((32 * T : Nat) : Int) 8).1 T (ps ++ [(allocM m ((32 * T : Nat) : Int) 8).2.1]) (n + 1) ∧ Fr m (allocM m ((32 * T : Nat) : Int) 8).1 ps (ps ++ [(allocM m ((32 * T : Nat) : Int) 8).2.1]) ∧
    ∀ j r, RowIs m T ps j r → RowIs (allocM m ((32 * T : Nat) : Int) 8).1 T (ps ++ [(allocM m ((32 * T : Nat) : Int) 8).2.1]) j r := by
  obtain ⟨h1, h2, h3, -, h4, h5, h6, h7, h8, h9, h10, h11, h12, h13⟩ := alloc_yes I hal
  obtain ⟨a, ha⟩ : ∃ a, a = (allocM m ((32 * T : Nat) : Int) 8).2.1 := ⟨_, rfl⟩
  rw [← ha] at h2 h3 h4 ⊢
  have hna : a ∉ ps := fun e => h3 _ (P.has a e) rfl
  refine ⟨⟨?_, ?_, fun p hp => ?_⟩, ⟨h9, h12, h4 ps, fun bg at_ v _ H => h5 _ _ _ H, fun p hp => ?_⟩, fun j r hr => hr.more h5⟩
  · have := P.len
    rw [List.length_append, List.length_singleton]
    omega
  · refine List.nodup_append.2 ⟨P.nodup, by simp, fun x hx y hy e => ?_⟩
    rw [List.mem_singleton] at hy
    exact hna (by rw [← hy, ← e]; exact hx)
  · rcases List.mem_append.1 hp with hp | hp
    · exact h10 _ (P.has p hp)
    · rw [List.mem_singleton] at hp
      rw [hp]
      exact h2
  · rcases List.mem_append.1 hp with hp | hp
    · exact .inl hp
    · rw [List.mem_singleton] at hp
      rw [hp]
      exact .inr h3
/-! one less -/
theorem drop_same {m : HM} {T : Nat} {ps : List Int} {n : Nat} (P : Pcs m T ps (n + 1)) (h : n % 4 ≠ 0) : Pcs m T ps n := ⟨by have := P.len; omega, P.nodup, P.has⟩
theorem drop_free {m : HM} {T : Nat} {ps : List Int} {n : Nat} (I : Inv m) (P : Pcs m T ps (n + 1)) (h : n % 4 = 0) :
    ∃ qs p, ps = qs ++ [p] ∧ (freeM m p).2 = 0 ∧ Inv (freeM m p).1 ∧ (freeM m p).1.calls = m.calls ∧ (freeM m p).1.failIn = m.failIn ∧ Pcs (freeM m p).1 T qs n ∧ Fr m (freeM m p).1 ps qs ∧
      ∀ j r, j < n → RowIs m T ps j r → RowIs (freeM m p).1 T qs j r := by
  have hl := P.len
  have hne : ps ≠ [] := fun e => by rw [e] at hl; simp at hl; omega
  obtain ⟨qs, p, rfl⟩ : ∃ qs p, ps = qs ++ [p] := ⟨ps.dropLast, ps.getLast hne, (List.dropLast_concat_getLast hne).symm⟩
  rw [List.length_append, List.length_singleton] at hl
  have hnd := List.nodup_append.1 P.nodup
  have hpq : p ∉ qs := fun e => hnd.2.2 p e p (by simp) rfl
  obtain ⟨f1, f2, f3, f4, f5, f6, f7, f8, f9, f10, f11⟩ := free_yes I (P.has p (by simp))
  refine ⟨qs, p, rfl, f1, f2, f3, f6, ⟨by omega, hnd.1, fun q hq => f9 _ (P.has q (by simp [hq])) fun e => hpq (by rw [← e]; exact hq)⟩, ⟨f4, f5, f10 qs hpq, fun bg at_ v hn H => f11 _ _ _ (fun e => hn (by simp [e])) H, fun q hq => .inl (by simp [hq])⟩, fun j r hj hr => ?_⟩
  obtain ⟨q, hq, hlr, hR⟩ := hr
  have hlt : j / 4 < qs.length := by omega
  rw [List.getElem?_append_left hlt] at hq
  exact ⟨q, hq, hlr, fun c hc => f11 _ _ _ (fun e => hpq (by rw [← e]; exact List.mem_of_getElem? hq)) (hR c hc)⟩
/-! what is kept -/
structure Kp (m : HM) (T : Nat) (ps : List Int) (L : List (List Int)) : Prop where
  pcs : Pcs m T ps L.length
  len : L.length ≤ 64
  row : ∀ j r, L[j]? = some r → RowIs m T ps j r
theorem Kp.nil (m : HM) (T : Nat) : Kp m T [] [] := ⟨⟨rfl, List.Pairwise.nil, fun p hp => by cases hp⟩, by simp, fun j r h => by simp at h⟩
theorem Kp.wide {m : HM} {T : Nat} {ps : List Int} {L : List (List Int)} (K : Kp m T ps L) {r : List Int} (h : r ∈ L) : r.length = T := by
  obtain ⟨j, hj, rfl⟩ := List.getElem_of_mem h
  obtain ⟨p, -, e, -⟩ := K.row j _ (List.getElem?_eq_getElem hj)
  exact e
/-- another act leaves them -/
theorem Kp.frame {m m' : HM} {T : Nat} {ps qs bs : List Int} {L : List (List Int)} (K : Kp m T ps L) (F : Fr m m' qs bs) (h : ∀ p ∈ ps, p ∉ qs) : Kp m' T ps L ∧ ∀ p ∈ ps, p ∉ bs := by
  refine ⟨⟨⟨K.pcs.len, K.pcs.nodup, fun p hp => (F.stay (K.pcs.has p hp) (h p hp)).1⟩, K.len, fun j r hr => ?_⟩, fun p hp => (F.stay (K.pcs.has p hp) (h p hp)).2⟩
  obtain ⟨p, hp, hl, hR⟩ := K.row j r hr
  exact ⟨p, hp, hl, fun c hc => F.hold _ _ _ (h p (List.mem_of_getElem? hp)) (hR c hc)⟩
/-- a row is written -/
theorem Kp.set {m m' : HM} {T : Nat} {ps : List Int} {L : List (List Int)} (K : Kp m T ps L) {i : Nat} (hi : i < L.length) {p : Int} {r : List Int} (hp : ps[i / 4]? = some p) (hr : r.length = T) (W : Writing m m' p (((i % 4 * (8 * T) : Nat)) : Int) r (8 * r.length)) :
    Kp m' T ps (L.set i r) ∧ Fr m m' ps ps := by
  obtain ⟨h1, h2, h3⟩ := W.row hp hr K.pcs.nodup
  refine ⟨⟨?_, by rw [List.length_set]; exact K.len, fun j q hq => ?_⟩, W.fr (List.mem_of_getElem? hp)⟩
  · rw [List.length_set]
    exact K.pcs.shape W.shape
  · rw [List.getElem?_set] at hq
    split at hq
    · rename_i e
      subst e
      try rw [if_pos hi] at hq
      obtain rfl := Option.some.inj hq
      exact h1
    · rename_i e
      exact h2 j q (fun e2 => e e2.symm) (K.row j q hq)
end Go.Proofs.YtdaklffbfadghaaGreat

namespace Go.Proofs.YtdaklffbfadghaaGreat
open Go.RowKit HP
set_option linter.unusedVariables false
set_option linter.unusedSimpArgs false
/-! the rows behind a place move up, from the end on: rows above k have moved -/
structure ShUp (m : HM) (T : Nat) (ps : List Int) (L : List (List Int)) (k : Nat) : Prop where
  inv : Inv m
  pcs : Pcs m T ps (L.length + 1)
  low : ∀ j r, j ≤ k → L[j]? = some r → RowIs m T ps j r
  high : ∀ j r, k < j → L[j - 1]? = some r → RowIs m T ps j r
theorem ShUp.step {m m' : HM} {T : Nat} {ps : List Int} {L : List (List Int)} {k : Nat} (S : ShUp m T ps L (k + 1)) {p : Int} {r : List Int} (hk : L[k]? = some r) (hp : ps[(k + 1) / 4]? = some p) (hr : r.length = T)
    (W : Writing m m' p ((((k + 1) % 4 * (8 * T) : Nat)) : Int) r (8 * r.length)) : ShUp m' T ps L k ∧ Fr m m' ps ps := by
  obtain ⟨h1, h2, h3⟩ := W.row hp hr S.pcs.nodup
  refine ⟨⟨W.inv, S.pcs.shape W.shape, fun j q hj hq => h2 j q (by omega) (S.low j q (by omega) hq), fun j q hj hq => ?_⟩, W.fr (List.mem_of_getElem? hp)⟩
  by_cases e : j = k + 1
  · subst e
    rw [Nat.add_sub_cancel, hk] at hq
    obtain rfl := Option.some.inj hq
    exact h1
  · exact h2 j q e (S.high j q (by omega) hq)
theorem ShUp.done {m m' : HM} {T : Nat} {ps : List Int} {L : List (List Int)} {i : Nat} (S : ShUp m T ps L i) (hi : i ≤ L.length) (hl : L.length < 64) {p : Int} {t : List Int} (hp : ps[i / 4]? = some p) (ht : t.length = T)
    (W : Writing m m' p (((i % 4 * (8 * T) : Nat)) : Int) t (8 * t.length)) : Kp m' T ps (insAt L i [t]) ∧ Fr m m' ps ps := by
  obtain ⟨h1, h2, h3⟩ := W.row hp ht S.pcs.nodup
  have hlen : (insAt L i [t]).length = L.length + 1 := insAt_len _ _ _ hi
  refine ⟨⟨by rw [hlen]; exact S.pcs.shape W.shape, by omega, fun j q hq => ?_⟩, W.fr (List.mem_of_getElem? hp)⟩
  rw [insAt_get _ _ _ hi] at hq
  split at hq
  · exact h2 j q (by omega) (S.low j q (by omega) hq)
  · split at hq
    · rename_i c1 c2
      rw [List.length_singleton] at c2
      have e : j = i := by omega
      subst e
      rw [Nat.sub_self] at hq
      obtain rfl := Option.some.inj hq
      exact h1
    · rename_i c1 c2
      rw [List.length_singleton] at c2 hq
      exact h2 j q (by omega) (S.high j q (by omega) hq)
/-! the rows behind a place move down: rows below k have moved -/
structure ShDn (m : HM) (T : Nat) (ps : List Int) (L : List (List Int)) (i k : Nat) : Prop where
  inv : Inv m
  pcs : Pcs m T ps L.length
  low : ∀ j r, j < k → (delAt L i 1)[j]? = some r → RowIs m T ps j r
  high : ∀ j r, k ≤ j → L[j]? = some r → RowIs m T ps j r
theorem ShDn.start {m : HM} {T : Nat} {ps : List Int} {L : List (List Int)} (I : Inv m) (K : Kp m T ps L) {i : Nat} (hi : i < L.length) : ShDn m T ps L i i :=
  ⟨I, K.pcs, fun j r hj hr => K.row j r (by rw [delAt_get _ _ _ (by omega), if_pos hj] at hr; exact hr), fun j r _ hr => K.row j r hr⟩
theorem ShDn.step {m m' : HM} {T : Nat} {ps : List Int} {L : List (List Int)} {i k : Nat} (S : ShDn m T ps L i k) (hik : i ≤ k) {p : Int} {r : List Int} (hk : L[k + 1]? = some r) (hp : ps[k / 4]? = some p) (hr : r.length = T)
    (W : Writing m m' p (((k % 4 * (8 * T) : Nat)) : Int) r (8 * r.length)) : ShDn m' T ps L i (k + 1) ∧ Fr m m' ps ps := by
  obtain ⟨h1, h2, h3⟩ := W.row hp hr S.pcs.nodup
  have hkl := (List.getElem?_eq_some_iff.1 hk).1
  refine ⟨⟨W.inv, S.pcs.shape W.shape, fun j q hj hq => ?_, fun j q hj hq => h2 j q (by omega) (S.high j q (by omega) hq)⟩, W.fr (List.mem_of_getElem? hp)⟩
  by_cases e : j = k
  · subst e
    rw [delAt_get _ _ _ (by omega), if_neg (by omega), hk] at hq
    obtain rfl := Option.some.inj hq
    exact h1
  · exact h2 j q e (S.low j q (by omega) hq)
/-- all of them but the last one are as they are to be -/
theorem ShDn.all {m : HM} {T : Nat} {ps : List Int} {L : List (List Int)} {i n : Nat} (S : ShDn m T ps L i n) (hl : L.length = n + 1) (hi : i < L.length) : ∀ j r, (delAt L i 1)[j]? = some r → RowIs m T ps j r := fun j r hj => by
  have h := (List.getElem?_eq_some_iff.1 hj).1
  rw [delAt_len _ _ _ (by omega)] at h
  exact S.low j r (by omega) hj
theorem kp_drop_same {m : HM} {T : Nat} {ps : List Int} {L : List (List Int)} {n : Nat} (P : Pcs m T ps (n + 1)) (h : n % 4 ≠ 0) (hl : L.length = n) (hn : n ≤ 64) (hr : ∀ j r, L[j]? = some r → RowIs m T ps j r) : Kp m T ps L :=
  ⟨by rw [hl]; exact drop_same P h, by omega, hr⟩
theorem kp_drop_free {m : HM} {T : Nat} {ps : List Int} {L : List (List Int)} {n : Nat} (I : Inv m) (P : Pcs m T ps (n + 1)) (h : n % 4 = 0) (hl : L.length = n) (hn : n ≤ 64) (hr : ∀ j r, L[j]? = some r → RowIs m T ps j r) :
    ∃ qs p, ps = qs ++ [p] ∧ (freeM m p).2 = 0 ∧ Inv (freeM m p).1 ∧ (freeM m p).1.calls = m.calls ∧ (freeM m p).1.failIn = m.failIn ∧ Kp (freeM m p).1 T qs L ∧ Fr m (freeM m p).1 ps qs := by
  obtain ⟨qs, p, e, f1, f2, f3, f4, f5, f6, f7⟩ := drop_free I P h
  exact ⟨qs, p, e, f1, f2, f3, f4, ⟨by rw [hl]; exact f5, by omega, fun j r hj => f7 j r (by have := (List.getElem?_eq_some_iff.1 hj).1; omega) (hr j r hj)⟩, f6⟩
/-! how much is handed out -/
def sum2 : List (Int × Int) → Int
  | [] => 0
  | x :: r => x.2 + sum2 r
theorem sum2_used : ∀ l : List PB, sum2 (l.map shape) = used l
  | [] => rfl
  | x :: r => by
    show (x.2.length : Int) + sum2 (r.map shape) = used (x :: r)
    rw [sum2_used r]
    rfl
theorem sum2_part (p : Int × Int → Bool) : ∀ l : List (Int × Int), sum2 l = sum2 (l.filter p) + sum2 (l.filter fun x => !p x)
  | [] => rfl
  | x :: r => by
    have h := sum2_part p r
    cases hp : p x
    · rw [List.filter_cons_of_neg (by simp [hp]), List.filter_cons_of_pos (by simp [hp])]
      simp only [sum2]
      omega
    · rw [List.filter_cons_of_pos (by simp [hp]), List.filter_cons_of_neg (by simp [hp])]
      simp only [sum2]
      omega
theorem sum2_all (n : Int) : ∀ l : List (Int × Int), (∀ x ∈ l, x.2 = n) → sum2 l = l.length * n
  | [], _ => by simp [sum2]
  | x :: r, h => by
    have h1 := h x (by simp)
    have h2 := sum2_all n r fun y hy => h y (by simp [hy])
    simp only [sum2, List.length_cons]
    rw [h1, h2]
    push_cast
    rw [Int.add_mul]
    omega
theorem begins_nodup {size : Int} {l : List PB} (F : Fit size l) : ((l.map shape).map (·.1)).Nodup := by
  rw [List.map_map]
  refine List.pairwise_iff_getElem.2 fun i j hi hj hij => ?_
  rw [List.length_map] at hi hj
  rw [List.getElem_map, List.getElem_map]
  have := (F.lt (List.getElem?_eq_getElem hi) (List.getElem?_eq_getElem hj) hij).1
  show l[i].1 ≠ l[j].1
  omega
theorem used_own {m : HM} (I : Inv m) {T : Nat} {ps : List Int} {n : Nat} (P : Pcs m T ps n) : used m.live = ((32 * T * ps.length : Nat) : Int) + sum2 (rest m ps) := by
  have h1 := sum2_part (fun x => ps.contains x.1) (stretches m)
  have h2 : sum2 ((stretches m).filter fun x => ps.contains x.1) = ((32 * T * ps.length : Nat) : Int) := by
    have hall : ∀ x ∈ (stretches m).filter (fun x => ps.contains x.1), x.1 ∈ ps ∧ x ∈ stretches m := fun x hx => by
      rw [List.mem_filter] at hx
      exact ⟨by simpa using hx.2, hx.1⟩
    have huniq : ∀ x ∈ stretches m, ∀ y ∈ stretches m, x.1 = y.1 → x = y := fun x hx y hy e => by
      obtain ⟨a, ha, rfl⟩ := List.mem_map.1 hx
      obtain ⟨b, hb, rfl⟩ := List.mem_map.1 hy
      rw [at_uniq I.fit ha hb e]
    have h3 := sum2_all ((32 * T : Nat) : Int) ((stretches m).filter fun x => ps.contains x.1) fun x hx => by
      obtain ⟨g1, g2⟩ := hall x hx
      have := huniq x g2 _ (P.has _ g1) rfl
      rw [this]
    have hperm : (((stretches m).filter fun x => ps.contains x.1).map (·.1)).Perm ps := by
      refine (List.perm_ext_iff_of_nodup ?_ P.nodup).2 fun q => ?_
      · have hb := begins_nodup I.fit
        exact hb.sublist (List.Sublist.map _ List.filter_sublist)
      · constructor
        · intro hq
          obtain ⟨x, hx, rfl⟩ := List.mem_map.1 hq
          exact (hall x hx).1
        · intro hq
          exact List.mem_map.2 ⟨_, List.mem_filter.2 ⟨P.has q hq, by simpa using hq⟩, rfl⟩
    have hlen := hperm.length_eq
    rw [List.length_map] at hlen
    rw [h3, hlen]
    push_cast
    rw [Int.mul_comm]
  rw [← sum2_used]
  show sum2 (stretches m) = _
  rw [h1, h2]
  rfl
theorem pcs_bound {m : HM} {T : Nat} {ps : List Int} {n most : Nat} (P : Pcs m T ps n) (hn : n ≤ most) (hT : T ≤ 3) : 32 * T * ps.length ≤ 64 * most + 64 := by
  have hl := P.len
  have h1 : ps.length * 4 ≤ n + 3 := by omega
  have h0 : n = 0 → ps.length = 0 := by omega
  have h2 : 32 * T * ps.length ≤ 96 * ps.length := Nat.mul_le_mul_right _ (by omega)
  omega
end Go.Proofs.YtdaklffbfadghaaGreat

namespace Go.Proofs.YtdaklffbfadghaaGreat
open Go.RowKit HP
set_option linter.unusedVariables false
set_option linter.unusedSimpArgs false
theorem scan_le (p : Int → Bool) (lim step : Int) (hst : 1 ≤ step) : ∀ (f : Nat) (d : Nat) (a0 : Int), p (a0 + d * step) = true → a0 + d * step ≤ lim → d < f → ∃ b, scanF p lim step f a0 = some b ∧ b ≤ a0 + d * step
  | 0, d, a0, _, _, h => by omega
  | f + 1, 0, a0, hp, hl, _ => by
    have e : a0 + (0 : Nat) * step = a0 := by simp
    rw [e] at hp hl ⊢
    unfold scanF
    rw [if_neg (by omega), if_pos hp]
    exact ⟨a0, rfl, Int.le_refl _⟩
  | f + 1, d + 1, a0, hp, hl, h => by
    have hd : 0 ≤ (d : Int) * step := Int.mul_nonneg (by omega) (by omega)
    have e : a0 + ((d + 1 : Nat) : Int) * step = (a0 + step) + (d : Int) * step := by push_cast; rw [Int.add_mul]; omega
    rw [e] at hp hl ⊢
    unfold scanF
    rw [if_neg (by omega)]
    split
    · exact ⟨a0, rfl, by omega⟩
    · exact scan_le p lim step hst f d (a0 + step) hp hl (by omega)
/-- where there is room behind all live blocks, a block is handed out there or before it -/
theorem sure_alloc {m : HM} (I : Inv m) (hk : m.kind = 0) (hf : m.failIn = 0) (hl : m.live.length < 64) {n : Int} (hn : 1 ≤ n) {d : Nat} (hfit : (d : Int) * 8 + n ≤ m.size) (hp : ∀ x ∈ m.live, pend x ≤ (d : Int) * 8) :
    (allocM m n 8).2.2 = 0 ∧ (allocM m n 8).2.1 ≤ (d : Int) * 8 ∧ (allocM m n 8).1.failIn = 0 := by
  have hs := I.fit.sz
  have hz : (sizeB n && alignB 8) = true := by
    unfold sizeB alignB
    simp
    omega
  have hfree : ffP (countM m).size (countM m).live n (0 + (d : Int) * 8) = true := by
    show ffP m.size m.live n (0 + (d : Int) * 8) = true
    unfold ffP freeB
    rw [Bool.and_eq_true]
    refine ⟨by simp; omega, ?_⟩
    rw [Bool.not_eq_true', List.any_eq_false]
    intro x hx
    have := hp x hx
    unfold clash
    simp
    omega
  obtain ⟨b, hb, hle⟩ := scan_le (ffP (countM m).size (countM m).live n) ((countM m).size - n) 8 (by decide) 5000 d 0 hfree (by show _ ≤ m.size - n; omega) (by omega)
  have hr : roomM (countM m) n 8 = some b := by
    unfold roomM
    rw [if_pos (show (countM m).kind = 0 from hk)]
    exact hb
  have e : allocM m n 8 = (noteM (putM (countM m) (b, undefs n.toNat)), b, 0) := by
    unfold allocM
    rw [if_neg (by rw [hz]; decide), if_neg (by omega), hr]
  rw [e]
  refine ⟨rfl, by show b ≤ _; omega, ?_⟩
  show (if m.failIn = 0 then 0 else m.failIn - 1) = 0
  rw [if_pos hf]
/-- a heap with room: what is not the rows' lies below 8 * d, the rows' blocks lie low above it -/
structure Low (m : HM) (T : Nat) (ps : List Int) (d : Nat := 0) : Prop where
  kind : m.kind = 0
  size : m.size = 4096
  failIn : m.failIn = 0
  base : d ≤ 50 ∧ (rest m ps).length ≤ 16 ∧ (∀ x ∈ rest m ps, x.1 + x.2 ≤ ((8 * d : Nat) : Int)) ∧ ∀ j p, ps[j]? = some p → p ≤ ((8 * d + 32 * T * j : Nat) : Int)
theorem len_split {α : Type} (p : α → Bool) : ∀ l : List α, l.length = (l.filter p).length + (l.filter fun x => !p x).length
  | [] => rfl
  | x :: r => by
    have := len_split p r
    cases h : p x <;> simp [h] <;> omega
theorem Low.perm {m : HM} {T n : Nat} {ps : List Int} (P : Pcs m T ps n) (I : Inv m) : ((stretches m).filter fun x => ps.contains x.1).length = ps.length := by
  have hperm : (((stretches m).filter fun x => ps.contains x.1).map (·.1)).Perm ps := by
    refine (List.perm_ext_iff_of_nodup ((begins_nodup I.fit).sublist (List.filter_sublist.map _)) P.nodup).2 fun q => ?_
    constructor
    · intro hq
      obtain ⟨y, hy, rfl⟩ := List.mem_map.1 hq
      have := (List.mem_filter.1 hy).2
      simpa using this
    · intro hq
      exact List.mem_map.2 ⟨_, List.mem_filter.2 ⟨P.has q hq, by simpa using hq⟩, rfl⟩
  have h1 := hperm.length_eq
  rw [List.length_map] at h1
  exact h1
theorem Low.live {m : HM} {T : Nat} {ps : List Int} {n d : Nat} (hr : (rest m ps).length ≤ 16) (hb : ∀ x ∈ rest m ps, x.1 + x.2 ≤ ((8 * d : Nat) : Int)) (hl : ∀ j p, ps[j]? = some p → p ≤ ((8 * d + 32 * T * j : Nat) : Int)) (P : Pcs m T ps n) (I : Inv m) :
    m.live.length ≤ ps.length + 16 ∧ ∀ x ∈ m.live, pend x ≤ ((8 * d + 32 * T * ps.length : Nat) : Int) := by
  constructor
  · have h1 := Low.perm P I
    have h2 := len_split (fun x : Int × Int => ps.contains x.1) (stretches m)
    have h3 : (stretches m).length = m.live.length := by unfold stretches; rw [List.length_map]
    have h4 : (rest m ps).length = ((stretches m).filter fun x => !ps.contains x.1).length := rfl
    omega
  · intro x hx
    by_cases ho : x.1 ∈ ps
    · obtain ⟨j, hj, e⟩ := List.getElem_of_mem ho
      have h1 := hl j _ (List.getElem?_eq_getElem hj)
      obtain ⟨y, hy, e2⟩ := List.mem_map.1 (P.has _ ho)
      unfold shape at e2
      injection e2 with e3 e4
      obtain rfl := at_uniq I.fit hy hx e3
      have h2 : 32 * T * (j + 1) ≤ 32 * T * ps.length := Nat.mul_le_mul_left _ hj
      rw [Nat.mul_add] at h2
      unfold pend
      omega
    · have h1 := hb (shape x) (mem_rest.2 ⟨List.mem_map_of_mem hx, ho⟩)
      have h2 : (shape x).1 + (shape x).2 = pend x := rfl
      omega
theorem Low.grow {m : HM} {T : Nat} {ps : List Int} {n d : Nat} (h : Low m T ps d) (P : Pcs m T ps n) (I : Inv m) (hn : n < 64) (h4 : n % 4 = 0) (hT : 1 ≤ T ∧ T ≤ 3) :
    (allocM m ((32 * T : Nat) : Int) 8).2.2 = 0 ∧ Low (allocM m ((32 * T : Nat) : Int) 8).1 T (ps ++ [(allocM m ((32 * T : Nat) : Int) 8).2.1]) d := by
  obtain ⟨hd, b1, b2, b3⟩ := h.base
  obtain ⟨l1, l2⟩ := Low.live b1 b2 b3 P I
  have hl := P.len
  have e8 : ((d + 4 * T * ps.length : Nat) : Int) * 8 = ((8 * d + 32 * T * ps.length : Nat) : Int) := by
    have : 4 * T * ps.length * 8 = 32 * T * ps.length := by rw [Nat.mul_comm _ 8, ← Nat.mul_assoc, ← Nat.mul_assoc]
    omega
  have hb : 32 * T * ps.length ≤ 96 * ps.length := Nat.mul_le_mul_right _ (by omega)
  obtain ⟨s1, s2, s3⟩ := sure_alloc I h.kind h.failIn (by omega) (n := ((32 * T : Nat) : Int)) (by omega) (d := d + 4 * T * ps.length) (by rw [e8, h.size]; omega) (fun x hx => by rw [e8]; exact l2 x hx)
  obtain ⟨h1, h2, h3, -, h4, h5, h6, h7, h8, h9, h10, h11, h12, h13⟩ := alloc_yes I s1
  refine ⟨s1, h12.trans h.kind, h9.trans h.size, s3, hd, by rw [h4 ps]; exact b1, by rw [h4 ps]; exact b2, fun j p hp => ?_⟩
  rw [List.getElem?_append] at hp
  split at hp
  · exact b3 j p hp
  · rename_i hj
    obtain ⟨hz, e⟩ := List.getElem?_eq_some_iff.1 hp
    simp at hz e
    have hjj : j = ps.length := by omega
    subst hjj
    rw [e8] at s2
    rw [← e]
    exact s2
/-- stays low -/
theorem Low.same {m m' : HM} {T d : Nat} {ps : List Int} (h : Low m T ps d) (F : Fr m m' ps ps) (hf : m'.failIn = m.failIn) : Low m' T ps d := ⟨F.kind.trans h.kind, F.size.trans h.size, hf.trans h.failIn, by rw [F.rest]; exact h.base⟩
theorem Low.drop {m m' : HM} {T d : Nat} {qs : List Int} {p : Int} (h : Low m T (qs ++ [p]) d) (F : Fr m m' (qs ++ [p]) qs) (hf : m'.failIn = m.failIn) : Low m' T qs d := by
  obtain ⟨hd, b1, b2, b3⟩ := h.base
  refine ⟨F.kind.trans h.kind, F.size.trans h.size, hf.trans h.failIn, hd, by rw [F.rest]; exact b1, by rw [F.rest]; exact b2, fun j q hq => b3 j q (by rw [List.getElem?_append_left (List.getElem?_eq_some_iff.1 hq).1]; exact hq)⟩
/-- a heap of which nothing is taken -/
theorem Low.zero {m : HM} (hk : m.kind = 0) (hs : m.size = 4096) (hf : m.failIn = 0) (hl : m.live = []) (T : Nat) : Low m T [] := by
  have hr : Go.Proofs.YtdaklffbfadghaaGreat.rest m [] = [] := by unfold Go.Proofs.YtdaklffbfadghaaGreat.rest stretches; rw [hl]; rfl
  exact ⟨hk, hs, hf, by omega, by rw [hr]; exact Nat.zero_le _, by rw [hr]; intro x hx; (cases hx), fun j p hp => by cases hp⟩
/-- other rows in the same heap: what these have taken lies below -/
theorem Low.other {m : HM} {T T2 n : Nat} {ps : List Int} (h : Low m T ps) (P : Pcs m T ps n) (I : Inv m) (hb : 4 * T * ps.length ≤ 50) (hl : ps.length ≤ 16) : Low m T2 [] (4 * T * ps.length) := by
  obtain ⟨hd, b1, b2, b3⟩ := h.base
  obtain ⟨l1, l2⟩ := Low.live b1 b2 b3 P I
  have hr : Go.Proofs.YtdaklffbfadghaaGreat.rest m ps = [] := by
    cases hc : Go.Proofs.YtdaklffbfadghaaGreat.rest m ps with
    | nil => rfl
    | cons x t =>
      exfalso
      have hx : x ∈ Go.Proofs.YtdaklffbfadghaaGreat.rest m ps := by rw [hc]; exact List.mem_cons_self
      have h1 := b2 x hx
      obtain ⟨y, hy, rfl⟩ := List.mem_map.1 (mem_rest.1 hx).1
      have h2 := I.fit.inn y hy
      unfold shape at h1
      dsimp only at h1
      omega
  have hlen : m.live.length ≤ ps.length := by
    have h2 := len_split (fun x : Int × Int => ps.contains x.1) (stretches m)
    have h3 : (stretches m).length = m.live.length := by unfold stretches; rw [List.length_map]
    have h4 : (Go.Proofs.YtdaklffbfadghaaGreat.rest m ps).length = ((stretches m).filter fun x => !ps.contains x.1).length := rfl
    rw [hr, List.length_nil] at h4
    have h1 := Low.perm P I
    omega
  refine ⟨h.kind, h.size, h.failIn, hb, ?_, fun x hx => ?_, fun j p hp => by cases hp⟩
  · have h1 : (Go.Proofs.YtdaklffbfadghaaGreat.rest m []).length ≤ (stretches m).length := List.length_filter_le _ _
    have h3 : (stretches m).length = m.live.length := by unfold stretches; rw [List.length_map]
    omega
  · obtain ⟨y, hy, rfl⟩ := List.mem_map.1 (mem_rest.1 hx).1
    have h1 := l2 y hy
    have h2 : (shape y).1 + (shape y).2 = pend y := rfl
    have e8 : 8 * (4 * T * ps.length) = 32 * T * ps.length := by rw [← Nat.mul_assoc, ← Nat.mul_assoc]
    omega
end Go.Proofs.YtdaklffbfadghaaGreat
