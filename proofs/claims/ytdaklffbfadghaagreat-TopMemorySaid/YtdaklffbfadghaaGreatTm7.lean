/- What the acts of a heap do of its bytes and blocks: plain. No program. Rows of numbers in blocks of a heap, as bytes: plain. No program. Rows that grow, are inserted, removed and dropped: plain. No program. A row put in, a row taken out: plain. No program. A general heap with room does not refuse: plain. No program. Rows in an order of which the least one is first: plain. No program. A queue's rows against the document's queue, in the order in which they were pushed: plain. No program. What growing, putting in and taking out come to: plain. No program. A heap that a call acts on, beside blocks of other things that turn too. Rows of a heap as they lie: the box with the heap, the pieces, how many, whether closed; beside the heap. Words of 64 bits and their bytes in the language's own operations: plain. No program. The state of a call on rows: of the world w, in which heap and rows lay so, the heap is m now, and the rows r1. Conditions: as each theorem says. -/
import Derived.Test.YtdaklffbfadghaaGreatTm6
import Derived.Test.YtdaklffbfadghaaGreatTm2
import Derived.ChangeKeysEq
namespace Go.Proofs.YtdaklffbfadghaaGreat
open Go.RowKit HP
set_option linter.unusedVariables false
set_option linter.unusedSimpArgs false
/-- a live block that begins at bg has the byte b at a place -/
def Holds (m : HM) (bg at_ b : Int) : Prop := ∃ x ∈ m.live, x.1 = bg ∧ bg ≤ at_ ∧ at_ < pend x ∧ x.2[(at_ - bg).toNat]? = some b
/-- a live block begins at bg and has n bytes -/
def Has (m : HM) (bg n : Int) : Prop := (bg, n) ∈ stretches m
theorem inB_iff {at_ : Int} {x : PB} : inB at_ x = true ↔ x.1 ≤ at_ ∧ at_ < pend x := by
  unfold inB
  rw [Bool.and_eq_true, decide_eq_true_eq, decide_eq_true_eq]
theorem inB_uniq {size : Int} {l : List PB} (F : Fit size l) {x y : PB} (hx : x ∈ l) (hy : y ∈ l) {at_ : Int} (h1 : inB at_ x = true) (h2 : inB at_ y = true) : x = y := by
  obtain ⟨i, hi, rfl⟩ := List.getElem_of_mem hx
  obtain ⟨j, hj, rfl⟩ := List.getElem_of_mem hy
  have e1 := inB_iff.1 h1
  have e2 := inB_iff.1 h2
  rcases Nat.lt_trichotomy i j with h | h | h
  · have := (F.lt (List.getElem?_eq_getElem hi) (List.getElem?_eq_getElem hj) h).2
    omega
  · subst h; rfl
  · have := (F.lt (List.getElem?_eq_getElem hj) (List.getElem?_eq_getElem hi) h).2
    omega
theorem at_uniq {size : Int} {l : List PB} (F : Fit size l) {x y : PB} (hx : x ∈ l) (hy : y ∈ l) (h : x.1 = y.1) : x = y := by
  have h1 := (F.inn x hx).2.1
  have h2 := (F.inn y hy).2.1
  exact inB_uniq F hx hy (at_ := x.1) (inB_iff.2 ⟨Int.le_refl _, by unfold pend; omega⟩) (inB_iff.2 ⟨by omega, by unfold pend; omega⟩)
theorem find_some {l : List PB} {at_ : Int} {k : Nat} (h : l.findIdx? (inB at_) = some k) : ∃ x, l[k]? = some x ∧ inB at_ x = true := by
  obtain ⟨hk, hp, -⟩ := List.findIdx?_eq_some_iff_getElem.1 h
  exact ⟨l[k], List.getElem?_eq_getElem hk, hp⟩
theorem hold_load {m : HM} (I : Inv m) {bg at_ b : Int} (H : Holds m bg at_ b) (hb : 0 ≤ b) : loadM m at_ = (b, 0) := by
  obtain ⟨x, hx, hbg, h1, h2, h3⟩ := H
  have hin : inB at_ x = true := inB_iff.2 ⟨by omega, h2⟩
  unfold loadM
  cases hf : m.live.findIdx? (inB at_) with
  | none =>
    rw [List.findIdx?_eq_none_iff] at hf
    have := hf x hx
    rw [hin] at this
    cases this
  | some k =>
    obtain ⟨y, hy, hp⟩ := find_some hf
    have e := inB_uniq I.fit hx (List.mem_of_getElem? hy) hin hp
    subst e
    simp only
    rw [hy, Option.bind_some, hbg, h3]
    simp only
    rw [if_neg (by omega)]
theorem mem_del {l : List PB} {k : Nat} {x z : PB} (hx : x ∈ l) (hz : l[k]? = some z) (hne : x ≠ z) : x ∈ delAt l k 1 := by
  obtain ⟨i, hi, rfl⟩ := List.getElem_of_mem hx
  have hk := (List.getElem?_eq_some_iff.1 hz).1
  have hik : i ≠ k := fun e => by
    subst e
    rw [List.getElem?_eq_getElem hi] at hz
    exact hne (Option.some.inj hz)
  rcases Nat.lt_or_gt_of_ne hik with h | h
  · refine List.mem_of_getElem? (i := i) ?_
    rw [delAt_get _ _ _ (by omega), if_pos h, List.getElem?_eq_getElem hi]
  · refine List.mem_of_getElem? (i := i - 1) ?_
    rw [delAt_get _ _ _ (by omega), if_neg (by omega), show i - 1 + 1 = i by omega, List.getElem?_eq_getElem hi]
theorem mem_set_ne {l : List PB} {k : Nat} {x z z' : PB} (hx : x ∈ l) (hz : l[k]? = some z) (hne : x ≠ z) : x ∈ l.set k z' := by
  obtain ⟨i, hi, rfl⟩ := List.getElem_of_mem hx
  have hik : k ≠ i := fun e => by
    subst e
    rw [List.getElem?_eq_getElem hi] at hz
    exact hne (Option.some.inj hz)
  refine List.mem_of_getElem? (i := i) ?_
  rw [List.getElem?_set_ne hik, List.getElem?_eq_getElem hi]
theorem Holds.live {m m' : HM} {bg at_ b : Int} (H : Holds m bg at_ b) (h : ∀ x ∈ m.live, x.1 = bg → x ∈ m'.live) : Holds m' bg at_ b := by
  obtain ⟨x, hx, h1, h2⟩ := H
  exact ⟨x, h x hx h1, h1, h2⟩
/-- a place of a live block has a byte -/
theorem Has.byte {m : HM} {bg n : Int} (h : Has m bg n) {at_ : Int} (h1 : bg ≤ at_) (h2 : at_ < bg + n) : ∃ v, Holds m bg at_ v := by
  obtain ⟨x, hx, e⟩ := List.mem_map.1 h
  unfold shape at e
  injection e with e1 e2
  have hj : (at_ - bg).toNat < x.2.length := by omega
  exact ⟨x.2[(at_ - bg).toNat], x, hx, e1, h1, by unfold pend; omega, List.getElem?_eq_getElem hj⟩
/-! a byte is stored -/
structure Stored (m m' : HM) (bg at_ b : Int) : Prop where
  inv : Inv m'
  shape : stretches m' = stretches m
  calls : m'.calls = m.calls
  size : m'.size = m.size
  kind : m'.kind = m.kind
  failIn : m'.failIn = m.failIn
  here : Holds m' bg at_ b
  other : ∀ bg2 at2 v, at2 ≠ at_ → Holds m bg2 at2 v → Holds m' bg2 at2 v
theorem store_in {m : HM} (I : Inv m) {bg at_ v b : Int} (H : Holds m bg at_ v) (hb : 0 ≤ b ∧ b ≤ 255) : (storeM m at_ b).2 = 0 ∧ Stored m (storeM m at_ b).1 bg at_ b := by
  have hinv := store_inv I at_ b
  obtain ⟨x, hx, hbg, h1, h2, h3⟩ := H
  have hin : inB at_ x = true := inB_iff.2 ⟨by omega, h2⟩
  cases hf : m.live.findIdx? (inB at_) with
  | none =>
    rw [List.findIdx?_eq_none_iff] at hf
    have := hf x hx
    rw [hin] at this
    cases this
  | some k =>
    obtain ⟨y, hy, hp⟩ := find_some hf
    have e := inB_uniq I.fit hx (List.mem_of_getElem? hy) hin hp
    subst e
    have hk := (List.getElem?_eq_some_iff.1 hy).1
    have hj := (List.getElem?_eq_some_iff.1 h3).1
    rw [storeM_some hb hf hy] at hinv ⊢
    refine ⟨rfl, hinv, ?_, rfl, rfl, rfl, rfl, ?_, ?_⟩
    · show (m.live.set k _).map Go.Proofs.YtdaklffbfadghaaGreat.shape = m.live.map Go.Proofs.YtdaklffbfadghaaGreat.shape
      rw [List.map_set]
      refine List.ext_getElem? fun i => ?_
      rw [List.getElem?_set]
      split
      · rename_i e
        subst e
        rw [List.getElem?_map, hy]
        simp [hk, Go.Proofs.YtdaklffbfadghaaGreat.shape, putB]
      · rfl
    · refine ⟨putB x (at_ - x.1).toNat b, List.mem_set hk _, hbg, h1, ?_, ?_⟩
      · unfold pend putB
        rw [List.length_set]
        exact h2
      · show (x.2.set (at_ - x.1).toNat b)[(at_ - bg).toNat]? = some b
        rw [hbg, List.getElem?_set_self hj]
    · rintro bg2 at2 v2 hne ⟨z, hz, hzb, g1, g2, g3⟩
      by_cases hxz : z = x
      · subst hxz
        refine ⟨putB z (at_ - z.1).toNat b, List.mem_set hk _, hzb, g1, ?_, ?_⟩
        · unfold pend putB
          rw [List.length_set]
          exact g2
        · show (z.2.set (at_ - z.1).toNat b)[(at2 - bg2).toNat]? = some v2
          rw [List.getElem?_set_ne (by omega)]
          exact g3
      · exact ⟨z, mem_set_ne hz hy hxz, hzb, g1, g2, g3⟩
/-! the live blocks but those that are one's own -/
def rest (m : HM) (own : List Int) : List (Int × Int) := (stretches m).filter fun x => !own.contains x.1
theorem mem_rest {m : HM} {own : List Int} {x : Int × Int} : x ∈ rest m own ↔ x ∈ stretches m ∧ x.1 ∉ own := by
  unfold rest
  rw [List.mem_filter]
  simp
/-! a block is handed out -/
theorem alloc_yes {m : HM} (I : Inv m) {n al : Int} (h : (allocM m n al).2.2 = 0) :
    1 ≤ n ∧ ((allocM m n al).2.1, n) ∈ stretches (allocM m n al).1 ∧ (∀ y ∈ stretches m, y.1 ≠ (allocM m n al).2.1) ∧
    (∀ own : List Int, (∀ p ∈ own, p ≠ (allocM m n al).2.1) → rest (allocM m n al).1 ((allocM m n al).2.1 :: own) = rest m own) ∧ (∀ own : List Int, rest (allocM m n al).1 (own ++ [(allocM m n al).2.1]) = rest m own) ∧
    (∀ bg at_ v, Holds m bg at_ v → Holds (allocM m n al).1 bg at_ v) ∧ (allocM m n al).1.calls = m.calls + 1 ∧ 0 ≤ (allocM m n al).2.1 ∧ (allocM m n al).2.1 + n ≤ m.size ∧ (allocM m n al).1.size = m.size ∧
    (∀ y ∈ stretches m, y ∈ stretches (allocM m n al).1) ∧ (allocM m n al).1.live.length = m.live.length + 1 ∧ (allocM m n al).1.kind = m.kind ∧ roomM (countM m) n al = some (allocM m n al).2.1 := by
  unfold allocM at h ⊢
  split at h
  · cases h
  · rename_i hc
    rw [if_neg hc]
    split at h
    · cases h
    · rename_i hf
      rw [if_neg hf]
      have hnal : 1 ≤ n ∧ 1 ≤ al := by
        unfold sizeB alignB at hc
        simp at hc
        omega
      split at h
      · cases h
      · rename_i a hr
        obtain ⟨h1, h2, h3, h4, h5, h6⟩ := room_spec I.count hnal.1 hnal.2 hr
        have hst : stretches (noteM (putM (countM m) (a, undefs n.toNat))) = insAt (stretches m) (below m.live a) [(a, n)] := by
          show (insAt m.live (below m.live a) [(a, undefs n.toNat)]).map shape = _
          rw [insAt_map]
          show insAt (m.live.map shape) _ [(a, ((undefs n.toNat).length : Int))] = _
          rw [undefs_len, show ((n.toNat : Nat) : Int) = n by omega]
          rfl
        have hnew : ∀ y ∈ stretches m, y.1 ≠ a := fun y hy e => by
          obtain ⟨x, hx, rfl⟩ := List.mem_map.1 hy
          have e : x.1 = a := e
          have := h3 x hx
          have := (I.fit.inn x hx).2.1
          unfold pend at *
          omega
        have hrest : ∀ own : List Int, a ∈ own → (∀ p ∈ own, p ≠ a → p ∈ own) → ∀ own2 : List Int, (∀ y ∈ stretches m, own.contains y.1 = own2.contains y.1) → (insAt (stretches m) (below m.live a) [(a, n)]).filter (fun x => !own.contains x.1) = (stretches m).filter (fun x => !own2.contains x.1) := by
          intro own ha _ own2 he
          have hc : own.contains a = true := by simpa using ha
          unfold insAt
          rw [List.filter_append, List.filter_append, List.filter_cons_of_neg (by simp [ha]), List.filter_nil, List.nil_append, ← List.filter_append, List.take_append_drop]
          refine List.filter_congr fun y hy => ?_
          rw [he y hy]
        refine ⟨hnal.1, ?_, hnew, fun own ho => ?_, fun own => ?_, fun bg at_ v H => ?_, rfl, h1, h2, rfl, fun y hy => ?_, ?_, rfl, hr⟩
        · show (a, n) ∈ stretches (noteM (putM (countM m) (a, undefs n.toNat)))
          rw [hst]
          exact insAt_mem.2 (.inl rfl)
        · show (stretches (noteM (putM (countM m) (a, undefs n.toNat)))).filter _ = _
          rw [hst]
          refine hrest (a :: own) (by simp) (fun p hp _ => hp) own fun y hy => ?_
          have := hnew y hy
          simp [this]
        · show (stretches (noteM (putM (countM m) (a, undefs n.toNat)))).filter _ = _
          rw [hst]
          refine hrest (own ++ [a]) (by simp) (fun p hp _ => hp) own fun y hy => ?_
          have := hnew y hy
          simp [this]
        · exact H.live fun x hx _ => insAt_mem.2 (.inr hx)
        · show y ∈ stretches (noteM (putM (countM m) (a, undefs n.toNat)))
          rw [hst]
          exact insAt_mem.2 (.inr hy)
        · exact insAt_len _ _ _ (below_le _ _)
theorem alloc_no {m : HM} {n al : Int} (h : ¬ (allocM m n al).2.2 = 0) : (allocM m n al).1.live = m.live ∧ (allocM m n al).1.size = m.size ∧ (allocM m n al).1.kind = m.kind := by
  unfold allocM at h ⊢
  split
  · exact ⟨rfl, rfl, rfl⟩
  · split
    · exact ⟨rfl, rfl, rfl⟩
    · split
      · exact ⟨rfl, rfl, rfl⟩
      · rename_i h1 h2 _ a h3
        rw [if_neg h1, if_neg h2, h3] at h
        exact absurd rfl h
/-! a block is given back -/
theorem free_yes {m : HM} (I : Inv m) {p n : Int} (h : (p, n) ∈ stretches m) :
    (freeM m p).2 = 0 ∧ Inv (freeM m p).1 ∧ (freeM m p).1.calls = m.calls ∧ (freeM m p).1.size = m.size ∧ (freeM m p).1.kind = m.kind ∧ (freeM m p).1.failIn = m.failIn ∧ (freeM m p).1.live.length + 1 = m.live.length ∧
    (∀ y ∈ stretches (freeM m p).1, y ∈ stretches m ∧ y.1 ≠ p) ∧ (∀ y ∈ stretches m, y.1 ≠ p → y ∈ stretches (freeM m p).1) ∧
    (∀ own : List Int, p ∉ own → rest (freeM m p).1 own = rest m (own ++ [p])) ∧ (∀ bg at_ v, bg ≠ p → Holds m bg at_ v → Holds (freeM m p).1 bg at_ v) := by
  obtain ⟨x0, hx0, e0⟩ := List.mem_map.1 h
  unfold shape at e0
  injection e0 with e1 e2
  have hh : has m.live p = true := by
    unfold has
    rw [List.any_eq_true]
    exact ⟨x0, hx0, by simpa using e1⟩
  obtain ⟨z, hz, hza, e⟩ := at_eq I.fit hh
  have hinv := free_inv I p
  have hst : freeM m p = (takeM m (below m.live p) z, 0) := by
    unfold freeM
    rw [if_neg (by simp [hh]), e]
  rw [hst] at hinv ⊢
  have hk := (List.getElem?_eq_some_iff.1 hz).1
  have hlive : (takeM m (below m.live p) z).live = delAt m.live (below m.live p) 1 := rfl
  have huniq : ∀ (i : Nat) (y : PB), m.live[i]? = some y → y.1 = p → i = below m.live p := fun i y hy hp => by
    rcases Nat.lt_trichotomy i (below m.live p) with h | h | h
    · have := (I.fit.lt hy hz h).1
      omega
    · exact h
    · have := (I.fit.lt hz hy h).1
      omega
  have hsub : ∀ y ∈ delAt m.live (below m.live p) 1, y ∈ m.live ∧ y.1 ≠ p := fun y hy => by
    refine ⟨delAt_mem hy, fun hp => ?_⟩
    obtain ⟨j, hj, rfl⟩ := List.getElem_of_mem hy
    have hj' : (delAt m.live (below m.live p) 1)[j]? = some (delAt m.live (below m.live p) 1)[j] := List.getElem?_eq_getElem hj
    rw [delAt_get _ _ _ (by omega)] at hj'
    split at hj'
    · have := huniq _ _ hj' hp
      omega
    · have := huniq _ _ hj' hp
      omega
  refine ⟨rfl, hinv, rfl, rfl, rfl, rfl, ?_, fun y hy => ?_, fun y hy hne => ?_, fun own ho => ?_, fun bg at_ v hne H => ?_⟩
  · rw [hlive, delAt_len _ _ _ (by omega)]
    omega
  · obtain ⟨x, hx, rfl⟩ := List.mem_map.1 hy
    obtain ⟨g1, g2⟩ := hsub x hx
    exact ⟨List.mem_map_of_mem g1, g2⟩
  · obtain ⟨x, hx, rfl⟩ := List.mem_map.1 hy
    refine List.mem_map_of_mem (mem_del hx hz fun e3 => hne ?_)
    rw [e3]
    exact hza
  · show ((delAt m.live (below m.live p) 1).map shape).filter _ = (m.live.map shape).filter _
    have e4 : m.live = m.live.take (below m.live p) ++ z :: m.live.drop (below m.live p + 1) := by
      have := List.getElem_cons_drop hk
      have e5 : m.live[below m.live p] = z := (List.getElem?_eq_some_iff.1 hz).2
      rw [e5] at this
      rw [this, List.take_append_drop]
    have hpz : Go.Proofs.YtdaklffbfadghaaGreat.shape z = (p, (z.2.length : Int)) := by unfold shape; rw [hza]
    conv => rhs; rw [e4]
    rw [List.map_append, List.map_cons, hpz, List.filter_append, List.filter_cons_of_neg (by simp)]
    unfold delAt
    rw [List.map_append, ← List.filter_append, ← List.map_append]
    rw [List.filter_map, List.filter_map]
    congr 1
    refine List.filter_congr fun y hy => ?_
    have := (hsub y hy).2
    show (!own.contains y.1) = !(own ++ [p]).contains y.1
    simp [this]
  · exact H.live fun x hx hxb => mem_del hx hz fun e3 => hne (by rw [← hxb, e3]; exact hza)
end Go.Proofs.YtdaklffbfadghaaGreat

namespace Go.Proofs.YtdaklffbfadghaaGreat
open Go.RowKit HP
set_option linter.unusedVariables false
set_option linter.unusedSimpArgs false
/-- a number as a word without a sign, and its bytes -/
def wordN (v : Int) : Nat := (v % 18446744073709551616).toNat
def byteN (v : Int) (b : Nat) : Nat := wordN v / 2 ^ (8 * b) % 256
theorem wordN_lt (v : Int) : wordN v < 18446744073709551616 := by unfold wordN; omega
theorem byteN_lt (v : Int) (b : Nat) : byteN v b < 256 := Nat.mod_lt _ (by decide)
theorem word_all (v : Int) : wordN v % 2 ^ (8 * 8) = wordN v := Nat.mod_eq_of_lt (wordN_lt v)
theorem word_step (v : Int) (b : Nat) : wordN v % 2 ^ (8 * b) ||| byteN v b <<< (8 * b) = wordN v % 2 ^ (8 * (b + 1)) := by
  have h1 : wordN v % 2 ^ (8 * b) < 2 ^ (8 * b) := Nat.mod_lt _ (Nat.two_pow_pos _)
  rw [Nat.or_comm, ← Nat.shiftLeft_add_eq_or_of_lt h1, Nat.shiftLeft_eq]
  unfold byteN
  rw [show 8 * (b + 1) = 8 * b + 8 by omega, Nat.pow_add, Nat.mod_mul]
  rw [show (2 : Nat) ^ 8 = 256 by decide, Nat.mul_comm]
  omega
theorem word_back {v : Int} (h1 : -9223372036854775808 ≤ v) (h2 : v ≤ 9223372036854775807) : wrap64 (wordN v : Int) = v := by
  unfold wrap64 wordN
  omega
/-- a byte of a row -/
def byteR (r : List Int) (c : Nat) : Nat := byteN (r.getD (c / 8) 0) (c % 8)
theorem byteR_kb {r : List Int} {k b : Nat} {v : Int} (hv : r[k]? = some v) (hb : b < 8) : byteR r (8 * k + b) = byteN v b := by
  unfold byteR
  rw [show (8 * k + b) / 8 = k by omega, show (8 * k + b) % 8 = b by omega, List.getD_eq_getElem?_getD, hv]
  rfl
def RowAt (m : HM) (p off : Int) (r : List Int) : Prop := ∀ c, c < 8 * r.length → Holds m p (p + off + (c : Int)) (byteR r c)
/-- row i of the pieces ps, each of four rows of T words -/
def RowIs (m : HM) (T : Nat) (ps : List Int) (i : Nat) (r : List Int) : Prop := ∃ p, ps[i / 4]? = some p ∧ r.length = T ∧ RowAt m p (((i % 4 * (8 * T) : Nat)) : Int) r
theorem Holds.uniq {m : HM} (I : Inv m) {b1 b2 at_ v1 v2 : Int} (h1 : Holds m b1 at_ v1) (h2 : Holds m b2 at_ v2) : b1 = b2 := by
  obtain ⟨x, hx, hxb, g1, g2, -⟩ := h1
  obtain ⟨y, hy, hyb, k1, k2, -⟩ := h2
  have := inB_uniq I.fit hx hy (inB_iff.2 ⟨by omega, g2⟩) (inB_iff.2 ⟨by omega, k2⟩)
  subst this
  omega
/-- what some stores into one row have done so far: c of its bytes are written -/
structure Writing (m m' : HM) (p off : Int) (r : List Int) (c : Nat) : Prop where
  inv : Inv m'
  shape : stretches m' = stretches m
  calls : m'.calls = m.calls
  size : m'.size = m.size
  kind : m'.kind = m.kind
  failIn : m'.failIn = m.failIn
  done : ∀ j, j < c → Holds m' p (p + off + (j : Int)) (byteR r j)
  other : ∀ bg at_ v, bg ≠ p ∨ at_ < p + off ∨ p + off + ((8 * r.length : Nat) : Int) ≤ at_ → Holds m bg at_ v → Holds m' bg at_ v
theorem Writing.start {m : HM} (I : Inv m) (p off : Int) (r : List Int) : Writing m m p off r 0 := ⟨I, rfl, rfl, rfl, rfl, rfl, fun j hj => by omega, fun _ _ _ _ h => h⟩
theorem Writing.step {m m' : HM} {p off : Int} {r : List Int} {c : Nat} (W : Writing m m' p off r c) {n : Int} (hh : Has m p n) (ho : 0 ≤ off) (hn : off + ((8 * r.length : Nat) : Int) ≤ n) (hc : c < 8 * r.length) :
    (storeM m' (p + off + (c : Int)) (byteR r c)).2 = 0 ∧ Writing m (storeM m' (p + off + (c : Int)) (byteR r c)).1 p off r (c + 1) := by
  have hh' : Has m' p n := by unfold Has; rw [W.shape]; exact hh
  obtain ⟨v, hv⟩ := hh'.byte (at_ := p + off + (c : Int)) (by omega) (by omega)
  have hb := byteN_lt (r.getD (c / 8) 0) (c % 8)
  obtain ⟨h1, S⟩ := store_in W.inv hv (b := (byteR r c : Int)) (by unfold byteR; omega)
  refine ⟨h1, S.inv, S.shape.trans W.shape, S.calls.trans W.calls, S.size.trans W.size, S.kind.trans W.kind, S.failIn.trans W.failIn, fun j hj => ?_, fun bg at_ v2 hne H => ?_⟩
  · rcases Nat.lt_or_eq_of_le (Nat.lt_succ_iff.1 hj) with h | h
    · exact S.other _ _ _ (by omega) (W.done j h)
    · subst h; exact S.here
  · have H2 := W.other bg at_ v2 hne H
    refine S.other _ _ _ (fun e => ?_) H2
    subst e
    have := H2.uniq W.inv hv
    omega
/-- what holds of the pieces: how many, apart, live -/
structure Pcs (m : HM) (T : Nat) (ps : List Int) (n : Nat) : Prop where
  len : ps.length = (n + 3) / 4
  nodup : ps.Nodup
  has : ∀ p ∈ ps, Has m p ((32 * T : Nat) : Int)
theorem Pcs.shape {m m' : HM} {T : Nat} {ps : List Int} {n : Nat} (P : Pcs m T ps n) (h : stretches m' = stretches m) : Pcs m' T ps n := ⟨P.len, P.nodup, fun p hp => by unfold Has; rw [h]; exact P.has p hp⟩
theorem Pcs.at {m : HM} {T : Nat} {ps : List Int} {n i : Nat} (P : Pcs m T ps n) (hi : i < n) : ∃ p, ps[i / 4]? = some p ∧ p ∈ ps ∧ Has m p ((32 * T : Nat) : Int) := by
  have hl := P.len
  have h : i / 4 < ps.length := by omega
  exact ⟨ps[i / 4], List.getElem?_eq_getElem h, List.getElem_mem h, P.has _ (List.getElem_mem h)⟩
theorem nodup_idx {ps : List Int} (h : ps.Nodup) {i j : Nat} (hi : i < ps.length) (hj : j < ps.length) (e : ps[i] = ps[j]) : i = j := by
  have hp := List.pairwise_iff_getElem.1 h
  rcases Nat.lt_trichotomy i j with h | h | h
  · exact absurd e (hp i j hi hj h)
  · exact h
  · exact absurd e.symm (hp j i hj hi h)
/-- a row is written whole: the others stay -/
theorem Writing.row {m m' : HM} {T : Nat} {ps : List Int} {i : Nat} {p : Int} {r : List Int} (hp : ps[i / 4]? = some p) (hr : r.length = T) (W : Writing m m' p (((i % 4 * (8 * T) : Nat)) : Int) r (8 * r.length)) (hnd : ps.Nodup) :
    RowIs m' T ps i r ∧ (∀ j r2, j ≠ i → RowIs m T ps j r2 → RowIs m' T ps j r2) ∧ (∀ bg at_ v, bg ∉ ps → Holds m bg at_ v → Holds m' bg at_ v) := by
  refine ⟨⟨p, hp, hr, W.done⟩, fun j r2 hne h => ?_, fun bg at_ v hn H => W.other _ _ _ (.inl fun e => hn (by rw [e]; exact List.mem_of_getElem? hp)) H⟩
  obtain ⟨q, hq, hl, hR⟩ := h
  refine ⟨q, hq, hl, fun c hc => W.other _ _ _ ?_ (hR c hc)⟩
  by_cases e : q = p
  · refine .inr ?_
    subst e
    have hij : j / 4 = i / 4 := by
      obtain ⟨a1, a2⟩ := List.getElem?_eq_some_iff.1 hq
      obtain ⟨b1, b2⟩ := List.getElem?_eq_some_iff.1 hp
      exact nodup_idx hnd a1 b1 (a2.trans b2.symm)
    have hm : j % 4 ≠ i % 4 := by omega
    rw [hr]
    rw [hl] at hc
    rcases Nat.lt_or_gt_of_ne hm with h | h
    · have := Nat.mul_le_mul_right (8 * T) (show j % 4 + 1 ≤ i % 4 by omega)
      rw [Nat.add_mul] at this
      omega
    · have := Nat.mul_le_mul_right (8 * T) (show i % 4 + 1 ≤ j % 4 by omega)
      rw [Nat.add_mul] at this
      omega
  · exact .inl e
/-- a byte of a row is read -/
theorem RowIs.load {m : HM} (I : Inv m) {T : Nat} {ps : List Int} {i : Nat} {r : List Int} {p : Int} (h : RowIs m T ps i r) (hp : ps[i / 4]? = some p) {k b : Nat} {v : Int} (hv : r[k]? = some v) (hb : b < 8) :
    loadM m (p + ((i % 4 * (8 * T) : Nat) : Int) + ((8 * k + b : Nat) : Int)) = ((byteN v b : Int), 0) := by
  obtain ⟨q, hq, hl, hR⟩ := h
  rw [hp] at hq
  obtain rfl := Option.some.inj hq
  have hk := (List.getElem?_eq_some_iff.1 hv).1
  have := hold_load I (hR (8 * k + b) (by omega)) (by omega)
  rw [byteR_kb hv hb] at this
  exact this
end Go.Proofs.YtdaklffbfadghaaGreat

namespace Go.Proofs.YtdaklffbfadghaaGreat
open Go.RowKit HP
set_option linter.unusedVariables false
set_option linter.unusedSimpArgs false
/-- what an act on rows whose pieces were ps, and are qs then, leaves of the heap -/
structure Fr (m m' : HM) (ps qs : List Int) : Prop where
  size : m'.size = m.size
  kind : m'.kind = m.kind
  rest : rest m' qs = rest m ps
  hold : ∀ bg at_ v, bg ∉ ps → Holds m bg at_ v → Holds m' bg at_ v
  new : ∀ p ∈ qs, p ∈ ps ∨ ∀ y ∈ stretches m, y.1 ≠ p
theorem Holds.has {m : HM} {bg at_ v : Int} (h : Holds m bg at_ v) : ∃ n, Has m bg n := by
  obtain ⟨x, hx, e, -⟩ := h
  refine ⟨x.2.length, List.mem_map.2 ⟨x, hx, ?_⟩⟩
  unfold shape
  rw [e]
theorem Fr.refl (m : HM) (ps : List Int) : Fr m m ps ps := ⟨rfl, rfl, rfl, fun _ _ _ _ h => h, fun p hp => .inl hp⟩
theorem Fr.stay {m m' : HM} {ps qs : List Int} (F : Fr m m' ps qs) {y : Int × Int} (hy : y ∈ stretches m) (hn : y.1 ∉ ps) : y ∈ stretches m' ∧ y.1 ∉ qs := by
  have : y ∈ _root_.Go.Proofs.YtdaklffbfadghaaGreat.rest m ps := mem_rest.2 ⟨hy, hn⟩
  rw [← F.rest] at this
  exact mem_rest.1 this
theorem Fr.trans {m m1 m2 : HM} {ps qs rs : List Int} (F : Fr m m1 ps qs) (G : Fr m1 m2 qs rs) : Fr m m2 ps rs := by
  refine ⟨G.size.trans F.size, G.kind.trans F.kind, G.rest.trans F.rest, fun bg at_ v hn H => ?_, fun p hp => ?_⟩
  · obtain ⟨n, hh⟩ := H.has
    exact G.hold _ _ _ (F.stay hh hn).2 (F.hold _ _ _ hn H)
  · rcases G.new p hp with h | h
    · exact F.new p h
    · by_cases hps : p ∈ ps
      · exact .inl hps
      · refine .inr fun y hy e => ?_
        exact h y (F.stay hy (by rw [e]; exact hps)).1 e
theorem Writing.fr {m m' : HM} {p off : Int} {r : List Int} {c : Nat} (W : Writing m m' p off r c) {ps : List Int} (hp : p ∈ ps) : Fr m m' ps ps :=
  ⟨W.size, W.kind, by unfold Go.Proofs.YtdaklffbfadghaaGreat.rest; rw [W.shape], fun bg at_ v hn H => W.other _ _ _ (.inl fun e => hn (by rw [e]; exact hp)) H, fun p hp => .inl hp⟩
/-! room for one more -/
theorem grow_same {m : HM} {T : Nat} {ps : List Int} {n : Nat} (P : Pcs m T ps n) (h : n % 4 ≠ 0) : Pcs m T ps (n + 1) := ⟨by have := P.len; omega, P.nodup, P.has⟩
theorem RowIs.more {m m' : HM} {T : Nat} {ps : List Int} {a : Int} {j : Nat} {r : List Int} (h : RowIs m T ps j r) (hh : ∀ bg at_ v, Holds m bg at_ v → Holds m' bg at_ v) : RowIs m' T (ps ++ [a]) j r := by
  obtain ⟨p, hp, hl, hR⟩ := h
  have hlt := (List.getElem?_eq_some_iff.1 hp).1
  exact ⟨p, by rw [List.getElem?_append_left hlt]; exact hp, hl, fun c hc => hh _ _ _ (hR c hc)⟩
theorem grow_new {m : HM} {T : Nat} {ps : List Int} {n : Nat} (I : Inv m) (P : Pcs m T ps n) (h : n % 4 = 0) (hal : (allocM m ((32 * T : Nat) : Int) 8).2.2 = 0) :
    Pcs (allocM m ((32 * T : Nat) : Int) 8).1 T (ps ++ [(allocM m ((32 * T : Nat) : Int) 8).2.1]) (n + 1) ∧ Fr m (allocM m ((32 * T : Nat) : Int) 8).1 ps (ps ++ [(allocM m ((32 * T : Nat) : Int) 8).2.1]) ∧
    ∀ j r, RowIs m T ps j r → RowIs (allocM m ((32 * T : Nat) : Int) 8).1 T (ps ++ [(allocM m ((32 * T : Nat) : Int) 8).2.1]) j r := by
  obtain ⟨h1, h2, h3, -, h4, h5, h6, h7, h8, h9, h10, h11, h12, h13⟩ := alloc_yes I hal
  obtain ⟨a, ha⟩ : ∃ a, a = (allocM m ((32 * T : Nat) : Int) 8).2.1 := ⟨_, rfl⟩
  rw [← ha] at h2 h3 h4 ⊢
  have hna : a ∉ ps := fun e => h3 _ (P.has a e) rfl
  refine ⟨⟨?_, ?_, fun p hp => ?_⟩, ⟨h9, h12, h4 ps, fun bg at_ v _ H => h5 _ _ _ H, fun p hp => ?_⟩, fun j r hr => hr.more h5⟩
  · have := P.len
    rw [List.length_append, List.length_singleton]
    omega
  · refine List.nodup_append.2 ⟨P.nodup, by simp, fun x hx y hy e => ?_⟩
    rw [List.mem_singleton] at hy
    exact hna (by rw [← hy, ← e]; exact hx)
  · rcases List.mem_append.1 hp with hp | hp
    · exact h10 _ (P.has p hp)
    · rw [List.mem_singleton] at hp
      rw [hp]
      exact h2
  · rcases List.mem_append.1 hp with hp | hp
    · exact .inl hp
    · rw [List.mem_singleton] at hp
      rw [hp]
      exact .inr h3
/-! one less -/
theorem drop_same {m : HM} {T : Nat} {ps : List Int} {n : Nat} (P : Pcs m T ps (n + 1)) (h : n % 4 ≠ 0) : Pcs m T ps n := ⟨by have := P.len; omega, P.nodup, P.has⟩
theorem drop_free {m : HM} {T : Nat} {ps : List Int} {n : Nat} (I : Inv m) (P : Pcs m T ps (n + 1)) (h : n % 4 = 0) :
    ∃ qs p, ps = qs ++ [p] ∧ (freeM m p).2 = 0 ∧ Inv (freeM m p).1 ∧ (freeM m p).1.calls = m.calls ∧ (freeM m p).1.failIn = m.failIn ∧ Pcs (freeM m p).1 T qs n ∧ Fr m (freeM m p).1 ps qs ∧
      ∀ j r, j < n → RowIs m T ps j r → RowIs (freeM m p).1 T qs j r := by
  have hl := P.len
  have hne : ps ≠ [] := fun e => by rw [e] at hl; simp at hl; omega
  obtain ⟨qs, p, rfl⟩ : ∃ qs p, ps = qs ++ [p] := ⟨ps.dropLast, ps.getLast hne, (List.dropLast_concat_getLast hne).symm⟩
  rw [List.length_append, List.length_singleton] at hl
  have hnd := List.nodup_append.1 P.nodup
  have hpq : p ∉ qs := fun e => hnd.2.2 p e p (by simp) rfl
  obtain ⟨f1, f2, f3, f4, f5, f6, f7, f8, f9, f10, f11⟩ := free_yes I (P.has p (by simp))
  refine ⟨qs, p, rfl, f1, f2, f3, f6, ⟨by omega, hnd.1, fun q hq => f9 _ (P.has q (by simp [hq])) fun e => hpq (by rw [← e]; exact hq)⟩, ⟨f4, f5, f10 qs hpq, fun bg at_ v hn H => f11 _ _ _ (fun e => hn (by simp [e])) H, fun q hq => .inl (by simp [hq])⟩, fun j r hj hr => ?_⟩
  obtain ⟨q, hq, hlr, hR⟩ := hr
  have hlt : j / 4 < qs.length := by omega
  rw [List.getElem?_append_left hlt] at hq
  exact ⟨q, hq, hlr, fun c hc => f11 _ _ _ (fun e => hpq (by rw [← e]; exact List.mem_of_getElem? hq)) (hR c hc)⟩
/-! what is kept -/
structure Kp (m : HM) (T : Nat) (ps : List Int) (L : List (List Int)) : Prop where
  pcs : Pcs m T ps L.length
  len : L.length ≤ 64
  row : ∀ j r, L[j]? = some r → RowIs m T ps j r
theorem Kp.nil (m : HM) (T : Nat) : Kp m T [] [] := ⟨⟨rfl, List.Pairwise.nil, fun p hp => by cases hp⟩, by simp, fun j r h => by simp at h⟩
theorem Kp.wide {m : HM} {T : Nat} {ps : List Int} {L : List (List Int)} (K : Kp m T ps L) {r : List Int} (h : r ∈ L) : r.length = T := by
  obtain ⟨j, hj, rfl⟩ := List.getElem_of_mem h
  obtain ⟨p, -, e, -⟩ := K.row j _ (List.getElem?_eq_getElem hj)
  exact e
/-- another act leaves them -/
theorem Kp.frame {m m' : HM} {T : Nat} {ps qs bs : List Int} {L : List (List Int)} (K : Kp m T ps L) (F : Fr m m' qs bs) (h : ∀ p ∈ ps, p ∉ qs) : Kp m' T ps L ∧ ∀ p ∈ ps, p ∉ bs := by
  refine ⟨⟨⟨K.pcs.len, K.pcs.nodup, fun p hp => (F.stay (K.pcs.has p hp) (h p hp)).1⟩, K.len, fun j r hr => ?_⟩, fun p hp => (F.stay (K.pcs.has p hp) (h p hp)).2⟩
  obtain ⟨p, hp, hl, hR⟩ := K.row j r hr
  exact ⟨p, hp, hl, fun c hc => F.hold _ _ _ (h p (List.mem_of_getElem? hp)) (hR c hc)⟩
/-- a row is written -/
theorem Kp.set {m m' : HM} {T : Nat} {ps : List Int} {L : List (List Int)} (K : Kp m T ps L) {i : Nat} (hi : i < L.length) {p : Int} {r : List Int} (hp : ps[i / 4]? = some p) (hr : r.length = T) (W : Writing m m' p (((i % 4 * (8 * T) : Nat)) : Int) r (8 * r.length)) :
    Kp m' T ps (L.set i r) ∧ Fr m m' ps ps := by
  obtain ⟨h1, h2, h3⟩ := W.row hp hr K.pcs.nodup
  refine ⟨⟨?_, by rw [List.length_set]; exact K.len, fun j q hq => ?_⟩, W.fr (List.mem_of_getElem? hp)⟩
  · rw [List.length_set]
    exact K.pcs.shape W.shape
  · rw [List.getElem?_set] at hq
    split at hq
    · rename_i e
      subst e
      try rw [if_pos hi] at hq
      obtain rfl := Option.some.inj hq
      exact h1
    · rename_i e
      exact h2 j q (fun e2 => e e2.symm) (K.row j q hq)
end Go.Proofs.YtdaklffbfadghaaGreat

namespace Go.Proofs.YtdaklffbfadghaaGreat
open Go.RowKit HP
set_option linter.unusedVariables false
set_option linter.unusedSimpArgs false
/-! the rows behind a place move up, from the end on: rows above k have moved -/
structure ShUp (m : HM) (T : Nat) (ps : List Int) (L : List (List Int)) (k : Nat) : Prop where
  inv : Inv m
  pcs : Pcs m T ps (L.length + 1)
  low : ∀ j r, j ≤ k → L[j]? = some r → RowIs m T ps j r
  high : ∀ j r, k < j → L[j - 1]? = some r → RowIs m T ps j r
theorem ShUp.step {m m' : HM} {T : Nat} {ps : List Int} {L : List (List Int)} {k : Nat} (S : ShUp m T ps L (k + 1)) {p : Int} {r : List Int} (hk : L[k]? = some r) (hp : ps[(k + 1) / 4]? = some p) (hr : r.length = T)
    (W : Writing m m' p ((((k + 1) % 4 * (8 * T) : Nat)) : Int) r (8 * r.length)) : ShUp m' T ps L k ∧ Fr m m' ps ps := by
  obtain ⟨h1, h2, h3⟩ := W.row hp hr S.pcs.nodup
  refine ⟨⟨W.inv, S.pcs.shape W.shape, fun j q hj hq => h2 j q (by omega) (S.low j q (by omega) hq), fun j q hj hq => ?_⟩, W.fr (List.mem_of_getElem? hp)⟩
  by_cases e : j = k + 1
  · subst e
    rw [Nat.add_sub_cancel, hk] at hq
    obtain rfl := Option.some.inj hq
    exact h1
  · exact h2 j q e (S.high j q (by omega) hq)
theorem ShUp.done {m m' : HM} {T : Nat} {ps : List Int} {L : List (List Int)} {i : Nat} (S : ShUp m T ps L i) (hi : i ≤ L.length) (hl : L.length < 64) {p : Int} {t : List Int} (hp : ps[i / 4]? = some p) (ht : t.length = T)
    (W : Writing m m' p (((i % 4 * (8 * T) : Nat)) : Int) t (8 * t.length)) : Kp m' T ps (insAt L i [t]) ∧ Fr m m' ps ps := by
  obtain ⟨h1, h2, h3⟩ := W.row hp ht S.pcs.nodup
  have hlen : (insAt L i [t]).length = L.length + 1 := insAt_len _ _ _ hi
  refine ⟨⟨by rw [hlen]; exact S.pcs.shape W.shape, by omega, fun j q hq => ?_⟩, W.fr (List.mem_of_getElem? hp)⟩
  rw [insAt_get _ _ _ hi] at hq
  split at hq
  · exact h2 j q (by omega) (S.low j q (by omega) hq)
  · split at hq
    · rename_i c1 c2
      rw [List.length_singleton] at c2
      have e : j = i := by omega
      subst e
      rw [Nat.sub_self] at hq
      obtain rfl := Option.some.inj hq
      exact h1
    · rename_i c1 c2
      rw [List.length_singleton] at c2 hq
      exact h2 j q (by omega) (S.high j q (by omega) hq)
/-! the rows behind a place move down: rows below k have moved -/
structure ShDn (m : HM) (T : Nat) (ps : List Int) (L : List (List Int)) (i k : Nat) : Prop where
  inv : Inv m
  pcs : Pcs m T ps L.length
  low : ∀ j r, j < k → (delAt L i 1)[j]? = some r → RowIs m T ps j r
  high : ∀ j r, k ≤ j → L[j]? = some r → RowIs m T ps j r
theorem ShDn.start {m : HM} {T : Nat} {ps : List Int} {L : List (List Int)} (I : Inv m) (K : Kp m T ps L) {i : Nat} (hi : i < L.length) : ShDn m T ps L i i :=
  ⟨I, K.pcs, fun j r hj hr => K.row j r (by rw [delAt_get _ _ _ (by omega), if_pos hj] at hr; exact hr), fun j r _ hr => K.row j r hr⟩
theorem ShDn.step {m m' : HM} {T : Nat} {ps : List Int} {L : List (List Int)} {i k : Nat} (S : ShDn m T ps L i k) (hik : i ≤ k) {p : Int} {r : List Int} (hk : L[k + 1]? = some r) (hp : ps[k / 4]? = some p) (hr : r.length = T)
    (W : Writing m m' p (((k % 4 * (8 * T) : Nat)) : Int) r (8 * r.length)) : ShDn m' T ps L i (k + 1) ∧ Fr m m' ps ps := by
  obtain ⟨h1, h2, h3⟩ := W.row hp hr S.pcs.nodup
  have hkl := (List.getElem?_eq_some_iff.1 hk).1
  refine ⟨⟨W.inv, S.pcs.shape W.shape, fun j q hj hq => ?_, fun j q hj hq => h2 j q (by omega) (S.high j q (by omega) hq)⟩, W.fr (List.mem_of_getElem? hp)⟩
  by_cases e : j = k
  · subst e
    rw [delAt_get _ _ _ (by omega), if_neg (by omega), hk] at hq
    obtain rfl := Option.some.inj hq
    exact h1
  · exact h2 j q e (S.low j q (by omega) hq)
/-- all of them but the last one are as they are to be -/
theorem ShDn.all {m : HM} {T : Nat} {ps : List Int} {L : List (List Int)} {i n : Nat} (S : ShDn m T ps L i n) (hl : L.length = n + 1) (hi : i < L.length) : ∀ j r, (delAt L i 1)[j]? = some r → RowIs m T ps j r := fun j r hj => by
  have h := (List.getElem?_eq_some_iff.1 hj).1
  rw [delAt_len _ _ _ (by omega)] at h
  exact S.low j r (by omega) hj
/-! how much is handed out -/
def sum2 : List (Int × Int) → Int
  | [] => 0
  | x :: r => x.2 + sum2 r
theorem sum2_used : ∀ l : List PB, sum2 (l.map shape) = used l
  | [] => rfl
  | x :: r => by
    show (x.2.length : Int) + sum2 (r.map shape) = used (x :: r)
    rw [sum2_used r]
    rfl
theorem begins_nodup {size : Int} {l : List PB} (F : Fit size l) : ((l.map shape).map (·.1)).Nodup := by
  rw [List.map_map]
  refine List.pairwise_iff_getElem.2 fun i j hi hj hij => ?_
  rw [List.length_map] at hi hj
  rw [List.getElem_map, List.getElem_map]
  have := (F.lt (List.getElem?_eq_getElem hi) (List.getElem?_eq_getElem hj) hij).1
  show l[i].1 ≠ l[j].1
  omega
end Go.Proofs.YtdaklffbfadghaaGreat

namespace Go.Proofs.YtdaklffbfadghaaGreat
open Go.RowKit HP
set_option linter.unusedVariables false
set_option linter.unusedSimpArgs false
theorem scan_le (p : Int → Bool) (lim step : Int) (hst : 1 ≤ step) : ∀ (f : Nat) (d : Nat) (a0 : Int), p (a0 + d * step) = true → a0 + d * step ≤ lim → d < f → ∃ b, scanF p lim step f a0 = some b ∧ b ≤ a0 + d * step
  | 0, d, a0, _, _, h => by omega
  | f + 1, 0, a0, hp, hl, _ => by
    have e : a0 + (0 : Nat) * step = a0 := by simp
    rw [e] at hp hl ⊢
    unfold scanF
    rw [if_neg (by omega), if_pos hp]
    exact ⟨a0, rfl, Int.le_refl _⟩
  | f + 1, d + 1, a0, hp, hl, h => by
    have hd : 0 ≤ (d : Int) * step := Int.mul_nonneg (by omega) (by omega)
    have e : a0 + ((d + 1 : Nat) : Int) * step = (a0 + step) + (d : Int) * step := by push_cast; rw [Int.add_mul]; omega
    rw [e] at hp hl ⊢
    unfold scanF
    rw [if_neg (by omega)]
    split
    · exact ⟨a0, rfl, by omega⟩
    · exact scan_le p lim step hst f d (a0 + step) hp hl (by omega)
/-- where there is room behind all live blocks, a block is handed out there or before it -/
theorem sure_alloc {m : HM} (I : Inv m) (hk : m.kind = 0) (hf : m.failIn = 0) (hl : m.live.length < 64) {n : Int} (hn : 1 ≤ n) {d : Nat} (hfit : (d : Int) * 8 + n ≤ m.size) (hp : ∀ x ∈ m.live, pend x ≤ (d : Int) * 8) :
    (allocM m n 8).2.2 = 0 ∧ (allocM m n 8).2.1 ≤ (d : Int) * 8 ∧ (allocM m n 8).1.failIn = 0 := by
  have hs := I.fit.sz
  have hz : (sizeB n && alignB 8) = true := by
    unfold sizeB alignB
    simp
    omega
  have hfree : ffP (countM m).size (countM m).live n (0 + (d : Int) * 8) = true := by
    show ffP m.size m.live n (0 + (d : Int) * 8) = true
    unfold ffP freeB
    rw [Bool.and_eq_true]
    refine ⟨by simp; omega, ?_⟩
    rw [Bool.not_eq_true', List.any_eq_false]
    intro x hx
    have := hp x hx
    unfold clash
    simp
    omega
  obtain ⟨b, hb, hle⟩ := scan_le (ffP (countM m).size (countM m).live n) ((countM m).size - n) 8 (by decide) 5000 d 0 hfree (by show _ ≤ m.size - n; omega) (by omega)
  have hr : roomM (countM m) n 8 = some b := by
    unfold roomM
    rw [if_pos (show (countM m).kind = 0 from hk)]
    exact hb
  have e : allocM m n 8 = (noteM (putM (countM m) (b, undefs n.toNat)), b, 0) := by
    unfold allocM
    rw [if_neg (by rw [hz]; decide), if_neg (by omega), hr]
  rw [e]
  refine ⟨rfl, by show b ≤ _; omega, ?_⟩
  show (if m.failIn = 0 then 0 else m.failIn - 1) = 0
  rw [if_pos hf]
/-- a heap with room: what is not the rows' lies below 8 * d, the rows' blocks lie low above it -/
structure Low (m : HM) (T : Nat) (ps : List Int) (d : Nat := 0) : Prop where
  kind : m.kind = 0
  size : m.size = 4096
  failIn : m.failIn = 0
  base : d ≤ 50 ∧ (rest m ps).length ≤ 16 ∧ (∀ x ∈ rest m ps, x.1 + x.2 ≤ ((8 * d : Nat) : Int)) ∧ ∀ j p, ps[j]? = some p → p ≤ ((8 * d + 32 * T * j : Nat) : Int)
theorem len_split {α : Type} (p : α → Bool) : ∀ l : List α, l.length = (l.filter p).length + (l.filter fun x => !p x).length
  | [] => rfl
  | x :: r => by
    have := len_split p r
    cases h : p x <;> simp [h] <;> omega
theorem Low.perm {m : HM} {T n : Nat} {ps : List Int} (P : Pcs m T ps n) (I : Inv m) : ((stretches m).filter fun x => ps.contains x.1).length = ps.length := by
  have hperm : (((stretches m).filter fun x => ps.contains x.1).map (·.1)).Perm ps := by
    refine (List.perm_ext_iff_of_nodup ((begins_nodup I.fit).sublist (List.filter_sublist.map _)) P.nodup).2 fun q => ?_
    constructor
    · intro hq
      obtain ⟨y, hy, rfl⟩ := List.mem_map.1 hq
      have := (List.mem_filter.1 hy).2
      simpa using this
    · intro hq
      exact List.mem_map.2 ⟨_, List.mem_filter.2 ⟨P.has q hq, by simpa using hq⟩, rfl⟩
  have h1 := hperm.length_eq
  rw [List.length_map] at h1
  exact h1
theorem Low.live {m : HM} {T : Nat} {ps : List Int} {n d : Nat} (hr : (rest m ps).length ≤ 16) (hb : ∀ x ∈ rest m ps, x.1 + x.2 ≤ ((8 * d : Nat) : Int)) (hl : ∀ j p, ps[j]? = some p → p ≤ ((8 * d + 32 * T * j : Nat) : Int)) (P : Pcs m T ps n) (I : Inv m) :
    m.live.length ≤ ps.length + 16 ∧ ∀ x ∈ m.live, pend x ≤ ((8 * d + 32 * T * ps.length : Nat) : Int) := by
  constructor
  · have h1 := Low.perm P I
    have h2 := len_split (fun x : Int × Int => ps.contains x.1) (stretches m)
    have h3 : (stretches m).length = m.live.length := by unfold stretches; rw [List.length_map]
    have h4 : (rest m ps).length = ((stretches m).filter fun x => !ps.contains x.1).length := rfl
    omega
  · intro x hx
    by_cases ho : x.1 ∈ ps
    · obtain ⟨j, hj, e⟩ := List.getElem_of_mem ho
      have h1 := hl j _ (List.getElem?_eq_getElem hj)
      obtain ⟨y, hy, e2⟩ := List.mem_map.1 (P.has _ ho)
      unfold shape at e2
      injection e2 with e3 e4
      obtain rfl := at_uniq I.fit hy hx e3
      have h2 : 32 * T * (j + 1) ≤ 32 * T * ps.length := Nat.mul_le_mul_left _ hj
      rw [Nat.mul_add] at h2
      unfold pend
      omega
    · have h1 := hb (shape x) (mem_rest.2 ⟨List.mem_map_of_mem hx, ho⟩)
      have h2 : (shape x).1 + (shape x).2 = pend x := rfl
      omega
theorem Low.grow {m : HM} {T : Nat} {ps : List Int} {n d : Nat} (h : Low m T ps d) (P : Pcs m T ps n) (I : Inv m) (hn : n < 64) (h4 : n % 4 = 0) (hT : 1 ≤ T ∧ T ≤ 3) :
    (allocM m ((32 * T : Nat) : Int) 8).2.2 = 0 ∧ Low (allocM m ((32 * T : Nat) : Int) 8).1 T (ps ++ [(allocM m ((32 * T : Nat) : Int) 8).2.1]) d := by
  obtain ⟨hd, b1, b2, b3⟩ := h.base
  obtain ⟨l1, l2⟩ := Low.live b1 b2 b3 P I
  have hl := P.len
  have e8 : ((d + 4 * T * ps.length : Nat) : Int) * 8 = ((8 * d + 32 * T * ps.length : Nat) : Int) := by
    have : 4 * T * ps.length * 8 = 32 * T * ps.length := by rw [Nat.mul_comm _ 8, ← Nat.mul_assoc, ← Nat.mul_assoc]
    omega
  have hb : 32 * T * ps.length ≤ 96 * ps.length := Nat.mul_le_mul_right _ (by omega)
  obtain ⟨s1, s2, s3⟩ := sure_alloc I h.kind h.failIn (by omega) (n := ((32 * T : Nat) : Int)) (by omega) (d := d + 4 * T * ps.length) (by rw [e8, h.size]; omega) (fun x hx => by rw [e8]; exact l2 x hx)
  obtain ⟨h1, h2, h3, -, h4, h5, h6, h7, h8, h9, h10, h11, h12, h13⟩ := alloc_yes I s1
  refine ⟨s1, h12.trans h.kind, h9.trans h.size, s3, hd, by rw [h4 ps]; exact b1, by rw [h4 ps]; exact b2, fun j p hp => ?_⟩
  rw [List.getElem?_append] at hp
  split at hp
  · exact b3 j p hp
  · rename_i hj
    obtain ⟨hz, e⟩ := List.getElem?_eq_some_iff.1 hp
    simp at hz e
    have hjj : j = ps.length := by omega
    subst hjj
    rw [e8] at s2
    rw [← e]
    exact s2
/-- stays low -/
theorem Low.same {m m' : HM} {T d : Nat} {ps : List Int} (h : Low m T ps d) (F : Fr m m' ps ps) (hf : m'.failIn = m.failIn) : Low m' T ps d := ⟨F.kind.trans h.kind, F.size.trans h.size, hf.trans h.failIn, by rw [F.rest]; exact h.base⟩
theorem Low.drop {m m' : HM} {T d : Nat} {qs : List Int} {p : Int} (h : Low m T (qs ++ [p]) d) (F : Fr m m' (qs ++ [p]) qs) (hf : m'.failIn = m.failIn) : Low m' T qs d := by
  obtain ⟨hd, b1, b2, b3⟩ := h.base
  refine ⟨F.kind.trans h.kind, F.size.trans h.size, hf.trans h.failIn, hd, by rw [F.rest]; exact b1, by rw [F.rest]; exact b2, fun j q hq => b3 j q (by rw [List.getElem?_append_left (List.getElem?_eq_some_iff.1 hq).1]; exact hq)⟩
/-- a heap of which nothing is taken -/
theorem Low.zero {m : HM} (hk : m.kind = 0) (hs : m.size = 4096) (hf : m.failIn = 0) (hl : m.live = []) (T : Nat) : Low m T [] := by
  have hr : Go.Proofs.YtdaklffbfadghaaGreat.rest m [] = [] := by unfold Go.Proofs.YtdaklffbfadghaaGreat.rest stretches; rw [hl]; rfl
  exact ⟨hk, hs, hf, by omega, by rw [hr]; exact Nat.zero_le _, by rw [hr]; intro x hx; (cases hx), fun j p hp => by cases hp⟩
/-- other rows in the same heap: what these have taken lies below -/
theorem Low.other {m : HM} {T T2 n : Nat} {ps : List Int} (h : Low m T ps) (P : Pcs m T ps n) (I : Inv m) (hb : 4 * T * ps.length ≤ 50) (hl : ps.length ≤ 16) : Low m T2 [] (4 * T * ps.length) := by
  obtain ⟨hd, b1, b2, b3⟩ := h.base
  obtain ⟨l1, l2⟩ := Low.live b1 b2 b3 P I
  have hr : Go.Proofs.YtdaklffbfadghaaGreat.rest m ps = [] := by
    cases hc : Go.Proofs.YtdaklffbfadghaaGreat.rest m ps with
    | nil => rfl
    | cons x t =>
      exfalso
      have hx : x ∈ Go.Proofs.YtdaklffbfadghaaGreat.rest m ps := by rw [hc]; exact List.mem_cons_self
      have h1 := b2 x hx
      obtain ⟨y, hy, rfl⟩ := List.mem_map.1 (mem_rest.1 hx).1
      have h2 := I.fit.inn y hy
      unfold shape at h1
      dsimp only at h1
      omega
  have hlen : m.live.length ≤ ps.length := by
    have h2 := len_split (fun x : Int × Int => ps.contains x.1) (stretches m)
    have h3 : (stretches m).length = m.live.length := by unfold stretches; rw [List.length_map]
    have h4 : (Go.Proofs.YtdaklffbfadghaaGreat.rest m ps).length = ((stretches m).filter fun x => !ps.contains x.1).length := rfl
    rw [hr, List.length_nil] at h4
    have h1 := Low.perm P I
    omega
  refine ⟨h.kind, h.size, h.failIn, hb, ?_, fun x hx => ?_, fun j p hp => by cases hp⟩
  · have h1 : (Go.Proofs.YtdaklffbfadghaaGreat.rest m []).length ≤ (stretches m).length := List.length_filter_le _ _
    have h3 : (stretches m).length = m.live.length := by unfold stretches; rw [List.length_map]
    omega
  · obtain ⟨y, hy, rfl⟩ := List.mem_map.1 (mem_rest.1 hx).1
    have h1 := l2 y hy
    have h2 : (shape y).1 + (shape y).2 = pend y := rfl
    have e8 : 8 * (4 * T * ps.length) = 32 * T * ps.length := by rw [← Nat.mul_assoc, ← Nat.mul_assoc]
    omega
end Go.Proofs.YtdaklffbfadghaaGreat

namespace Go.Proofs.YtdaklffbfadghaaGreat
open Go.RowKit HP
set_option linter.unusedVariables false
set_option linter.unusedSimpArgs false
/-- a row is taken out before another one: its number is less, or it was pushed before -/
def bf (a b : List Int) : Bool := decide (a.getD 0 0 < b.getD 0 0) || (decide (a.getD 0 0 = b.getD 0 0) && decide (a.getD 2 0 < b.getD 2 0))
def le (a b : List Int) : Prop := bf b a = false
theorem bf_iff {a b : List Int} : bf a b = true ↔ a.getD 0 0 < b.getD 0 0 ∨ (a.getD 0 0 = b.getD 0 0 ∧ a.getD 2 0 < b.getD 2 0) := by
  unfold bf
  rw [Bool.or_eq_true, Bool.and_eq_true, decide_eq_true_eq, decide_eq_true_eq, decide_eq_true_eq]
theorem le_iff {a b : List Int} : le a b ↔ a.getD 0 0 < b.getD 0 0 ∨ (a.getD 0 0 = b.getD 0 0 ∧ a.getD 2 0 ≤ b.getD 2 0) := by
  unfold le
  rw [← Bool.not_eq_true, bf_iff]
  omega
theorem le_trans {a b c : List Int} (h : le a b) (k : le b c) : le a c := by
  rw [le_iff] at *
  omega
theorem le_rfl (a : List Int) : le a a := by
  rw [le_iff]
  omega
theorem le_of_bf {a b : List Int} (h : bf a b = true) : le a b := by
  rw [le_iff]
  rw [bf_iff] at h
  omega
/-- row j -/
def rw_ (L : List (List Int)) (j : Nat) : List Int := L.getD j []
theorem rw_get {L : List (List Int)} {j : Nat} {r : List Int} (h : L[j]? = some r) : rw_ L j = r := by
  unfold rw_
  rw [List.getD_eq_getElem?_getD, h]
  rfl
theorem get_rw {L : List (List Int)} {j : Nat} (h : j < L.length) : L[j]? = some (rw_ L j) := by
  unfold rw_
  rw [List.getD_eq_getElem?_getD, List.getElem?_eq_getElem h]
  rfl
def par (j : Nat) : Nat := (j - 1) / 2
/-- in order: no row is before the one above it -/
def Ord (L : List (List Int)) : Prop := ∀ j, 0 < j → j < L.length → le (rw_ L (par j)) (rw_ L j)
theorem Ord.nil : Ord [] := fun j _ h => by simp at h
theorem Ord.root {L : List (List Int)} (h : Ord L) : ∀ (n j : Nat), j ≤ n → j < L.length → le (rw_ L 0) (rw_ L j)
  | n, 0, _, _ => le_rfl _
  | n + 1, j + 1, hn, hj => by
    have hp : par (j + 1) ≤ n := by unfold par; omega
    exact le_trans (h.root n (par (j + 1)) hp (by unfold par; omega)) (h (j + 1) (by omega) hj)
/-- two rows changed over -/
def swp (L : List (List Int)) (i k : Nat) : List (List Int) := (L.set i (rw_ L k)).set k (rw_ L i)
theorem swp_len (L : List (List Int)) (i k : Nat) : (swp L i k).length = L.length := by unfold swp; simp
theorem swp_rw {L : List (List Int)} {i k : Nat} (hi : i < L.length) (hk : k < L.length) (hne : i ≠ k) (j : Nat) : rw_ (swp L i k) j = if j = k then rw_ L i else if j = i then rw_ L k else rw_ L j := by
  unfold swp
  conv => lhs; unfold rw_
  rw [List.getD_eq_getElem?_getD, List.getElem?_set, List.getElem?_set, List.length_set]
  by_cases h1 : j = k
  · subst h1
    rw [if_pos rfl, if_pos hk, if_pos rfl]
    rfl
  · rw [if_neg (fun e => h1 e.symm), if_neg h1]
    by_cases h2 : j = i
    · subst h2
      rw [if_pos rfl, if_pos hi, if_pos rfl]
      rfl
    · rw [if_neg (fun e => h2 e.symm), if_neg h2, ← List.getD_eq_getElem?_getD]
      rfl
theorem swp_perm {L : List (List Int)} {i k : Nat} (hi : i < L.length) (hk : k < L.length) : (swp L i k).Perm L := by
  have h := Array.swap_perm (xs := L.toArray) (i := i) (j := k) (by simpa using hi) (by simpa using hk)
  have h2 := h.toList
  rw [Array.toList_swap] at h2
  have e1 : rw_ L i = L[i] := rw_get (List.getElem?_eq_getElem hi)
  have e2 : rw_ L k = L[k] := rw_get (List.getElem?_eq_getElem hk)
  unfold swp
  rw [e1, e2]
  simpa using h2
/-! a row goes up -/
structure UpI (L : List (List Int)) (i : Nat) : Prop where
  lt : i < L.length
  but : ∀ j, 0 < j → j < L.length → j ≠ i → le (rw_ L (par j)) (rw_ L j)
  skip : 0 < i → ∀ c, 0 < c → c < L.length → par c = i → le (rw_ L (par i)) (rw_ L c)
theorem UpI.top {L : List (List Int)} (h : UpI L 0) : Ord L := fun j h0 hj => h.but j h0 hj (by omega)
theorem UpI.stop {L : List (List Int)} {i : Nat} (h : UpI L i) (hb : bf (rw_ L i) (rw_ L (par i)) = false) : Ord L := fun j h0 hj => by
  by_cases e : j = i
  · subst e; exact hb
  · exact h.but j h0 hj e
theorem UpI.step {L : List (List Int)} {i : Nat} (h : UpI L i) (h0 : 0 < i) (hb : bf (rw_ L i) (rw_ L (par i)) = true) : UpI (swp L i (par i)) (par i) := by
  have hi := h.lt
  have hpl : par i < i := by unfold par; omega
  have hrw := swp_rw (L := L) hi (show par i < L.length by omega) (by omega)
  have hle := le_of_bf hb
  refine ⟨by rw [swp_len]; omega, fun j hj0 hj hne => ?_, fun hp0 c hc0 hc hpc => ?_⟩
  · rw [swp_len] at hj
    have hpj : par j < j := by unfold par; omega
    rw [hrw, hrw, if_neg hne]
    by_cases e1 : j = i
    · subst e1
      rw [if_pos rfl, if_pos rfl]
      exact hle
    · rw [if_neg e1]
      by_cases e2 : par j = par i
      · rw [if_pos e2]
        have := h.but j hj0 hj e1
        rw [e2] at this
        exact le_trans hle this
      · rw [if_neg e2]
        by_cases e3 : par j = i
        · rw [if_pos e3]
          exact h.skip h0 j hj0 hj e3
        · rw [if_neg e3]
          exact h.but j hj0 hj e1
  · rw [swp_len] at hc
    have hpc2 : par c < c := by unfold par; omega
    have hpp : par (par i) < par i := by unfold par at *; omega
    rw [hrw, hrw, if_neg (show par (par i) ≠ par i by omega), if_neg (show par (par i) ≠ i by omega), if_neg (show c ≠ par i by omega)]
    have hu := h.but (par i) hp0 (by omega) (by omega)
    by_cases e1 : c = i
    · rw [if_pos e1]
      exact hu
    · rw [if_neg e1]
      have := h.but c hc0 hc e1
      rw [hpc] at this
      exact le_trans hu this
/-- a row laid at the end -/
theorem UpI.start {L : List (List Int)} (h : Ord L) (r : List Int) : UpI (L ++ [r]) L.length := by
  have hr : ∀ j, j < L.length → rw_ (L ++ [r]) j = rw_ L j := fun j hj => by
    unfold rw_
    rw [List.getD_eq_getElem?_getD, List.getElem?_append_left hj, ← List.getD_eq_getElem?_getD]
  refine ⟨by simp, fun j h0 hj hne => ?_, fun _ c h0 hc hp => ?_⟩
  · rw [List.length_append, List.length_singleton] at hj
    have hpj : par j < j := by unfold par; omega
    rw [hr _ (by omega), hr _ (by omega)]
    exact h j h0 (by omega)
  · rw [List.length_append, List.length_singleton] at hc
    have hpc : par c < c := by unfold par; omega
    omega
/-! a row goes down -/
structure DnI (L : List (List Int)) (i : Nat) : Prop where
  but : ∀ j, 0 < j → j < L.length → par j ≠ i → le (rw_ L (par j)) (rw_ L j)
  skip : 0 < i → ∀ c, 0 < c → c < L.length → par c = i → le (rw_ L (par i)) (rw_ L c)
theorem DnI.leaf {L : List (List Int)} {i : Nat} (h : DnI L i) (hn : L.length ≤ 2 * i + 1) : Ord L := fun j h0 hj => h.but j h0 hj (by unfold par; omega)
/-- k is the lesser one of the two below i -/
def Lesser (L : List (List Int)) (i k : Nat) : Prop := 0 < k ∧ par k = i ∧ k < L.length ∧ ∀ c, 0 < c → c < L.length → par c = i → le (rw_ L k) (rw_ L c)
theorem lesser_of {L : List (List Int)} {i : Nat} (h : 2 * i + 1 < L.length) : Lesser L i (if 2 * i + 2 < L.length ∧ bf (rw_ L (2 * i + 2)) (rw_ L (2 * i + 1)) = true then 2 * i + 2 else 2 * i + 1) := by
  split
  · rename_i hc
    refine ⟨by omega, by unfold par; omega, hc.1, fun c h0 hc2 hp => ?_⟩
    have : c = 2 * i + 1 ∨ c = 2 * i + 2 := by unfold par at hp; omega
    rcases this with rfl | rfl
    · exact le_of_bf hc.2
    · exact le_rfl _
  · rename_i hc
    refine ⟨by omega, by unfold par; omega, h, fun c h0 hc2 hp => ?_⟩
    have : c = 2 * i + 1 ∨ c = 2 * i + 2 := by unfold par at hp; omega
    rcases this with rfl | rfl
    · exact le_rfl _
    · unfold le
      rw [← Bool.not_eq_true]
      exact fun e => hc ⟨hc2, e⟩
theorem DnI.stop {L : List (List Int)} {i k : Nat} (h : DnI L i) (hk : Lesser L i k) (hb : bf (rw_ L k) (rw_ L i) = false) : Ord L := fun j h0 hj => by
  by_cases e : par j = i
  · rw [e]
    exact le_trans (show le (rw_ L i) (rw_ L k) from hb) (hk.2.2.2 j h0 hj e)
  · exact h.but j h0 hj e
theorem DnI.step {L : List (List Int)} {i k : Nat} (h : DnI L i) (hk : Lesser L i k) (hb : bf (rw_ L k) (rw_ L i) = true) : DnI (swp L k i) k := by
  obtain ⟨hk0, hkp, hkl, hkm⟩ := hk
  have hik : i < k := by rw [← hkp]; unfold par; omega
  have hrw := swp_rw (L := L) hkl (show i < L.length by omega) (by omega)
  have hle := le_of_bf hb
  refine ⟨fun j h0 hj hne => ?_, fun _ c h0 hc hp => ?_⟩
  · rw [swp_len] at hj
    have hpj : par j < j := by unfold par; omega
    rw [hrw, hrw]
    by_cases e1 : par j = i
    · rw [if_pos e1]
      have hji : j ≠ i := by omega
      rw [if_neg hji]
      by_cases e2 : j = k
      · rw [if_pos e2]; exact hle
      · rw [if_neg e2]; exact hkm j h0 hj e1
    · rw [if_neg e1, if_neg hne]
      have hjk : j ≠ k := fun e => e1 (by rw [e]; exact hkp)
      by_cases e2 : j = i
      · rw [if_pos e2]
        subst e2
        exact h.skip h0 k hk0 hkl hkp
      · rw [if_neg e2, if_neg hjk]
        exact h.but j h0 hj e1
  · rw [swp_len] at hc
    have hpc : par c < c := by unfold par; omega
    rw [hrw, hrw, hkp, if_pos rfl, if_neg (show c ≠ i by omega), if_neg (show c ≠ k by omega)]
    have := h.but c h0 hc (by omega)
    rw [hp] at this
    exact this
end Go.Proofs.YtdaklffbfadghaaGreat

namespace Go.Proofs.YtdaklffbfadghaaGreat
open Go.RowKit HP
set_option linter.unusedVariables false
set_option linter.unusedSimpArgs false
def nw (r : List Int) : Int × Int := (r.getD 0 0, r.getD 1 0)
def tm (r : List Int) : Int := r.getD 2 0
structure QSim (L : List (List Int)) (R : List (Int × Int)) (t : Int) : Prop where
  ex : ∃ Ts : List (List Int), Ts.map nw = R ∧ L.Perm Ts ∧ (Ts.Pairwise fun a b => tm a < tm b) ∧ ∀ r ∈ Ts, tm r < t
theorem QSim.nil (t : Int) : QSim [] [] t := ⟨[], rfl, List.Perm.nil, List.Pairwise.nil, fun r h => by cases h⟩
theorem QSim.len {L : List (List Int)} {R : List (Int × Int)} {t : Int} (h : QSim L R t) : L.length = R.length := by
  obtain ⟨Ts, h1, h2, -⟩ := h.ex
  rw [← h1, List.length_map]
  exact h2.length_eq
theorem QSim.perm {L M : List (List Int)} {R : List (Int × Int)} {t : Int} (h : QSim L R t) (hp : M.Perm L) : QSim M R t := by
  obtain ⟨Ts, h1, h2, h3, h4⟩ := h.ex
  exact ⟨Ts, h1, hp.trans h2, h3, h4⟩
theorem QSim.push {L : List (List Int)} {R : List (Int × Int)} {t : Int} (h : QSim L R t) (n what : Int) : QSim (L ++ [[n, what, t]]) (R ++ [(n, what)]) (t + 1) := by
  obtain ⟨Ts, h1, h2, h3, h4⟩ := h.ex
  refine ⟨Ts ++ [[n, what, t]], by rw [List.map_append, h1]; rfl, h2.append_right _, List.pairwise_append.2 ⟨h3, by simp, fun a ha b hb => ?_⟩, fun r hr => ?_⟩
  · rw [List.mem_singleton] at hb
    subst hb
    exact h4 a ha
  · rcases List.mem_append.1 hr with hr | hr
    · have := h4 r hr
      omega
    · rw [List.mem_singleton] at hr
      subst hr
      show t < t + 1
      omega
/-- the place of the number that comes first -/
structure IsLeast (N : List Int) (i : Nat) (x : Int) : Prop where
  get : N[i]? = some x
  min : ∀ (j : Nat) (y : Int), N[j]? = some y → x ≤ y
  first : ∀ (j : Nat) (y : Int), j < i → N[j]? = some y → x < y
theorem IsLeast.uniq {N : List Int} {i j : Nat} {x y : Int} (h : IsLeast N i x) (k : IsLeast N j y) : i = j := by
  have h1 := h.min j y k.get
  have h2 := k.min i x h.get
  rcases Nat.lt_trichotomy i j with e | e | e
  · have := k.first i x e h.get
    omega
  · exact e
  · have := h.first j y e k.get
    omega
theorem QSim.root {L : List (List Int)} {R : List (Int × Int)} {t : Int} (h : QSim L R t) (ho : Ord L) (hne : 0 < L.length) : ∃ i, R[i]? = some (nw (rw_ L 0)) ∧ IsLeast (R.map (·.1)) i (nw (rw_ L 0)).1 ∧ ∀ M, (rw_ L 0 :: M).Perm L → QSim M (delAt R i 1) t := by
  obtain ⟨Ts, h1, h2, h3, h4⟩ := h.ex
  have hx0 : L[0]? = some (rw_ L 0) := get_rw hne
  have hmem : rw_ L 0 ∈ Ts := h2.mem_iff.1 (List.mem_of_getElem? hx0)
  obtain ⟨i, hi, e⟩ := List.getElem_of_mem hmem
  have hmin : ∀ r ∈ Ts, le (rw_ L 0) r := fun r hr => by
    obtain ⟨j, hj, e2⟩ := List.getElem_of_mem (h2.mem_iff.2 hr)
    have := ho.root j j (Nat.le_refl _) hj
    rw [rw_get (List.getElem?_eq_getElem hj), e2] at this
    exact this
  have hlt := List.pairwise_iff_getElem.1 h3
  have hgi : (R.map (·.1))[i]? = some (nw (rw_ L 0)).1 := by
    rw [← h1, List.getElem?_map, List.getElem?_map, List.getElem?_eq_getElem hi, e]
    rfl
  refine ⟨i, ?_, ⟨hgi, fun j y hy => ?_, fun j y hj hy => ?_⟩, fun M hM => ⟨delAt Ts i 1, ?_, ?_, h3.sublist (delAt_sub _ _ _), fun r hr => h4 r (delAt_mem hr)⟩⟩
  · rw [← h1, List.getElem?_map, List.getElem?_eq_getElem hi, e]
    rfl
  · rw [← h1, List.getElem?_map, List.getElem?_map] at hy
    cases hr : Ts[j]? with
    | none => rw [hr] at hy; cases hy
    | some r =>
      rw [hr] at hy
      obtain rfl := Option.some.inj hy
      have := le_iff.1 (hmin r (List.mem_of_getElem? hr))
      show (rw_ L 0).getD 0 0 ≤ r.getD 0 0
      omega
  · rw [← h1, List.getElem?_map, List.getElem?_map] at hy
    cases hr : Ts[j]? with
    | none => rw [hr] at hy; cases hy
    | some r =>
      rw [hr] at hy
      obtain rfl := Option.some.inj hy
      obtain ⟨hjl, e2⟩ := List.getElem?_eq_some_iff.1 hr
      have h5 := le_iff.1 (hmin r (List.mem_of_getElem? hr))
      have h6 := hlt j i hjl hi hj
      rw [e, e2] at h6
      unfold tm at h6
      show (rw_ L 0).getD 0 0 < r.getD 0 0
      omega
  · rw [← h1, delAt_map]
  · have hT : Ts.Perm (rw_ L 0 :: delAt Ts i 1) := by
      have e3 : Ts = Ts.take i ++ rw_ L 0 :: Ts.drop (i + 1) := by
        have := List.getElem_cons_drop hi
        rw [e] at this
        rw [this, List.take_append_drop]
      conv => lhs; rw [e3]
      exact List.perm_middle
    exact List.Perm.cons_inv ((hM.trans h2).trans hT)
/-- the first row gone, the last one in its place -/
def popL (L : List (List Int)) : List (List Int) := (L.set 0 (rw_ L (L.length - 1))).take (L.length - 1)
theorem popL_len (L : List (List Int)) : (popL L).length = L.length - 1 := by
  unfold popL
  rw [List.length_take, List.length_set]
  omega
theorem popL_perm {L : List (List Int)} (hne : 0 < L.length) : (rw_ L 0 :: popL L).Perm L := by
  cases L with
  | nil => simp at hne
  | cons x M =>
    have e0 : rw_ (x :: M) 0 = x := rfl
    rw [e0]
    refine List.Perm.cons x ?_
    unfold popL
    rw [List.length_cons, Nat.add_sub_cancel, List.set_cons_zero]
    cases hM : M.reverse with
    | nil =>
      have : M = [] := by simpa using hM
      subst this
      exact List.Perm.nil
    | cons y P =>
      have e1 : M = P.reverse ++ [y] := by
        have := congrArg List.reverse hM
        simpa using this
      have e2 : rw_ (x :: M) M.length = y := by
        unfold rw_
        rw [List.getD_eq_getElem?_getD, e1]
        simp
      rw [e2, e1]
      simp only [List.length_append, List.length_singleton, List.take_succ_cons]
      rw [List.take_left' rfl]
      exact (List.perm_append_comm (l₁ := [y]) (l₂ := P.reverse))
theorem popL_rw {L : List (List Int)} {j : Nat} (h0 : 0 < j) (hj : j < L.length - 1) : rw_ (popL L) j = rw_ L j := by
  unfold popL
  conv => lhs; unfold rw_
  rw [List.getD_eq_getElem?_getD, List.getElem?_take, if_pos hj, List.getElem?_set_ne (by omega), ← List.getD_eq_getElem?_getD]
  rfl
theorem popL_dn {L : List (List Int)} (h : Ord L) : DnI (popL L) 0 := by
  refine ⟨fun j h0 hj hne => ?_, fun h0 => by omega⟩
  rw [popL_len] at hj
  have hpj : par j < j := by unfold par; omega
  rw [popL_rw (by omega) (by omega), popL_rw h0 hj]
  exact h j h0 (by omega)
end Go.Proofs.YtdaklffbfadghaaGreat

namespace Go.Proofs.YtdaklffbfadghaaGreat
open Go.RowKit HP
set_option linter.unusedVariables false
set_option linter.unusedSimpArgs false
theorem Holds.same {m m' : HM} (h : m'.live = m.live) {bg at_ v : Int} (H : Holds m bg at_ v) : Holds m' bg at_ v := H.live fun x hx _ => by rw [h]; exact hx
theorem Low.count {m m' : HM} {T d : Nat} {ps : List Int} (h : Low m T ps d) (hl : m'.live = m.live) (hs : m'.size = m.size) (hk : m'.kind = m.kind) (hf : m'.failIn = 0) : Low m' T ps d :=
  ⟨hk.trans h.kind, hs.trans h.size, hf, by have := h.base; unfold Go.Proofs.YtdaklffbfadghaaGreat.rest stretches at this ⊢; rw [hl]; exact this⟩
/-- room was made for one row more, or not -/
structure Grew (m m' : HM) (T : Nat) (ps qs : List Int) (n : Nat) (ok : Bool) : Prop where
  inv : Inv m'
  fr : Fr m m' ps qs
  yes : ok = true → n < 64 ∧ Pcs m' T qs (n + 1)
  no : ok = false → qs = ps ∧ Pcs m' T ps n
  rows : ∀ j r, RowIs m T ps j r → RowIs m' T qs j r
  full : n = 64 → ok = false ∧ m'.calls = m.calls
  calls : m.calls ≤ m'.calls ∧ m'.calls ≤ m.calls + 1
  low : ∀ d, Low m T ps d → Low m' T qs d ∧ (n < 16 → ok = true)
theorem grew_full {m : HM} {T : Nat} {ps : List Int} (I : Inv m) (P : Pcs m T ps 64) : Grew m m T ps ps 64 false :=
  ⟨I, .refl _ _, fun h => (by cases h), fun _ => ⟨rfl, P⟩, fun _ _ h => h, fun _ => ⟨rfl, rfl⟩, ⟨Int.le_refl _, by omega⟩, fun d h => ⟨h, fun e => by omega⟩⟩
theorem grew_same {m : HM} {T : Nat} {ps : List Int} {n : Nat} (I : Inv m) (P : Pcs m T ps n) (hn : n < 64) (h : n % 4 ≠ 0) : Grew m m T ps ps n true :=
  ⟨I, .refl _ _, fun _ => ⟨hn, grow_same P h⟩, fun h => (by cases h), fun _ _ h => h, fun e => (by omega), ⟨Int.le_refl _, by omega⟩, fun d h => ⟨h, fun _ => rfl⟩⟩
theorem grew_yes {m : HM} {T : Nat} {ps : List Int} {n : Nat} (I : Inv m) (P : Pcs m T ps n) (hn : n < 64) (h : n % 4 = 0) (hT : 1 ≤ T ∧ T ≤ 3) (hal : (allocM m ((32 * T : Nat) : Int) 8).2.2 = 0) :
    Grew m (allocM m ((32 * T : Nat) : Int) 8).1 T ps (ps ++ [(allocM m ((32 * T : Nat) : Int) 8).2.1]) n true := by
  obtain ⟨h1, h2, h3⟩ := grow_new I P h hal
  obtain ⟨_, _, _, _, _, _, a1, _⟩ := alloc_yes I hal
  refine ⟨alloc_inv I _ _, h2, fun _ => ⟨hn, h1⟩, fun h => (by cases h), h3, fun e => (by omega), ⟨by omega, by omega⟩, fun d hL => ⟨?_, fun _ => rfl⟩⟩
  · exact (hL.grow P I hn h hT).2
theorem grew_no {m : HM} {T : Nat} {ps : List Int} {n : Nat} (I : Inv m) (P : Pcs m T ps n) (hn : n < 64) (h : n % 4 = 0) (hT : 1 ≤ T ∧ T ≤ 3) (hal : ¬ (allocM m ((32 * T : Nat) : Int) 8).2.2 = 0) :
    Grew m (allocM m ((32 * T : Nat) : Int) 8).1 T ps ps n false := by
  obtain ⟨h1, h2, h3⟩ := alloc_no hal
  have hst : stretches (allocM m ((32 * T : Nat) : Int) 8).1 = stretches m := by unfold stretches; rw [h1]
  have hcf : m.calls ≤ (allocM m ((32 * T : Nat) : Int) 8).1.calls ∧ (allocM m ((32 * T : Nat) : Int) 8).1.calls ≤ m.calls + 1 := by
    unfold allocM
    split
    · exact ⟨Int.le_refl _, by show m.calls ≤ m.calls + 1; omega⟩
    · split
      · exact ⟨by show m.calls ≤ m.calls + 1; omega, Int.le_refl _⟩
      · split
        · exact ⟨by show m.calls ≤ m.calls + 1; omega, Int.le_refl _⟩
        · exact ⟨by show m.calls ≤ m.calls + 1; omega, Int.le_refl _⟩
  refine ⟨alloc_inv I _ _, ⟨h2, h3, by unfold Go.Proofs.YtdaklffbfadghaaGreat.rest; rw [hst], fun _ _ _ _ H => H.same h1, fun p hp => .inl hp⟩, fun e => (by cases e), fun _ => ⟨rfl, P.shape hst⟩, fun j r hr => ?_, fun e => (by omega), hcf, fun d hL => ⟨?_, fun h16 => absurd (hL.grow P I hn h hT).1 hal⟩⟩
  · obtain ⟨p, hp, hl, hR⟩ := hr
    exact ⟨p, hp, hl, fun c hc => (hR c hc).same h1⟩
  · refine hL.count h1 h2 h3 ?_
    unfold allocM
    split
    · exact hL.failIn
    · split
      · show (if m.failIn = 0 then 0 else m.failIn - 1) = 0
        rw [if_pos hL.failIn]
      · split
        · show (if m.failIn = 0 then 0 else m.failIn - 1) = 0
          rw [if_pos hL.failIn]
        · show (if m.failIn = 0 then 0 else m.failIn - 1) = 0
          rw [if_pos hL.failIn]
theorem Grew.up {m m' : HM} {T : Nat} {ps qs : List Int} {L : List (List Int)} (K : Kp m T ps L) (G : Grew m m' T ps qs L.length true) : ShUp m' T qs L L.length :=
  ⟨G.inv, (G.yes rfl).2, fun j r _ hr => G.rows j r (K.row j r hr), fun j r hj hr => by have := (List.getElem?_eq_some_iff.1 hr).1; omega⟩
theorem Grew.still {m m' : HM} {T : Nat} {ps qs : List Int} {L : List (List Int)} (K : Kp m T ps L) (G : Grew m m' T ps qs L.length false) : Kp m' T ps L := by
  obtain ⟨e, P⟩ := G.no rfl
  subst e
  exact ⟨P, K.len, fun j r hr => G.rows j r (K.row j r hr)⟩
end Go.Proofs.YtdaklffbfadghaaGreat

namespace Go.Proofs.YtdaklffbfadghaaGreat
open Go.RowKit HP
set_option linter.unusedVariables false
set_option linter.unusedSimpArgs false
/-- of the world w, in which h was the heap, nothing has turned but the heap and the blocks of S; the heap is m now, and is not held -/
def HS (S : Nat → Prop) (w : World) (h : Hp) (m : HM) (W : World) : Prop :=
  ∃ h' : Hp, HpR W h' ∧ h'.blk = h.blk ∧ h'.mu = 0 ∧ h'.m = m ∧ Turn (fun b => h.fp b ∨ S b) w W ∧ (∀ b, h'.fp b → h.fp b ∨ w.heap.size ≤ b) ∧ ∀ b, S b → b < w.heap.size ∧ ¬ h.fp b
section
variable {S : Nat → Prop} {w W W' : World} {h : Hp} {m : HM}
theorem HS.start (H : HpR w h) (hmu : h.mu = 0) (hS : ∀ b, S b → b < w.heap.size ∧ ¬ h.fp b) : HS S w h h.m w := ⟨h, H, rfl, hmu, rfl, .refl _ _, fun b hb => .inl hb, hS⟩
theorem HS.q (X : HS S w h m W) (hq : Q W W') : HS S w h m W' := by
  obtain ⟨h', h1, h2, h3, h4, h5, h6, h7⟩ := X
  exact ⟨h', h1.q hq, h2, h3, h4, h5.q hq, h6, h7⟩
theorem HS.apart (X : HS S w h m W) {b : Nat} (hb : S b) : b < W.heap.size := by
  obtain ⟨h', h1, h2, h3, h4, h5, h6, h7⟩ := X
  exact Nat.lt_of_lt_of_le (h7 b hb).1 h5.size
theorem HS.set (X : HS S w h m W) (p : Addr) (hb : S p.block) (u : Value) : HS S w h m (W.setCell p u) := by
  obtain ⟨h', h1, h2, h3, h4, h5, h6, h7⟩ := X
  have hn : ∀ b, h'.fp b → b ≠ p.block := fun b hf e => by
    subst e
    rcases h6 _ hf with e | e
    · exact (h7 _ hb).2 e
    · have := (h7 _ hb).1
      omega
  exact ⟨h', h1.same fun b hf => heap_setCell_other _ _ _ _ (hn b hf), h2, h3, h4, h5.set (.inr hb) u, h6, h7⟩
/-- a call has acted on the heap -/
theorem HS.did {h1 h2 : Hp} {m2 : HM} (hT : Turn (fun b => h.fp b ∨ S b) w W) (hf : ∀ b, h1.fp b → h.fp b ∨ w.heap.size ≤ b) (hS : ∀ b, S b → b < w.heap.size ∧ ¬ h.fp b) (hb : h1.blk = h.blk) (D : Did W h1 W' h2) (hmu : h2.mu = 0) (hm : h2.m = m2) : HS S w h m2 W' :=
  ⟨h2, D.rep, D.blk.trans hb, hmu, hm, hT.trans D.turn fun i hi e => by
    rcases hf i e with e | e
    · exact .inl e
    · omega, fun b e => by
    rcases D.fp b e with e | e
    · exact hf b e
    · exact .inr (Nat.le_trans hT.size e), hS⟩
/-- what a block that is neither the heap's nor of S holds -/
theorem HS.block (X : HS S w h m W) {b : Nat} (hb : b < w.heap.size) (h1 : ¬ h.fp b) (h2 : ¬ S b) : W.heap[b]? = w.heap[b]? := by
  obtain ⟨h', x1, x2, x3, x4, x5, x6, x7⟩ := X
  exact x5.block b hb fun e => e.elim h1 h2
theorem HS.ptr (X : HS S w h m W) : ∃ h', HpR W h' ∧ h'.mu = 0 ∧ h'.m = m ∧ h'.ptr = h.ptr ∧ (∀ W' h2 m2, Did W h' W' h2 → h2.mu = 0 → h2.m = m2 → HS S w h m2 W') ∧ ∀ b, S b → ¬ h'.fp b := by
  obtain ⟨h', x1, x2, x3, x4, x5, x6, x7⟩ := X
  refine ⟨h', x1, x3, x4, by unfold Hp.ptr; rw [x2], fun W' h2 m2 D e1 e2 => HS.did x5 x6 x7 x2 D e1 e2, fun b hb e => ?_⟩
  rcases x6 b e with e | e
  · exact (x7 b hb).2 e
  · have := (x7 b hb).1
    omega
/-! the calls -/
end
end Go.Proofs.YtdaklffbfadghaaGreat

namespace Go.Proofs.YtdaklffbfadghaaGreat
open Go.RowKit HP
set_option linter.unusedVariables false
set_option linter.unusedSimpArgs false
structure Rw where
  blk : Nat
  ty : TypeId
  pv : Value
  ps : List Int
  n : Nat
  closed : Bool
  more : List Value
def Rw.cells (r : Rw) (h : Hp) : Array Value := (h.ptr :: r.pv :: .int .i64 r.n :: .bool r.closed :: r.more).toArray
def Rw.fp (r : Rw) (b : Nat) : Prop := b = r.blk ∨ r.pv.ownBlock = some b
/-- a heap and rows beside it -/
structure LR (W : World) (h : Hp) (r : Rw) : Prop where
  heap : HpR W h
  mu : h.mu = 0
  cells : W.heap[r.blk]? = some (.cells (r.cells h) r.ty (0, 0))
  pcs : W.ownsRow 0 3 1 r.pv r.ps.length (intsV r.ps)
  ap1 : ¬ h.fp r.blk
  ap2 : ∀ b, r.pv.ownBlock = some b → ¬ h.fp b ∧ b ≠ r.blk
/-- what a call has done of them -/
structure LDid (W : World) (h : Hp) (r : Rw) (W' : World) (h' : Hp) (r' : Rw) : Prop where
  lr : LR W' h' r'
  hb : h'.blk = h.blk
  rb : r'.blk = r.blk
  rt : r'.ty = r.ty
  turn : Turn (fun b => h.fp b ∨ r.fp b) W W'
  hf : ∀ b, h'.fp b → h.fp b ∨ W.heap.size ≤ b
  rf : ∀ b, r'.fp b → r.fp b ∨ W.heap.size ≤ b
section
variable {W W' W1 W2 : World} {h h' h1 h2 : Hp} {r r' r1 r2 : Rw}
theorem LR.rlt (L : LR W h r) : ∀ b, r.fp b → b < W.heap.size := fun b hb => by
  rcases hb with rfl | hb
  · exact blk_lt L.cells
  · exact (L.pcs.lt _ hb).2
theorem LR.apart (L : LR W h r) : ∀ b, r.fp b → ¬ h.fp b := fun b hb => by
  rcases hb with rfl | hb
  · exact L.ap1
  · exact (L.ap2 b hb).1
theorem LDid.refl (L : LR W h r) : LDid W h r W h r := ⟨L, rfl, rfl, rfl, .refl _ _, fun b e => .inl e, fun b e => .inl e⟩
theorem LDid.trans (a : LDid W h r W1 h1 r1) (c : LDid W1 h1 r1 W2 h2 r2) : LDid W h r W2 h2 r2 :=
  ⟨c.lr, c.hb.trans a.hb, c.rb.trans a.rb, c.rt.trans a.rt, a.turn.trans c.turn fun i hi e => by
    rcases e with e | e
    · rcases a.hf i e with e | e
      · exact .inl e
      · omega
    · rcases a.rf i e with e | e
      · exact .inr e
      · omega, fun b e => by
    rcases c.hf b e with e | e
    · exact a.hf b e
    · exact .inr (Nat.le_trans a.turn.size e), fun b e => by
    rcases c.rf b e with e | e
    · exact a.rf b e
    · exact .inr (Nat.le_trans a.turn.size e)⟩
theorem LDid.q (a : LDid W h r W1 h1 r1) (hq : Q W1 W2) : LDid W h r W2 h1 r1 := by
  have L := a.lr
  refine a.trans ⟨⟨L.heap.q hq, L.mu, (hq.below.block _ (blk_lt L.cells)).trans L.cells, own_same L.pcs fun g hg => hq.below.block g (L.pcs.lt g hg).2, L.ap1, L.ap2⟩, rfl, rfl, rfl, .of_q hq, fun b e => .inl e, fun b e => .inl e⟩
/-- the heap has acted -/
theorem LDid.act (a : LDid W h r W1 h1 r1) (D : Did W1 h1 W2 h2) (hmu : h2.mu = 0) : LDid W h r W2 h2 r1 := by
  have L := a.lr
  have hk : ∀ b, r1.fp b → W2.heap[b]? = W1.heap[b]? := fun b hb => D.turn.block b (L.rlt b hb) (L.apart b hb)
  have hn : ∀ b, r1.fp b → ¬ h2.fp b := fun b hb e => by
    rcases D.fp b e with e | e
    · exact L.apart b hb e
    · have := L.rlt b hb
      omega
  have hc : r1.cells h2 = r1.cells h1 := by unfold Rw.cells Hp.ptr; rw [D.blk]
  refine a.trans ⟨⟨D.rep, hmu, by rw [hc]; exact (hk _ (.inl rfl)).trans L.cells, own_same L.pcs fun g hg => hk g (.inr hg), hn _ (.inl rfl), fun b hb => ⟨hn b (.inr hb), (L.ap2 b hb).2⟩⟩, D.blk, rfl, rfl, D.turn.wide fun i _ e => .inl e, D.fp, fun b e => .inl e⟩
/-- a store into the box -/
theorem LDid.set (a : LDid W h r W1 h1 r1) (i : Nat) (v : Value) (hb : r2.blk = r1.blk) (ht : r2.ty = r1.ty) (hc : r2.cells h1 = (r1.cells h1).setIfInBounds i v) (hp : r2.ps = r1.ps) (hv : r2.pv = r1.pv) : LDid W h r (W1.setCell ⟨r1.blk, i, none⟩ v) h1 r2 := by
  have L := a.lr
  have hfp : ∀ b, r2.fp b ↔ r1.fp b := fun b => by unfold Rw.fp; rw [hb, hv]
  refine a.trans ⟨⟨L.heap.same fun b hf => heap_setCell_other _ _ _ _ (fun e => L.ap1 (by subst e; exact hf)), L.mu, ?_, ?_, by rw [hb]; exact L.ap1, by rw [hv, hb]; exact L.ap2⟩, rfl, hb, ht, (Turn.refl _ _).set (.inr (.inl rfl)) v, fun b e => .inl e, fun b e => .inl ((hfp b).1 e)⟩
  · rw [hb, ht, hc]
    exact heap_setCell_same W1 r1.blk i (r1.cells h1) _ v L.cells
  · rw [hv, hp]
    exact own_same L.pcs fun g hg => heap_setCell_other _ _ _ _ (L.ap2 g hg).2
/-- another row of pieces, laid into the box -/
theorem LDid.row (a : LDid W h r W1 h1 r1) {v : Value} {ps : List Int} (hg : W1.grownBy W2 r1.pv.ownBlock) (hv : W2.ownsRow 0 3 1 v ps.length (intsV ps)) (hn : ∀ b, v.ownBlock = some b → r1.pv.ownBlock = some b ∨ W1.heap.size ≤ b) :
    LDid W h r (W2.setCell ⟨r1.blk, 1, none⟩ v) h1 { r1 with pv := v, ps := ps } := by
  have L := a.lr
  have hkeep : ∀ b, b < W1.heap.size → r1.pv.ownBlock ≠ some b → W2.heap[b]? = W1.heap[b]? := fun b hb hne => hg.block b hb fun e => hne e.symm
  have hbl := blk_lt L.cells
  have hrow : ∀ b, v.ownBlock = some b → b ≠ r1.blk ∧ ¬ h1.fp b := fun b hb => by
    rcases hn b hb with e | e
    · exact ⟨(L.ap2 b e).2, (L.ap2 b e).1⟩
    · refine ⟨by omega, fun e2 => ?_⟩
      have := L.heap.lt b e2
      omega
  have hcell : W2.heap[r1.blk]? = some (.cells (r1.cells h1) r1.ty (0, 0)) := (hkeep _ hbl fun e => (L.ap2 _ e).2 rfl).trans L.cells
  refine a.trans ⟨⟨L.heap.same fun b hf => (heap_setCell_other _ _ _ _ (fun e => L.ap1 (by subst e; exact hf))).trans (hkeep b (L.heap.lt b hf) fun e => (L.ap2 b e).1 hf), L.mu, ?_, ?_, L.ap1, fun b hb => ⟨(hrow b hb).2, (hrow b hb).1⟩⟩, rfl, rfl, rfl, ?_, fun b e => .inl e, fun b e => ?_⟩
  · have := heap_setCell_same W2 r1.blk 1 (r1.cells h1) _ v hcell
    rw [this]
    unfold Rw.cells
    simp
  · exact own_same hv fun g hg => heap_setCell_other _ _ _ _ (hrow g hg).1
  · exact ((Turn.refl _ _).grown hg fun k hk _ => .inr (.inr hk)).set (.inr (.inl rfl)) v
  · rcases e with e | e
    · exact .inl (.inl e)
    · rcases hn b e with e | e
      · exact .inl (.inr e)
      · exact .inr e
/-- a cell of the box -/
theorem LR.cell (L : LR W h r) (j : Nat) : W.cell? ⟨r.blk, j, none⟩ = (r.cells h)[j]? := cell_of_row W r.blk j (r.cells h) _ _ L.cells
theorem LR.free (L : LR W h r) (j : Nat) : W.frozen? ⟨r.blk, j, none⟩ = false := frozen_of_row W r.blk j (r.cells h) _ L.cells
theorem LR.k0 (L : LR W h r) : W.cell? ⟨r.blk, 0, none⟩ = some h.ptr := by rw [L.cell 0]; rfl
theorem LR.k1 (L : LR W h r) : W.cell? ⟨r.blk, 1, none⟩ = some r.pv := by rw [L.cell 1]; rfl
theorem LR.k2 (L : LR W h r) : W.cell? ⟨r.blk, 2, none⟩ = some (.int .i64 r.n) := by rw [L.cell 2]; rfl
theorem LR.k3 (L : LR W h r) : W.cell? ⟨r.blk, 3, none⟩ = some (.bool r.closed) := by rw [L.cell 3]; rfl
end
end Go.Proofs.YtdaklffbfadghaaGreat

namespace Go.Proofs.YtdaklffbfadghaaGreat
open Go.RowKit HP
set_option linter.unusedVariables false
set_option linter.unusedSimpArgs false
theorem u64_or_n (a b : Nat) (ha : a < 18446744073709551616) (hb : b < 18446744073709551616) : bits .or .u64 (a : Int) (b : Int) = ((a ||| b : Nat) : Int) := by
  have hx : a ||| b < 18446744073709551616 := Nat.or_lt_two_pow (n := 64) ha hb
  show IntKind.u64.wrap ((BitVec.ofInt 64 (a : Int) ||| BitVec.ofInt 64 (b : Int)).toNat : Int) = _
  rw [BitVec.toNat_or, BitVec.ofInt_natCast, BitVec.ofInt_natCast, BitVec.toNat_ofNat, BitVec.toNat_ofNat, Nat.mod_eq_of_lt (by simpa using ha), Nat.mod_eq_of_lt (by simpa using hb)]
  simp only [IntKind.wrap, IntKind.bits, IntKind.signed]
  simp
  omega
theorem u64_and_255 (a : Nat) (ha : a < 18446744073709551616) : bits .and .u64 (a : Int) 255 = ((a % 256 : Nat) : Int) := by
  have hx : a &&& 255 = a % 256 := Nat.and_two_pow_sub_one_eq_mod (n := 8) a
  show IntKind.u64.wrap ((BitVec.ofInt 64 (a : Int) &&& BitVec.ofInt 64 ((255 : Nat) : Int)).toNat : Int) = _
  rw [BitVec.toNat_and, BitVec.ofInt_natCast, BitVec.ofInt_natCast, BitVec.toNat_ofNat, BitVec.toNat_ofNat, Nat.mod_eq_of_lt (by simpa using ha), Nat.mod_eq_of_lt (by decide), hx]
  simp only [IntKind.wrap, IntKind.bits, IntKind.signed]
  simp
  omega
theorem word_or (v : Int) (b : Nat) (hb : b < 8) : bits .or .u64 ((wordN v % 2 ^ (8 * b) : Nat) : Int) ((byteN v b * 2 ^ (8 * b) : Nat) : Int) = ((wordN v % 2 ^ (8 * (b + 1)) : Nat) : Int) := by
  have h1 : wordN v % 2 ^ (8 * b) < 18446744073709551616 := Nat.lt_of_le_of_lt (Nat.mod_le _ _) (wordN_lt v)
  have h2 : byteN v b * 2 ^ (8 * b) < 18446744073709551616 := by
    have h3 := byteN_lt v b
    have h4 : (2 : Nat) ^ (8 * b) ≤ 2 ^ 56 := Nat.pow_le_pow_right (by decide) (by omega)
    have h5 : byteN v b * 2 ^ (8 * b) ≤ 255 * 2 ^ 56 := Nat.mul_le_mul (by omega) h4
    omega
  rw [u64_or_n _ _ h1 h2, ← word_step, Nat.shiftLeft_eq]
theorem word_shr (v : Int) (b : Nat) : bits .and .u64 ((wordN v / 2 ^ (8 * b) : Nat) : Int) 255 = ((byteN v b : Nat) : Int) := by
  rw [u64_and_255 _ (Nat.lt_of_le_of_lt (Nat.div_le_self _ _) (wordN_lt v))]
  rfl
end Go.Proofs.YtdaklffbfadghaaGreat

namespace Go.Proofs.YtdaklffbfadghaaGreat
open Go.RowKit HP
set_option linter.unusedVariables false
set_option linter.unusedSimpArgs false
theorem wrap_small (j : Nat) (h : j < 1000000) : wrap64 (j : Int) = (j : Int) := by unfold wrap64; omega
theorem wrap_at {p c : Int} {k : Nat} (h0 : 0 ≤ p) (h1 : p ≤ 4096) (hk : k < 4) (hc : c = 8 ∨ c = 16 ∨ c = 24) : wrap64 (p + wrap64 ((k : Int) * c)) = p + (k : Int) * c := by
  rcases hc with rfl | rfl | rfl <;> (unfold wrap64; omega)
theorem u64_small {x : Int} (h0 : 0 ≤ x) (h1 : x < 18446744073709551616) : IntKind.u64.wrap x = x := by
  simp only [IntKind.wrap, IntKind.bits, IntKind.signed]
  simp
  omega
theorem word_or3 (v : Int) {b : Nat} (hb : b < 8) : bits .or .u64 ((wordN v : Int) % 2 ^ (8 * b)) (IntKind.u64.wrap (IntKind.u64.wrap (byteN v b : Nat) * 2 ^ (8 * b))) = ((wordN v % 2 ^ (8 * (b + 1)) : Nat) : Int) := by
  have h3 := byteN_lt v b
  have h4 : (2 : Nat) ^ (8 * b) ≤ 2 ^ 56 := Nat.pow_le_pow_right (by decide) (by omega)
  have h5 : byteN v b * 2 ^ (8 * b) ≤ 255 * 2 ^ 56 := Nat.mul_le_mul (by omega) h4
  rw [← word_or v b hb, u64_small (x := ((byteN v b : Nat) : Int)) (by omega) (by omega)]
  have e : ((byteN v b : Nat) : Int) * 2 ^ (8 * b) = ((byteN v b * 2 ^ (8 * b) : Nat) : Int) := by push_cast; rfl
  rw [e, u64_small (by omega) (by omega)]
  congr 1
theorem word_end {v : Int} {d : Nat} (hd : d = 8) (h1 : -9223372036854775808 ≤ v ∧ v ≤ 9223372036854775807) : wrap64 ((wordN v % 2 ^ (8 * d) : Nat) : Int) = v := by
  rw [hd, word_all]
  exact word_back h1.1 h1.2
theorem results_row1 {P : Program} {fn : Func} {p : Tmp} {ty : TypeId} (h : fn.results = #[.cell p ty]) (tmps : Array Value) (w : World) (g : Nat) (t : TypeId) (cs : Array Value) (fr : Nat × Nat) (d : TypeDesc)
    (hp : tmps.getD p undef = .pointer (some ⟨g, 0, none⟩)) (hg : w.heap[g]? = some (.cells cs t fr))
    (hu : P.underlying ty = some d) (hd : (match d with | .struct _ | .array _ _ => true | _ => false) = true) (hi : (P.info? ty).map (·.size) = some cs.size) :
    (results fn tmps).run P w = .ok (.agg cs) w := by
  have hp' : tmps[p]?.getD undef = .pointer (some ⟨g, 0, none⟩) := by simpa using hp
  simp [results, h, hp', asAddr, run_loadVar_row w g t ty cs fr d hg hu hd hi]
theorem Has.bounds {m : HM} {p n : Int} (h : Has m p n) (I : Inv m) : 0 ≤ p ∧ p ≤ 4096 := by
  obtain ⟨x, hx, e⟩ := List.mem_map.1 h
  unfold shape at e
  injection e with e1 e2
  have h4 := I.fit.inn x hx
  have h5 := I.fit.sz
  unfold pend at *
  omega
theorem wrap_word (v : Int) : IntKind.u64.wrap v = ((wordN v : Nat) : Int) := by
  unfold wordN
  simp only [IntKind.wrap, IntKind.bits, IntKind.signed]
  simp
  omega
theorem word_shr3 (v : Int) (b : Nat) : wrap64 (bits .and .u64 ((wordN v : Int) / 2 ^ (8 * b)) 255) = ((byteN v b : Nat) : Int) := by
  have e : (wordN v : Int) / 2 ^ (8 * b) = ((wordN v / 2 ^ (8 * b) : Nat) : Int) := by push_cast; rfl
  rw [e, word_shr]
  have := byteN_lt v b
  exact wrap_small _ (by omega)
/-- an element of an array's value -/
theorem run_idx_arr {P : Program} {t e : TypeId} {n k : Nat} {cs : Array Value} {v : Value} (hu : P.underlying t = some (.array n e)) (he : P.plainKey e = true) (hs : (P.info? e).map (·.size) = some 1) (hk : k < n) (hv : cs[k]? = some v) (w : World) :
    (Instr.index t (.agg cs) (.int .i64 (k : Nat))).run P w = .ok v w := by
  have h1 : ∀ w, (sizeOf e).run P w = .ok 1 w := fun w => by
    cases hi : P.info? e with
    | none => rw [hi] at hs; cases hs
    | some i =>
      rw [hi] at hs
      have : i.size = 1 := by simpa using hs
      simp [sizeOf, typeInfo, hi, this]
  have hp := run_part_plain (P := P) (w := w) he hv
  simp [Instr.index, run_underlying hu, h1, hp, asIntOf, Result.andThen, hk]
def LS (w : World) (h : Hp) (r : Rw) (W : World) (m : HM) (r1 : Rw) : Prop := ∃ h1, LDid w h r W h1 r1 ∧ h1.m = m
def Rw.ptr (r : Rw) : Value := .pointer (some ⟨r.blk, 0, none⟩)
section
variable {w W W' : World} {h h2 : Hp} {r r1 r2 : Rw} {m : HM}
theorem LS.start (L : LR w h r) : LS w h r w h.m r := ⟨h, .refl L, rfl⟩
theorem LS.q (X : LS w h r W m r1) (hq : Q W W') : LS w h r W' m r1 := by
  obtain ⟨h1, D, e⟩ := X
  exact ⟨h1, D.q hq, e⟩
theorem LS.rb (X : LS w h r W m r1) : r1.blk = r.blk := by
  obtain ⟨h1, D, e⟩ := X
  exact D.rb
theorem LS.lt (X : LS w h r W m r1) : r.blk < W.heap.size := by
  obtain ⟨h1, D, e⟩ := X
  rw [← D.rb]
  exact D.lr.rlt _ (.inl rfl)
theorem LS.trans {m2 : HM} (X : LS w h r W m r1) (hY : ∀ h1, LR W h1 r1 → h1.m = m → h1.ptr = h.ptr → LS W h1 r1 W' m2 r2) : LS w h r W' m2 r2 := by
  obtain ⟨h1, D, e⟩ := X
  obtain ⟨h2, D2, e2⟩ := hY h1 D.lr e (by unfold Hp.ptr; rw [D.hb])
  exact ⟨h2, D.trans D2, e2⟩
/-- what the box holds -/
theorem LS.cells (X : LS w h r W m r1) : ∃ t f, W.heap[r.blk]? = some (.cells (r1.cells h) t f) := by
  obtain ⟨h1, D, e⟩ := X
  have := D.lr.cells
  rw [D.rb] at this
  have e2 : r1.cells h1 = r1.cells h := by unfold Rw.cells Hp.ptr; rw [D.hb]
  rw [e2] at this
  exact ⟨_, _, this⟩
theorem LS.k0 (X : LS w h r W m r1) : W.cell? ⟨r.blk, 0, none⟩ = some h.ptr := by
  obtain ⟨t, f, e⟩ := X.cells
  rw [cell_of_row _ _ _ _ _ _ e]; rfl
theorem LS.k1 (X : LS w h r W m r1) : W.cell? ⟨r.blk, 1, none⟩ = some r1.pv := by
  obtain ⟨t, f, e⟩ := X.cells
  rw [cell_of_row _ _ _ _ _ _ e]; rfl
theorem LS.k2 (X : LS w h r W m r1) : W.cell? ⟨r.blk, 2, none⟩ = some (.int .i64 r1.n) := by
  obtain ⟨t, f, e⟩ := X.cells
  rw [cell_of_row _ _ _ _ _ _ e]; rfl
theorem LS.k3 (X : LS w h r W m r1) : W.cell? ⟨r.blk, 3, none⟩ = some (.bool r1.closed) := by
  obtain ⟨t, f, e⟩ := X.cells
  rw [cell_of_row _ _ _ _ _ _ e]; rfl
theorem LS.kj (X : LS w h r W m r1) (j : Nat) : W.cell? ⟨r.blk, j, none⟩ = (r1.cells h)[j]? := by
  obtain ⟨t, f, e⟩ := X.cells
  rw [cell_of_row _ _ _ _ _ _ e]
theorem LS.free (X : LS w h r W m r1) (j : Nat) : W.frozen? ⟨r.blk, j, none⟩ = false := by
  obtain ⟨h1, D, e⟩ := X
  rw [← D.rb]
  exact D.lr.free j
/-- a piece in its row -/
theorem LS.piece (X : LS w h r W m r1) {i : Nat} {p : Int} (hp : r1.ps[i]? = some p) : ∃ g c, r1.pv = .slice (some ⟨g, 0, none⟩) r1.ps.length c ∧ W.cell? ⟨g, i, none⟩ = some (.int .i64 p) ∧ g < W.heap.size := by
  obtain ⟨h1, D, e⟩ := X
  have hl := (List.getElem?_eq_some_iff.1 hp).1
  obtain ⟨g, c, e1, -, h2, -, -, h3, -⟩ := own_at D.lr.pcs (by omega)
  refine ⟨g, c, e1, h3 i _ ?_, h2⟩
  unfold intsV
  rw [List.getElem?_map, hp]
  rfl
theorem LS.pv (X : LS w h r W m r1) : ∃ A c, r1.pv = .slice A r1.ps.length c := by
  obtain ⟨h1, D, e⟩ := X
  rcases D.lr.pcs.2 with ⟨e1, e2⟩ | ⟨g, cap, cur, e1, -⟩
  · exact ⟨none, 0, by rw [e1, e2]⟩
  · exact ⟨_, _, e1⟩
/-- a store of how many there are -/
theorem LS.setN (X : LS w h r W m r1) (n : Nat) : LS w h r (W.setCell ⟨r.blk, 2, none⟩ (.int .i64 n)) m { r1 with n := n } := by
  obtain ⟨h1, D, e⟩ := X
  rw [← D.rb]
  exact ⟨h1, D.set 2 _ rfl rfl (by unfold Rw.cells; simp) rfl rfl, e⟩
theorem LS.setC (X : LS w h r W m r1) (b : Bool) : LS w h r (W.setCell ⟨r.blk, 3, none⟩ (.bool b)) m { r1 with closed := b } := by
  obtain ⟨h1, D, e⟩ := X
  rw [← D.rb]
  exact ⟨h1, D.set 3 _ rfl rfl (by unfold Rw.cells; simp) rfl rfl, e⟩
/-! with blocks of the walk's own beside them -/
abbrev Loc := Nat × Array Value × TypeId
structure Locs (w W : World) (h1 : Hp) (r1 : Rw) (bs : List Loc) : Prop where
  cells : ∀ x ∈ bs, W.heap[x.1]? = some (.cells x.2.1 x.2.2 (0, 0))
  ap : ∀ x ∈ bs, ¬ h1.fp x.1 ∧ ¬ r1.fp x.1
  new : ∀ x ∈ bs, w.heap.size ≤ x.1
  nodup : (bs.map (·.1)).Nodup
def LB (w : World) (h : Hp) (r : Rw) (W : World) (m : HM) (r1 : Rw) (bs : List Loc) : Prop := ∃ h1, LDid w h r W h1 r1 ∧ h1.m = m ∧ Locs w W h1 r1 bs
theorem LB.start (L : LR w h r) : LB w h r w h.m r [] := ⟨h, .refl L, rfl, fun x hx => (by cases hx), fun x hx => (by cases hx), fun x hx => (by cases hx), List.Pairwise.nil⟩
variable {bs bs2 : List Loc}
theorem LB.ls (X : LB w h r W m r1 bs) : LS w h r W m r1 := by
  obtain ⟨h1, D, e, -⟩ := X
  exact ⟨h1, D, e⟩
theorem LB.sub (X : LB w h r W m r1 bs) (hs : bs2.Sublist bs) : LB w h r W m r1 bs2 := by
  obtain ⟨h1, D, e, C⟩ := X
  exact ⟨h1, D, e, fun x hx => C.cells x (hs.subset hx), fun x hx => C.ap x (hs.subset hx), fun x hx => C.new x (hs.subset hx), C.nodup.sublist (hs.map _)⟩
theorem LB.at_ (X : LB w h r W m r1 bs) {b : Nat} {cs : Array Value} {t : TypeId} (hx : (b, cs, t) ∈ bs) : W.heap[b]? = some (.cells cs t (0, 0)) := by
  obtain ⟨h1, D, e, C⟩ := X
  exact C.cells _ hx
theorem LB.lt (X : LB w h r W m r1 bs) {b : Nat} {cs : Array Value} {t : TypeId} (hx : (b, cs, t) ∈ bs) : b < W.heap.size := blk_lt (X.at_ hx)
theorem LB.cell (X : LB w h r W m r1 bs) {b : Nat} {cs : Array Value} {t : TypeId} (hx : (b, cs, t) ∈ bs) (j : Nat) : W.cell? ⟨b, j, none⟩ = cs[j]? := cell_of_row _ _ _ _ _ _ (X.at_ hx)
theorem LB.fz (X : LB w h r W m r1 bs) {b : Nat} {cs : Array Value} {t : TypeId} (hx : (b, cs, t) ∈ bs) (j : Nat) : W.frozen? ⟨b, j, none⟩ = false := frozen_of_row _ _ _ _ _ (X.at_ hx)
/-- the world goes on, and nothing that was there turns -/
theorem LB.q (X : LB w h r W m r1 bs) (hq : Q W W') : LB w h r W' m r1 bs := by
  obtain ⟨h1, D, e, C⟩ := X
  exact ⟨h1, D.q hq, e, fun x hx => (hq.below.block _ (blk_lt (C.cells x hx))).trans (C.cells x hx), C.ap, C.new, C.nodup⟩
/-- a block is made -/
theorem LB.alloc (X : LB w h r W m r1 bs) (cs : Array Value) (t : TypeId) : LB w h r (W.alloc (.cells cs t (0, 0))) m r1 ((W.heap.size, cs, t) :: bs) := by
  obtain ⟨h1, D, e, C⟩ := X
  have hq : Q W (W.alloc (.cells cs t (0, 0))) := (Q.refl _).alloc _
  refine ⟨h1, D.q hq, e, fun x hx => ?_, fun x hx => ?_, fun x hx => ?_, ?_⟩
  · rcases List.mem_cons.1 hx with rfl | hx
    · exact heap_alloc_new W _
    · exact (hq.below.block _ (blk_lt (C.cells x hx))).trans (C.cells x hx)
  · rcases List.mem_cons.1 hx with rfl | hx
    · refine ⟨fun e => ?_, fun e => ?_⟩
      · have := D.lr.heap.lt _ e
        exact Nat.lt_irrefl _ this
      · have := D.lr.rlt _ e
        exact Nat.lt_irrefl _ this
    · exact C.ap x hx
  · rcases List.mem_cons.1 hx with rfl | hx
    · exact D.turn.size
    · exact C.new x hx
  · rw [List.map_cons, List.nodup_cons]
    refine ⟨fun hm => ?_, C.nodup⟩
    obtain ⟨x, hx, e⟩ := List.mem_map.1 hm
    have := blk_lt (C.cells x hx)
    omega
/-- a store into one of the blocks -/
theorem LB.put (X : LB w h r W m r1 bs) {k b : Nat} {cs : Array Value} {t : TypeId} (hk : bs[k]? = some (b, cs, t)) (j : Nat) (v : Value) : LB w h r (W.setCell ⟨b, j, none⟩ v) m r1 (bs.set k (b, cs.setIfInBounds j v, t)) := by
  obtain ⟨h1, D, e, C⟩ := X
  have hmem := List.mem_of_getElem? hk
  have hb := C.cells _ hmem
  have hap := C.ap _ hmem
  have hlt := (List.getElem?_eq_some_iff.1 hk).1
  have L := D.lr
  have e1 : (bs.set k (b, cs.setIfInBounds j v, t)).map (·.1) = bs.map (·.1) := by
    refine List.ext_getElem (by simp) fun i h1 h2 => ?_
    rw [List.getElem_map, List.getElem_map, List.getElem_set]
    split
    · rename_i e
      subst e
      rw [(List.getElem?_eq_some_iff.1 hk).2]
    · rfl
  have who : ∀ x ∈ bs.set k (b, cs.setIfInBounds j v, t), x = (b, cs.setIfInBounds j v, t) ∨ (x ∈ bs ∧ x.1 ≠ b) := fun x hx => by
    obtain ⟨i, hi, ex⟩ := List.getElem_of_mem hx
    rw [List.length_set] at hi
    rw [List.getElem_set] at ex
    split at ex
    · exact .inl ex.symm
    · rename_i hne
      refine .inr ⟨by rw [← ex]; exact List.getElem_mem hi, fun e => hne ?_⟩
      have hp := List.pairwise_iff_getElem.1 C.nodup
      have ek : bs[k].1 = b := by rw [(List.getElem?_eq_some_iff.1 hk).2]
      rcases Nat.lt_trichotomy k i with g | g | g
      · have := hp k i (by simpa using hlt) (by simpa using hi) g
        rw [List.getElem_map, List.getElem_map] at this
        exact absurd (ek.trans (by rw [← e, ← ex])) this
      · exact g
      · have := hp i k (by simpa using hi) (by simpa using hlt) g
        rw [List.getElem_map, List.getElem_map] at this
        exact absurd ((by rw [← e, ← ex] : b = bs[i].1).symm.trans ek.symm) this
  have keep : ∀ g, g ≠ b → (W.setCell ⟨b, j, none⟩ v).heap[g]? = W.heap[g]? := fun g hg => heap_setCell_other _ _ _ _ hg
  have hnew := C.new _ hmem
  have hT : Turn (fun b => h.fp b ∨ r.fp b) w (W.setCell ⟨b, j, none⟩ v) := D.turn.trans (S' := fun i => i = b) ((Turn.refl (fun i => i = b) W).set (p := ⟨b, j, none⟩) rfl v) fun i hi e => by
    have e : i = b := e
    omega
  refine ⟨h1, ⟨⟨L.heap.same fun g hg => keep g fun e => hap.1 (e ▸ hg), L.mu, (keep _ fun e => hap.2 (.inl e.symm)).trans L.cells, own_same L.pcs fun g hg => keep g fun e => hap.2 (.inr (e ▸ hg)), L.ap1, L.ap2⟩, D.hb, D.rb, D.rt, hT, D.hf, D.rf⟩, e, fun x hx => ?_, fun x hx => ?_, fun x hx => ?_, by rw [e1]; exact C.nodup⟩
  · rcases who x hx with rfl | ⟨hx, hne⟩
    · exact heap_setCell_same W b j cs _ v hb
    · exact (keep _ hne).trans (C.cells x hx)
  · rcases who x hx with rfl | ⟨hx, -⟩
    · exact hap
    · exact C.ap x hx
  · rcases who x hx with rfl | ⟨hx, -⟩
    · exact hnew
    · exact C.new x hx
/-- a call acts on heap and rows, as it is said of the world at its beginning: the blocks stay -/
theorem LB.call (X : LB w h r W m r1 bs) {f : FuncId} {args : Array Value} {P : Ending → World → HM → Rw → Prop}
    (hc : ∀ h1, LR W h1 r1 → h1.m = m → h1.ptr = h.ptr → h1.calls = m.calls → Calls Tryz.prog f args W fun e W' => ∃ m2 r2, LS W h1 r1 W' m2 r2 ∧ P e W' m2 r2) :
    Calls Tryz.prog f args W fun e W' => ∃ m2 r2, LB w h r W' m2 r2 bs ∧ P e W' m2 r2 := by
  obtain ⟨h1, D, e, C⟩ := X
  refine (hc h1 D.lr e (by unfold Hp.ptr; rw [D.hb]) (by rw [← e]; rfl)).mono ?_
  rintro e2 W' ⟨m2, r2, ⟨h2, D2, em⟩, hP⟩
  have hl : ∀ x ∈ bs, x.1 < W.heap.size := fun x hx => blk_lt (C.cells x hx)
  refine ⟨m2, r2, ⟨h2, D.trans D2, em, fun x hx => ?_, fun x hx => ⟨fun e => ?_, fun e => ?_⟩, C.new, C.nodup⟩, hP⟩
  · exact (D2.turn.block _ (hl x hx) fun e => e.elim (C.ap x hx).1 (C.ap x hx).2).trans (C.cells x hx)
  · rcases D2.hf _ e with e | e
    · exact (C.ap x hx).1 e
    · exact absurd (hl x hx) (by omega)
  · rcases D2.rf _ e with e | e
    · exact (C.ap x hx).2 e
    · exact absurd (hl x hx) (by omega)
/-- the rows' own cells are written -/
theorem LB.own (X : LB w h r W m r1 bs) {W2 : World} {r2 : Rw} (hD : ∀ h1, LR W h1 r1 → h1.m = m → LDid W h1 r1 W2 h1 r2) : LB w h r W2 m r2 bs := by
  obtain ⟨h1, D, e, C⟩ := X
  have D2 := hD h1 D.lr e
  have hl : ∀ x ∈ bs, x.1 < W.heap.size := fun x hx => blk_lt (C.cells x hx)
  refine ⟨h1, D.trans D2, e, fun x hx => ?_, fun x hx => ⟨(C.ap x hx).1, fun e => ?_⟩, C.new, C.nodup⟩
  · exact (D2.turn.block _ (hl x hx) fun e => e.elim (C.ap x hx).1 (C.ap x hx).2).trans (C.cells x hx)
  · rcases D2.rf _ e with e | e
    · exact (C.ap x hx).2 e
    · exact absurd (hl x hx) (by omega)
theorem LB.setN (X : LB w h r W m r1 bs) (n : Nat) : LB w h r (W.setCell ⟨r.blk, 2, none⟩ (.int .i64 n)) m { r1 with n := n } bs := by
  have hb := X.ls.rb
  rw [← hb]
  exact X.own fun h1 L _ => (LDid.refl L).set 2 _ rfl rfl (by unfold Rw.cells; simp) rfl rfl
theorem LB.setC (X : LB w h r W m r1 bs) (b : Bool) : LB w h r (W.setCell ⟨r.blk, 3, none⟩ (.bool b)) m { r1 with closed := b } bs := by
  have hb := X.ls.rb
  rw [← hb]
  exact X.own fun h1 L _ => (LDid.refl L).set 3 _ rfl rfl (by unfold Rw.cells; simp) rfl rfl
theorem LB.row (X : LB w h r W m r1 bs) {W2 : World} {v : Value} {ps : List Int} (hg : W.grownBy W2 r1.pv.ownBlock) (hv : W2.ownsRow 0 3 1 v ps.length (intsV ps)) (hn : ∀ b, v.ownBlock = some b → r1.pv.ownBlock = some b ∨ W.heap.size ≤ b) :
    LB w h r (W2.setCell ⟨r.blk, 1, none⟩ v) m { r1 with pv := v, ps := ps } bs := by
  have hb := X.ls.rb
  rw [← hb]
  exact X.own fun h1 L _ => (LDid.refl L).row hg hv hn
theorem LB.owns (X : LB w h r W m r1 bs) : W.ownsRow 0 3 1 r1.pv r1.ps.length (intsV r1.ps) := by
  obtain ⟨h1, D, e, C⟩ := X
  exact D.lr.pcs
theorem LB.ap (X : LB w h r W m r1 bs) : ∀ b, r1.pv.ownBlock = some b → b ≠ r.blk := fun b hb => by
  obtain ⟨h1, D, e, C⟩ := X
  rw [← D.rb]
  exact (D.lr.ap2 b hb).2
theorem LB.act (X : LB w h r W m r1 bs) (I : Inv m) {f : FuncId} {args : Array Value} {P : Ending → Prop} {m2 : HM}
    (hc : ∀ h1, HpR W h1 → Inv h1.m → h1.mu = 0 → h1.m = m → h1.ptr = h.ptr → Calls Tryz.prog f args W fun e W' => P e ∧ ∃ h2, Did W h1 W' h2 ∧ h2.mu = 0 ∧ h2.m = m2) :
    Calls Tryz.prog f args W fun e W' => P e ∧ LB w h r W' m2 r1 bs := by
  refine (X.call (P := fun e W' m3 r3 => m3 = m2 ∧ r3 = r1 ∧ P e) fun h1 L e1 e2 _ => ?_).mono ?_
  · refine (hc h1 L.heap (by rw [e1]; exact I) L.mu e1 e2).mono ?_
    rintro e W' ⟨hp, h2, D, hmu, hm⟩
    exact ⟨m2, r1, ⟨h2, (LDid.refl L).act D hmu, hm⟩, rfl, rfl, hp⟩
  · rintro e W' ⟨m3, r3, Y, rfl, rfl, hp⟩
    exact ⟨hp, Y⟩
theorem lb_load (X : LB w h r W m r1 bs) (I : Inv m) (at_ : Int) : Calls Tryz.prog 36 #[h.ptr, .int .i64 at_] W fun e W' => e = .returned (.tuple #[.int .i64 (loadM m at_).1, .int .i64 (loadM m at_).2]) ∧ LB w h r W' m r1 bs := by
  refine X.act I fun h1 x1 x2 x3 x4 x5 => ?_
  rw [← x5]
  refine (load_act h1 at_ W x1 x2 x3).mono ?_
  rintro e W' ⟨h2, he, D, hmu, hm⟩
  rw [x4] at he hm
  exact ⟨he, h2, D, hmu, hm⟩
theorem lb_store (X : LB w h r W m r1 bs) (I : Inv m) (at_ b : Int) : Calls Tryz.prog 11 #[h.ptr, .int .i64 at_, .int .i64 b] W fun e W' => e = .returned (.int .i64 (storeM m at_ b).2) ∧ LB w h r W' (storeM m at_ b).1 r1 bs := by
  refine X.act I fun h1 x1 x2 x3 x4 x5 => ?_
  rw [← x5]
  refine (store_act h1 at_ b W x1 x2 x3).mono ?_
  rintro e W' ⟨h2, he, D, hmu, hm⟩
  rw [x4] at he hm
  exact ⟨he, h2, D, hmu, hm⟩
theorem lb_alloc (X : LB w h r W m r1 bs) (I : Inv m) (hc : m.calls < 1000000000) (n al : Int) : Calls Tryz.prog 9 #[h.ptr, .int .i64 n, .int .i64 al] W fun e W' => e = .returned (.tuple #[.int .i64 (allocM m n al).2.1, .int .i64 (allocM m n al).2.2]) ∧ LB w h r W' (allocM m n al).1 r1 bs := by
  refine X.act I fun h1 x1 x2 x3 x4 x5 => ?_
  rw [← x5]
  refine (alloc_any h1 n al W x1 x2 x3 (by rw [← x4] at hc; exact hc)).mono ?_
  rintro e W' ⟨h2, he, D, hmu, hm⟩
  rw [x4] at he hm
  exact ⟨he, h2, D, hmu, hm⟩
theorem lb_free (X : LB w h r W m r1 bs) (I : Inv m) (at_ : Int) (ha0 : -9223372036854775808 ≤ at_) (ha1 : at_ ≤ 9223372036854775807) : Calls Tryz.prog 108 #[h.ptr, .int .i64 at_] W fun e W' => e = .returned (.int .i64 (freeM m at_).2) ∧ LB w h r W' (freeM m at_).1 r1 bs := by
  refine X.act I fun h1 x1 x2 x3 x4 x5 => ?_
  rw [← x5]
  refine (free_act h1 at_ W x1 x2 x3 ha0 ha1).mono ?_
  rintro e W' ⟨h2, he, D, hmu, hm⟩
  rw [x4] at he hm
  exact ⟨he, h2, D, hmu, hm⟩
/-- the front of an own row -/
theorem own_take {w : World} {base : Nat} {e : TypeId} {size g n c : Nat} {xs : List Value} (h : w.ownsRow base e size (.slice (some ⟨g, 0, none⟩) n c) n xs) {k : Nat} (hk : k ≤ n) : w.ownsRow base e size (.slice (some ⟨g, 0, none⟩) k c) k (xs.take (k * size)) := by
  have hl := h.1
  rcases h.2 with ⟨h0, -⟩ | ⟨g', cap, cur, e1, hb, hh, h1, h2, h3, h4⟩
  · cases h0
  · cases e1
    have hkn : k * size ≤ n * size := Nat.mul_le_mul_right _ hk
    refine ⟨by rw [List.length_take, hl]; omega, .inr ⟨g, c, cur, rfl, hb, hh, Nat.le_trans hk h1, h2, h3, ?_⟩⟩
    rw [← h4, List.take_take, Nat.min_eq_left hkn]
def BdL (Ls : List (List Int)) : Prop := ∀ row ∈ Ls, ∀ v ∈ row, -9223372036854775808 ≤ v ∧ v ≤ 9223372036854775807
/-- a row has been put in, or not -/
structure Insd (m m' : HM) (T : Nat) (ps qs : List Int) (Ls : List (List Int)) (i : Nat) (t : List Int) (ok : Bool) : Prop where
  inv : Inv m'
  fr : Fr m m' ps qs
  kp : Kp m' T qs (if ok then insAt Ls i [t] else Ls)
  lt : ok = true → Ls.length < 64
  full : Ls.length = 64 → ok = false ∧ m'.calls = m.calls
  calls : m.calls ≤ m'.calls ∧ m'.calls ≤ m.calls + 1
  low : ∀ d, Low m T ps d → Low m' T qs d ∧ (Ls.length < 16 → ok = true)
theorem insd_no {m m' : HM} {T : Nat} {ps qs : List Int} {Ls : List (List Int)} {i : Nat} {t : List Int} (K : Kp m T ps Ls) (G : Grew m m' T ps qs Ls.length false) : Insd m m' T ps qs Ls i t false := by
  have e := (G.no rfl).1
  subst e
  exact ⟨G.inv, G.fr, G.still K, fun h => (by cases h), G.full, G.calls, G.low⟩
theorem insd_yes {m m1 m2 m3 : HM} {T : Nat} {ps qs : List Int} {Ls : List (List Int)} {i : Nat} {t : List Int} (G : Grew m m1 T ps qs Ls.length true) (S : ShUp m2 T qs Ls i) (F : Fr m1 m2 qs qs) (hc : m2.calls = m1.calls) (hf : m2.failIn = m1.failIn) (hi : i ≤ Ls.length) {p : Int} (hp : qs[i / 4]? = some p) (ht : t.length = T)
    (W : Writing m2 m3 p (((i % 4 * (8 * T) : Nat)) : Int) t (8 * t.length)) : Insd m m3 T ps qs Ls i t true := by
  have hlt := (G.yes rfl).1
  obtain ⟨k1, f1⟩ := S.done hi hlt hp ht W
  refine ⟨W.inv, (G.fr.trans F).trans f1, by rw [if_pos rfl]; exact k1, fun _ => hlt, fun h => ⟨(by have := (G.full h).1; cases this), by rw [W.calls, hc]; exact (G.full h).2⟩, by rw [W.calls, hc]; exact G.calls, fun d hL => ?_⟩
  obtain ⟨l1, l2⟩ := G.low d hL
  exact ⟨(l1.same F hf).same f1 W.failIn, l2⟩
/-- a row has been taken off the end -/
structure Dropd (m m' : HM) (T : Nat) (ps qs : List Int) (k : Nat) : Prop where
  inv : Inv m'
  pcs : Pcs m' T qs k
  fr : Fr m m' ps qs
  calls : m'.calls = m.calls
  failIn : m'.failIn = m.failIn
  rows : ∀ j row, j < k → RowIs m T ps j row → RowIs m' T qs j row
  low : ∀ d, Low m T ps d → Low m' T qs d
theorem dropd_same {m : HM} {T : Nat} {ps : List Int} {k : Nat} (I : Inv m) (P : Pcs m T ps (k + 1)) (h : k % 4 ≠ 0) : Dropd m m T ps ps k := ⟨I, drop_same P h, .refl _ _, rfl, rfl, fun _ _ _ h => h, fun _ h => h⟩
theorem dropd_free {m : HM} {T : Nat} {ps : List Int} {k : Nat} (I : Inv m) (P : Pcs m T ps (k + 1)) (h : k % 4 = 0) : ∃ qs p, ps = qs ++ [p] ∧ 0 ≤ p ∧ p ≤ 4096 ∧ (freeM m p).2 = 0 ∧ Dropd m (freeM m p).1 T ps qs k := by
  obtain ⟨qs, p, e, f1, f2, f3, f4, f5, f6, f7⟩ := drop_free I P h
  obtain ⟨b1, b2⟩ := (P.has p (by rw [e]; simp)).bounds I
  refine ⟨qs, p, e, b1, b2, f1, f2, f5, f6, f3, f4, f7, fun d hL => ?_⟩
  rw [e] at hL f6
  exact hL.drop f6 f4
/-- a row has been taken out -/
structure Remd (m m' : HM) (T : Nat) (ps qs : List Int) (Ls : List (List Int)) (i : Nat) : Prop where
  inv : Inv m'
  fr : Fr m m' ps qs
  kp : Kp m' T qs (delAt Ls i 1)
  calls : m'.calls = m.calls
  failIn : m'.failIn = m.failIn
  low : ∀ d, Low m T ps d → Low m' T qs d
theorem remd_of {m m2 m3 : HM} {T : Nat} {ps qs : List Int} {Ls : List (List Int)} {i k : Nat} (K : Kp m T ps Ls) (S : ShDn m2 T ps Ls i k) (hl : Ls.length = k + 1) (hi : i < Ls.length) (F : Fr m m2 ps ps) (hc : m2.calls = m.calls) (hf : m2.failIn = m.failIn) (D : Dropd m2 m3 T ps qs k) : Remd m m3 T ps qs Ls i := by
  have hln : (delAt Ls i 1).length = k := by rw [delAt_len _ _ _ (by omega)]; omega
  have h64 := K.len
  refine ⟨D.inv, F.trans D.fr, ⟨by rw [hln]; exact D.pcs, by omega, fun j row hj => ?_⟩, D.calls.trans hc, D.failIn.trans hf, fun d hL => D.low d (hL.same F hf)⟩
  have := (List.getElem?_eq_some_iff.1 hj).1
  exact D.rows j row (by omega) (S.all hl hi j row hj)
/-- all rows have been taken off -/
structure Clsd (m m' : HM) (ps : List Int) : Prop where
  inv : Inv m'
  fr : Fr m m' ps []
  calls : m'.calls = m.calls
  failIn : m'.failIn = m.failIn
theorem clsd_of {m m' : HM} {T : Nat} {ps qs : List Int} (I : Inv m') (P : Pcs m' T qs 0) (F : Fr m m' ps qs) (hc : m'.calls = m.calls) (hf : m'.failIn = m.failIn) : qs = [] ∧ Clsd m m' ps := by
  have h := P.len
  have : qs = [] := List.eq_nil_of_length_eq_zero (by simpa using h)
  subst this
  exact ⟨rfl, I, F, hc, hf⟩
/-- a row while it is read: k of its numbers are there -/
def rowC (xs : List Int) (k : Nat) : Array Value := (intsV (xs.take k) ++ List.replicate (xs.length - k) (Value.int .i64 0)).toArray
theorem rowC_len (xs : List Int) (k : Nat) (hk : k ≤ xs.length) : (intsV (xs.take k)).length = k := by
  unfold intsV
  rw [List.length_map, List.length_take]
  omega
theorem rowC_set {xs : List Int} {k : Nat} {v : Int} (hv : xs[k]? = some v) : (rowC xs k).setIfInBounds k (.int .i64 v) = rowC xs (k + 1) := by
  obtain ⟨hk, e⟩ := List.getElem?_eq_some_iff.1 hv
  unfold rowC
  rw [List.setIfInBounds_toArray]
  congr 1
  rw [List.set_append_right _ _ (by rw [rowC_len xs k (by omega)]; exact Nat.le_refl _), rowC_len xs k (by omega), Nat.sub_self, show xs.length - k = (xs.length - (k + 1)) + 1 by omega, List.replicate_succ, List.set_cons_zero]
  unfold intsV
  rw [List.take_succ_eq_append_getElem hk, e, List.map_append]
  simp
theorem rowC_at {xs : List Int} {k : Nat} (hk : k < xs.length) : (rowC xs k)[k]? = some (.int .i64 0) := by
  unfold rowC
  rw [List.getElem?_toArray, List.getElem?_append_right (by rw [rowC_len xs k (by omega)]; exact Nat.le_refl _), rowC_len xs k (by omega), Nat.sub_self, List.getElem?_replicate, if_pos (by omega)]
theorem RowIs.place {m : HM} (I : Inv m) {T : Nat} {ps : List Int} {i : Nat} {xs : List Int} (h : RowIs m T ps i xs) (hT : 0 < T) : ∃ p, ps[i / 4]? = some p ∧ xs.length = T ∧ 0 ≤ p ∧ p ≤ 4096 := by
  obtain ⟨p, hp, hl, hR⟩ := h
  obtain ⟨x, hx, e, h1, h2, h3⟩ := hR 0 (by omega)
  have h4 := I.fit.inn x hx
  have h5 := I.fit.sz
  unfold pend at *
  exact ⟨p, hp, hl, by omega, by omega⟩
end
end Go.Proofs.YtdaklffbfadghaaGreat
