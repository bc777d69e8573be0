/- Resize in plain Lean: what holds of every heap stays. No program. Conditions: as each theorem says. -/
import Derived.Test.YtegpkcbmgjoicaaGreatHqR
namespace Go.Proofs.YtegpkcbmgjoicaaGreat
open Go.RowKit HP
set_option linter.unusedVariables false
theorem Fit.set {size : Int} {l : List PB} (h : Fit size l) {k : Nat} {x x' : PB} (hx : l[k]? = some x) (h1 : x'.1 = x.1) (h2 : 1 ≤ x'.2.length) (h3 : pend x' ≤ size) (h4 : ∀ (j : Nat) (y : PB), k < j → l[j]? = some y → pend x' ≤ y.1) : Fit size (l.set k x') := by
  have hin := h.inn x (List.mem_of_getElem? hx)
  obtain ⟨hk, ek⟩ := List.getElem?_eq_some_iff.1 hx
  refine ⟨h.sz, fun y hy => ?_, ?_⟩
  · rcases List.mem_or_eq_of_mem_set hy with hy | rfl
    · exact h.inn y hy
    · exact ⟨by omega, h2, h3⟩
  · unfold sorted
    rw [List.pairwise_iff_getElem]
    intro i j hi hj hij
    rw [List.length_set] at hi hj
    rw [List.getElem_set, List.getElem_set]
    by_cases e1 : k = i
    · subst e1
      rw [if_pos rfl, if_neg (by omega)]
      exact h4 j _ hij (List.getElem?_eq_getElem hj)
    · rw [if_neg e1]
      have := (h.lt (List.getElem?_eq_getElem hi) (List.getElem?_eq_getElem hj) hij).2
      by_cases e2 : k = j
      · subst e2
        rw [if_pos rfl, h1, ← ek]
        exact this
      · rw [if_neg e2]
        exact this
/-- what a block must leave free to stay -/
theorem stays_spec {m : HM} (I : Inv m) {k : Nat} {x : PB} (hx : m.live[k]? = some x) {n : Nat} (hn : 1 ≤ n) (h : staysM m x n = true) : x.1 + n ≤ m.size ∧ (∀ (j : Nat) (y : PB), k < j → m.live[j]? = some y → x.1 + n ≤ y.1) ∧ (m.kind = 3 → (n : Int) ≤ m.piece) := by
  have hin := I.fit.inn x (List.mem_of_getElem? hx)
  have hp := hin.2.2
  unfold pend at hp
  unfold staysM at h
  rw [Bool.or_eq_true] at h
  by_cases hle : (n : Int) ≤ x.2.length
  · refine ⟨by omega, fun j y hj hy => ?_, fun e => ?_⟩
    · have := (I.fit.lt hx hy hj).2
      unfold pend at this
      omega
    · have := (I.pool e x (List.mem_of_getElem? hx)).2.2
      omega
  · rcases h with h | h
    · exact absurd (of_decide_eq_true h) hle
    · by_cases e0 : m.kind = 0
      · rw [if_pos e0] at h
        unfold freeB at h
        simp only [Bool.and_eq_true, Bool.not_eq_true', decide_eq_false_iff_not] at h
        refine ⟨by omega, fun j y hj hy => ?_, fun e => by omega⟩
        have hlt := I.fit.lt hx hy hj
        have h1 := List.any_eq_false.1 h.2 y (List.mem_of_getElem? hy)
        unfold clash at h1
        simp only [Bool.and_eq_true, decide_eq_true_eq] at h1
        rcases Int.lt_or_le y.1 (x.1 + n) with h2 | h2
        · exact absurd ⟨by omega, h2, by have := I.fit.inn y (List.mem_of_getElem? hy); unfold pend; omega⟩ h1
        · exact h2
      · rw [if_neg e0] at h
        by_cases e3 : m.kind = 3
        · rw [if_pos e3] at h
          have hnp := of_decide_eq_true h
          obtain ⟨p1, p2, p3⟩ := I.pool e3 x (List.mem_of_getElem? hx)
          refine ⟨by omega, fun j y hj hy => ?_, fun _ => hnp⟩
          have hlt := (I.fit.lt hx hy hj).1
          obtain ⟨q1, q2, q3⟩ := I.pool e3 y (List.mem_of_getElem? hy)
          have hpos := (I.piece e3).1
          have hd : (y.1 - x.1) % m.piece = 0 := by rw [Int.sub_emod, p1, q1]; simp
          have h5 : m.piece ≤ y.1 - x.1 := Int.le_of_dvd (by omega) (Int.dvd_of_emod_eq_zero hd)
          omega
        · rw [if_neg e3, Bool.and_eq_true] at h
          have h1 := of_decide_eq_true h.1
          have h2 := of_decide_eq_true h.2
          refine ⟨h2, fun j y hj hy => ?_, fun e => absurd e e3⟩
          have hk : m.kind = 1 ∨ m.kind = 2 := by have := I.kind; omega
          have hlt := (I.fit.lt hx hy hj).2
          have hb := I.bump hk y (List.mem_of_getElem? hy)
          have := I.fit.inn y (List.mem_of_getElem? hy)
          unfold pend at h1 hlt hb
          omega
theorem used_set (l : List PB) (k : Nat) (x x' : PB) (h : l[k]? = some x) : used (l.set k x') + (x.2.length : Int) = used l + (x'.2.length : Int) := by
  obtain ⟨hk, e⟩ := List.getElem?_eq_some_iff.1 h
  have h1 := used_del l k x h
  have h2 : (l.set k x')[k]? = some x' := List.getElem?_set_self hk
  have h3 := used_del (l.set k x') k x' h2
  have h4 : delAt (l.set k x') k 1 = delAt l k 1 := by
    unfold delAt
    rw [List.take_set_of_le (Nat.le_refl _), List.drop_set_of_lt (by omega)]
  rw [h4] at h3
  omega
theorem grow_live {m : HM} {k : Nat} {x : PB} {n : Nat} : (growM m k x n).live = m.live.set k (x.1, keptL x.2 n) := rfl
theorem grow_fit {m : HM} (I : Inv m) {k : Nat} {x : PB} (hx : m.live[k]? = some x) {n : Nat} (hn : 1 ≤ n) (h : staysM m x n = true) : Fit m.size (m.live.set k (x.1, keptL x.2 n)) := by
  obtain ⟨h1, h2, h3⟩ := stays_spec I hx hn h
  exact Fit.set I.fit hx rfl (by rw [keptL_len]; exact hn) (by unfold pend; rw [keptL_len]; exact h1) (fun j y hj hy => by unfold pend; rw [keptL_len]; exact h2 j y hj hy)
theorem Inv.grow {m : HM} (I : Inv m) {k : Nat} {x : PB} (hx : m.live[k]? = some x) {n : Nat} (hn : 1 ≤ n) (hn2 : n ≤ 4096) (h : staysM m x n = true) : Inv { growM m k x n with peak := 1000000 } := by
  obtain ⟨h1, h2, h3⟩ := stays_spec I hx hn h
  have hin := I.fit.inn x (List.mem_of_getElem? hx)
  have hpe : pend (x.1, keptL x.2 n) = x.1 + n := by unfold pend; rw [keptL_len]
  have hF := grow_fit I hx hn h
  refine ⟨I.kind, hF, ?_, ?_, ?_, I.piece, ?_, ⟨?_, Int.le_refl _⟩, I.failIn, I.calls⟩
  · show (m.live.set k _).length ≤ 64
    rw [List.length_set]
    exact I.len
  · show 0 ≤ (if pend x = markM m then takenM m _ else m.top) ∧ (if pend x = markM m then takenM m _ else m.top) ≤ m.size
    split
    · unfold takenM
      split
      · rw [hpe]
        omega
      · exact I.top
    · exact I.top
  · intro hk y hy
    have hk : m.kind = 1 ∨ m.kind = 2 := hk
    show pend y ≤ (if pend x = markM m then takenM m _ else m.top)
    have hmk : markM m = m.top := if_pos hk
    have htk : takenM m (x.1, keptL x.2 n) = x.1 + n := (if_pos hk).trans hpe
    rw [hmk, htk]
    have hy : y ∈ m.live.set k (x.1, keptL x.2 n) := hy
    obtain ⟨j, hj, e0⟩ := List.getElem_of_mem hy
    have hy' : (m.live.set k (x.1, keptL x.2 n))[j]? = some y := by rw [List.getElem?_eq_getElem hj, e0]
    have hj2 : j < m.live.length := by rw [List.length_set] at hj; exact hj
    by_cases e : k = j
    · subst e
      rw [List.getElem?_set_self hj2] at hy'
      obtain rfl := Option.some.inj hy'
      rw [hpe]
      split
      · exact Int.le_refl _
      · rename_i hne
        have hb := I.bump hk x (List.mem_of_getElem? hx)
        -- it stays without being the last one: it does not grow
        unfold staysM at h
        rw [if_neg (by omega), if_neg (by omega), Bool.or_eq_true, Bool.and_eq_true] at h
        rcases h with h | h
        · have := of_decide_eq_true h
          unfold pend at hb
          omega
        · exact absurd (of_decide_eq_true h.1) hne
    · rw [List.getElem?_set_ne e] at hy'
      have hb := I.bump hk y (List.mem_of_getElem? hy')
      split
      · rename_i heq
        rcases Nat.lt_or_gt_of_ne e with hlt | hgt
        · have h5 := (I.fit.lt hx hy' hlt).2
          have h6 := I.fit.inn y (List.mem_of_getElem? hy')
          unfold pend at h5 hb heq
          omega
        · have h5 := (I.fit.lt hy' hx hgt).2
          omega
      · exact hb
  · intro e y hy
    rcases List.mem_or_eq_of_mem_set hy with hy | rfl
    · exact I.pool e y hy
    · obtain ⟨p1, p2, p3⟩ := I.pool e x (List.mem_of_getElem? hx)
      exact ⟨p1, p2, by show ((keptL x.2 n).length : Int) ≤ m.piece; rw [keptL_len]; exact h3 e⟩
  · have := used_bound (m := { growM m k x n with peak := 0 }) hF (by show (m.live.set k _).length ≤ 65; rw [List.length_set]; have := I.len; omega)
    have e : used (m.live.set k (x.1, keptL x.2 n)) ≤ 300000 := this
    show used (m.live.set k _) ≤ 1000000
    omega
theorem alignOfM_pos (a : Int) : 1 ≤ alignOfM a ∧ alignOfM a ≤ 16 := by
  unfold alignOfM
  split
  · omega
  · split
    · omega
    · split
      · omega
      · split <;> omega
/-- the same, but for how many there are -/
structure Inv0 (m : HM) : Prop where
  kind : 0 ≤ m.kind ∧ m.kind ≤ 3
  fit : Fit m.size m.live
  top : 0 ≤ m.top ∧ m.top ≤ m.size
  bump : m.kind = 1 ∨ m.kind = 2 → ∀ x ∈ m.live, pend x ≤ m.top
  piece : m.kind = 3 → 1 ≤ m.piece ∧ m.piece ≤ m.size
  pool : m.kind = 3 → ∀ x ∈ m.live, x.1 % m.piece = 0 ∧ x.1 + m.piece ≤ m.size ∧ (x.2.length : Int) ≤ m.piece
  peak : used m.live ≤ m.peak ∧ m.peak ≤ 1000000
  failIn : 0 ≤ m.failIn ∧ m.failIn ≤ 1000
  calls : 0 ≤ m.calls
theorem Inv0.inv {m : HM} (I : Inv0 m) (h : m.live.length ≤ 64) : Inv m := ⟨I.kind, I.fit, h, I.top, I.bump, I.piece, I.pool, I.peak, I.failIn, I.calls⟩
theorem Inv.putK {m : HM} (I : Inv m) (x : PB) {al : Int} (hal : 1 ≤ al) (h1 : 1 ≤ x.2.length) (hr : roomM m (x.2.length : Int) al = some x.1) : Inv0 { putM m x with peak := 1000000 } := by
  obtain ⟨a1, a2, a3, a4, a5, a6⟩ := room_spec I (by omega) hal hr
  have hp : pend x = x.1 + x.2.length := rfl
  refine ⟨I.kind, Fit.insert I.fit a1 h1 (by rw [hp]; exact a2) (fun y hy => by unfold Apart; rw [hp]; exact a3 y hy), ?_, ?_, I.piece, ?_, ⟨?_, Int.le_refl _⟩, I.failIn, I.calls⟩
  · show 0 ≤ takenM m x ∧ takenM m x ≤ m.size
    unfold takenM
    split
    · rw [hp]; omega
    · exact I.top
  · intro e y hy
    show pend y ≤ takenM m x
    have e : m.kind = 1 ∨ m.kind = 2 := e
    unfold takenM
    rw [if_pos e]
    rcases insAt_mem.1 hy with rfl | hy
    · exact Int.le_refl _
    · have := I.bump e y hy
      have := a4 e
      omega
  · intro e y hy
    rcases insAt_mem.1 hy with rfl | hy
    · exact a5 e
    · exact I.pool e y hy
  · show used (insAt m.live _ _) ≤ 1000000
    rw [used_ins]
    have h7 := used_bound (m := m) I.fit (by have := I.len; omega)
    have h8 := I.fit.sz
    omega
theorem Inv0.take {m : HM} (I : Inv0 m) (k : Nat) (x : PB) (h : m.live[k]? = some x) : Inv0 (takeM m k x) := by
  have hk := (List.getElem?_eq_some_iff.1 h).1
  have hx := I.fit.inn x (List.mem_of_getElem? h)
  refine ⟨I.kind, Fit.delete I.fit k, ?_, ?_, I.piece, fun e y hy => I.pool e y (delAt_mem hy), ⟨?_, I.peak.2⟩, I.failIn, I.calls⟩
  · show 0 ≤ goneM (cutM m k) x ∧ goneM (cutM m k) x ≤ m.size
    unfold goneM
    split
    · refine ⟨hx.1, ?_⟩
      have := hx.2.2
      unfold pend at this
      omega
    · exact I.top
  · intro e y hy
    show pend y ≤ goneM (cutM m k) x
    have hy : y ∈ delAt m.live k 1 := hy
    unfold goneM
    split
    · rename_i hc
      have h1 := List.any_eq_false.1 hc.2 y hy
      simp only [decide_eq_true_eq] at h1
      obtain ⟨j, hj, rfl⟩ := List.getElem_of_mem hy
      have hj' : (delAt m.live k 1)[j]? = some (delAt m.live k 1)[j] := List.getElem?_eq_getElem hj
      rw [delAt_get _ _ _ (by omega)] at hj'
      split at hj'
      · exact (I.fit.lt hj' h (by omega)).2
      · have := (I.fit.lt h hj' (by omega)).1
        omega
    · exact I.bump e y (delAt_mem hy)
  · show used (delAt m.live k 1) ≤ m.peak
    have := used_del m.live k x h
    have := I.peak.1
    omega
/-- a block that has moved is where it was, among the others -/
theorem find_again {size : Int} {l : List PB} (F : Fit size l) {x : PB} (hx : x ∈ l) : l[below l x.1]? = some x := by
  obtain ⟨z, hz, e⟩ := (has_iff F x.1).1 (List.any_eq_true.2 ⟨x, hx, by simp⟩)
  obtain ⟨i, hi, rfl⟩ := List.getElem_of_mem hx
  have hi' := List.getElem?_eq_getElem hi
  have : below l l[i].1 = i := by
    rcases Nat.lt_trichotomy (below l l[i].1) i with h | h | h
    · have := (F.lt hz hi' h).1; omega
    · exact h
    · have := (F.lt hi' hz h).1; omega
  rw [this]
  exact hi'
theorem Inv.move {m : HM} (I : Inv m) {x : PB} (hx : x ∈ m.live) {al : Int} (hal : 1 ≤ al) {n : Nat} {to : Int} (hn : 1 ≤ n) (hr : roomM m (n : Int) al = some to) :
    Inv { moveM m x to n with peak := 1000000 } ∧ Fit m.size (putM m (to, keptL x.2 n)).live ∧ (putM m (to, keptL x.2 n)).live[below (putM m (to, keptL x.2 n)).live x.1]? = some x ∧ 0 ≤ to ∧ to + n ≤ m.size := by
  have I2 : Inv0 { putM m (to, keptL x.2 n) with peak := 1000000 } := I.putK (to, keptL x.2 n) hal (by rw [keptL_len]; exact hn) (by rw [keptL_len]; exact hr)
  have hm : x ∈ (putM m (to, keptL x.2 n)).live := insAt_mem.2 (.inr hx)
  have hf := find_again I2.fit hm
  have hk := (List.getElem?_eq_some_iff.1 hf).1
  have hlen : (putM m (to, keptL x.2 n)).live.length = m.live.length + 1 := insAt_len _ _ _ (below_le _ _)
  obtain ⟨a1, a2, -⟩ := room_spec I (by omega) hal hr
  refine ⟨(I2.take _ x hf).inv ?_, I2.fit, hf, a1, a2⟩
  show (delAt (putM m (to, keptL x.2 n)).live _ 1).length ≤ 64
  have hk : below (putM m (to, keptL x.2 n)).live x.1 < (putM m (to, keptL x.2 n)).live.length := hk
  have e := delAt_len (putM m (to, keptL x.2 n)).live (below (putM m (to, keptL x.2 n)).live x.1) 1 (by omega)
  have := I.len
  rw [e]
  omega
theorem resize_inv {m : HM} (I : Inv m) (at_ n : Int) : Inv (resizeM m at_ n).1 := by
  unfold resizeM
  split
  · exact I
  · rename_i hs
    split
    · exact I
    · rename_i hh
      split
      · exact I.count
      · obtain ⟨x, hx, hxa, hat⟩ := at_eq I.fit (by simpa using hh)
        obtain ⟨kn, rfl, hk1, hk2⟩ : ∃ kn : Nat, n = (kn : Int) ∧ 1 ≤ kn ∧ kn ≤ 4096 := by
          unfold sizeB at hs
          simp at hs
          exact ⟨n.toNat, by omega, by omega, by omega⟩
        have hm : x ∈ m.live := List.mem_of_getElem? hx
        rw [hat]
        split
        · rename_i hst
          exact (I.count.grow hx hk1 hk2 hst).note I.peak.2
        · split
          · exact I.count
          · rename_i to hr
            exact (I.count.move hm (alignOfM_pos at_).1 hk1 hr).1.note I.peak.2
end Go.Proofs.YtegpkcbmgjoicaaGreat
