/- The acts of a heap in plain Lean, and what holds of every heap that New made. No program. Conditions: as each theorem says. -/
import Derived.Test.YtdaklffbfadghaaGreatHpN
namespace Go.Proofs.YtdaklffbfadghaaGreat
open Go.RowKit HP
set_option linter.unusedVariables false
def sizeB (n : Int) : Bool := decide (1 ≤ n) && decide (n ≤ 4096)
def countM (m : HM) : HM := { m with calls := m.calls + 1, failIn := if m.failIn = 0 then 0 else m.failIn - 1 }
def takenM (m : HM) (x : PB) : Int := if m.kind = 1 ∨ m.kind = 2 then pend x else m.top
def goneM (m : HM) (x : PB) : Int := if m.kind = 2 ∧ (m.live.any fun y => decide (x.1 < y.1)) = false then x.1 else m.top
def putM (m : HM) (x : PB) : HM := { m with live := insAt m.live (below m.live x.1) [x], top := takenM m x }
def cutM (m : HM) (k : Nat) : HM := { m with live := delAt m.live k 1 }
def takeM (m : HM) (k : Nat) (x : PB) : HM := { cutM m k with top := goneM (cutM m k) x }
def noteM (m : HM) : HM := { m with peak := max m.peak (used m.live) }
def allocM (m : HM) (n align : Int) : HM × Int × Int :=
  if (sizeB n && alignB align) = false then (m, 0, 1)
  else if m.failIn = 1 ∨ m.live.length = 64 then (countM m, 0, 3)
  else match roomM (countM m) n align with
    | none => (countM m, 0, 3)
    | some a => (noteM (putM (countM m) (a, undefs n.toNat)), a, 0)
/-- the block that begins there -/
def atM (m : HM) (at_ : Int) : PB := (m.live[below m.live at_]?).getD (0, [])
def freeM (m : HM) (at_ : Int) : HM × Int :=
  if has m.live at_ = false then (m, 9) else (takeM m (below m.live at_) (atM m at_), 0)
/-! the heap's parts read as the model's -/
theorem m_count (h : Hp) : (countH h).m = countM h.m := rfl
theorem m_put (h : Hp) (v : Value) (x : Bk) : ({ putH h v (putK h x) x with top := takenTop h x.pb } : Hp).m = putM h.m x.pb := by
  unfold putM Hp.m putH putK takenM takenTop
  simp only [insAt_map]
theorem m_take (h : Hp) (v : Value) (k : Nat) (x : PB) : ({ delH h v k with top := goneTop (delH h v k) x } : Hp).m = takeM h.m k x := by
  unfold takeM cutM goneM Hp.m delH goneTop
  simp only [delAt_map]
  congr 1
  rw [← delAt_map, List.any_map]
  rfl
theorem m_note (h : Hp) : ({ h with peak := max h.peak (used (h.bks.map (·.pb))) } : Hp).m = noteM h.m := rfl
/-- what holds of every heap -/
structure Inv (m : HM) : Prop where
  kind : 0 ≤ m.kind ∧ m.kind ≤ 3
  fit : Fit m.size m.live
  len : m.live.length ≤ 64
  top : 0 ≤ m.top ∧ m.top ≤ m.size
  bump : m.kind = 1 ∨ m.kind = 2 → ∀ x ∈ m.live, pend x ≤ m.top
  piece : m.kind = 3 → 1 ≤ m.piece ∧ m.piece ≤ m.size
  pool : m.kind = 3 → ∀ x ∈ m.live, x.1 % m.piece = 0 ∧ x.1 + m.piece ≤ m.size ∧ (x.2.length : Int) ≤ m.piece
  peak : used m.live ≤ m.peak ∧ m.peak ≤ 1000000
  failIn : 0 ≤ m.failIn ∧ m.failIn ≤ 1000
  calls : 0 ≤ m.calls
theorem Inv.near {h : Hp} (I : Inv h.m) : Near h.bks := by
  refine ⟨?_, fun x hx => ?_⟩
  · have := I.len
    simp only [Hp.m, List.length_map] at this
    omega
  · have h1 := I.fit.inn x.pb (List.mem_map_of_mem hx)
    have h2 := I.fit.sz
    unfold pend at h1
    omega
theorem Inv.ok {h : Hp} (I : Inv h.m) (hc : h.calls ≤ 1000000000) : Ok h :=
  ⟨I.kind, I.near, I.fit, ⟨I.top.1, by have := I.top.2; have := I.fit.sz.2; have : h.m.top = h.top := rfl; have : h.m.size = h.size := rfl; omega⟩, I.piece, ⟨by have := I.peak.1; have := used_nonneg h.m.live; have : h.m.peak = h.peak := rfl; omega, I.peak.2⟩, ⟨I.calls, hc⟩, I.failIn⟩
theorem Inv.count {m : HM} (I : Inv m) : Inv (countM m) :=
  ⟨I.kind, I.fit, I.len, I.top, I.bump, I.piece, I.pool, I.peak, by
    have := I.failIn
    show 0 ≤ (if m.failIn = 0 then 0 else m.failIn - 1) ∧ (if m.failIn = 0 then 0 else m.failIn - 1) ≤ 1000
    split <;> omega, by have := I.calls; show 0 ≤ m.calls + 1; omega⟩
end Go.Proofs.YtdaklffbfadghaaGreat
