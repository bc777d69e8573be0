/- Slices that read as lists of cells: what such a reading gives to a walk, and what keeps it. Conditions: as each theorem says. -/
import Derived.Test.YtfiopjgpokdnoaaQ
import Derived.Laws.OwnMore
import Derived.Deep.Onto
import Derived.OwnWalk
import Derived.ProofKit
namespace Go.Proofs.Ytfiopjgpokdnoaa
open Go.RowKit

/-- the address A leads, below block B, to the cells xs (nothing is said of A where there are none) -/
def Rd (w : World) (B : Nat) (A : Option Addr) (xs : List Value) : Prop :=
  xs = [] ∨ ∃ b o, A = some ⟨b, o, none⟩ ∧ b < B ∧ ∀ j u, xs[j]? = some u → w.cell? ⟨b, o + j, none⟩ = some u
theorem addr_add (b o j : Nat) : (⟨b, o, none⟩ : Addr).add j = ⟨b, o + j, none⟩ := by unfold Addr.add; split <;> simp_all

section
variable {w w' : World} {B B' : Nat} {A : Option Addr} {xs : List Value}
theorem Rd.mono (h : Rd w B A xs) (hB : B ≤ B') : Rd w B' A xs := by
  rcases h with h | ⟨b, o, h1, h2, h3⟩
  · exact .inl h
  · exact .inr ⟨b, o, h1, by omega, h3⟩
theorem Rd.keep (h : Rd w B A xs) (hk : ∀ b o, b < B → w'.cell? ⟨b, o, none⟩ = w.cell? ⟨b, o, none⟩) : Rd w' B A xs := by
  rcases h with h | ⟨b, o, h1, h2, h3⟩
  · exact .inl h
  · exact .inr ⟨b, o, h1, h2, fun j u hu => (hk b _ h2).trans (h3 j u hu)⟩
theorem Rd.below (h : Rd w B A xs) (hb : Below B w w') : Rd w' B A xs := h.keep fun b o hlt => Below.cell hb (p := ⟨b, o, none⟩) hlt
theorem Rd.q (h : Rd w B A xs) (hq : Q w w') (hB : B ≤ w.heap.size) : Rd w' B A xs := h.keep fun b o hlt => hq.facts.1 b o (by omega)
theorem Rd.up (h : Rd w w.heap.size A xs) (hq : Q w w') : Rd w' w'.heap.size A xs := (h.q hq (Nat.le_refl _)).mono hq.size
theorem Rd.drew (h : Rd w B A xs) : Rd w.drew B A xs := h
theorem Rd.drewN (h : Rd w B A xs) (n : Nat) : Rd (w.drewN n) B A xs := h
theorem Rd.alloc (h : Rd w B A xs) (hB : B ≤ w.heap.size) (o : Obj) : Rd (w.alloc o) B A xs := h.q ((Q.refl _).alloc _) hB
theorem Rd.nil (w : World) (B : Nat) (A : Option Addr) : Rd w B A [] := .inl rfl
/-- there is an element: the address is one -/
theorem Rd.at_ (h : Rd w B A xs) (hn : 0 < xs.length) : ∃ b o, A = some ⟨b, o, none⟩ ∧ b < B ∧ ∀ j, (hj : j < xs.length) → w.cell? ⟨b, o + j, none⟩ = some xs[j] := by
  rcases h with rfl | ⟨b, o, h1, h2, h3⟩
  · simp at hn
  · exact ⟨b, o, h1, h2, fun j hj => h3 j _ (List.getElem?_eq_getElem hj)⟩
/-- a cut -/
theorem Rd.dropAt {b o : Nat} (h : Rd w B (some ⟨b, o, none⟩) xs) (k : Nat) : Rd w B (some ⟨b, o + k, none⟩) (xs.drop k) := by
  rcases h with rfl | ⟨b', o', h1, h2, h3⟩
  · exact .inl (by simp)
  · obtain ⟨rfl, rfl⟩ : b = b' ∧ o = o' := by simpa using h1
    exact .inr ⟨b, o + k, rfl, h2, fun j u hu => by rw [Nat.add_assoc]; exact h3 _ u (by rw [← hu, List.getElem?_drop])⟩
theorem Rd.take (h : Rd w B A xs) (k : Nat) : Rd w B A (xs.take k) := by
  rcases h with rfl | ⟨b, o, h1, h2, h3⟩
  · exact .inl (by simp)
  · refine .inr ⟨b, o, h1, h2, fun j u hu => h3 j u ?_⟩
    rw [List.getElem?_take] at hu
    split at hu
    · exact hu
    · cases hu
theorem Rd.cells {b o : Nat} (h : Rd w B (some ⟨b, o, none⟩) xs) : ∀ j u, xs[j]? = some u → w.cell? ((⟨b, o, none⟩ : Addr).add j) = some u := by
  rcases h with rfl | ⟨b', o', h1, h2, h3⟩
  · intro j u hu; simp at hu
  · intro j u hu
    obtain ⟨rfl, rfl⟩ : b = b' ∧ o = o' := by simpa using h1
    rw [addr_add]
    exact h3 j u hu
end
/-- a row of the call's own reads as its cells -/
theorem own_form {w : World} {base : Nat} {e : TypeId} {size : Nat} {v : Value} {n : Nat} {xs : List Value} (h : w.ownsRow base e size v n xs) :
    ∃ A c, v = .slice A n c ∧ n ≤ c ∧ c ≤ maxLen ∧ xs.length = n * size ∧ Rd w w.heap.size A xs := by
  have hl := h.1
  rcases h.2 with ⟨rfl, rfl⟩ | ⟨g, cap, cur, rfl, hg, hh, hn, hc, hs, ht⟩
  · exact ⟨none, 0, rfl, Nat.le_refl _, by simp [maxLen], by simpa using hl, .inl (List.eq_nil_of_length_eq_zero (by simpa using hl))⟩
  · refine ⟨some ⟨g, 0, none⟩, cap, rfl, hn, hc, hl, .inr ⟨g, 0, rfl, (Array.getElem?_eq_some_iff.1 hh).1, fun j u hu => ?_⟩⟩
    have := h.cells (g := g) rfl j u hu
    rw [show (⟨g, 0 + j, none⟩ : Addr) = (⟨g, 0, none⟩ : Addr).add j by unfold Addr.add; split <;> simp_all]
    exact this
theorem own_q {w w' : World} {base : Nat} {e : TypeId} {size : Nat} {v : Value} {n : Nat} {xs : List Value} (h : w.ownsRow base e size v n xs) (hq : Q w w') : w'.ownsRow base e size v n xs :=
  h.kept (row := none) ⟨hq.below.os, hq.below.tape, hq.below.output, hq.size, fun i hi _ => hq.below.block i hi⟩ (by cases hv : v.ownBlock <;> simp)
/-- behind an append to a row of the call's own: below the row's base nothing has turned -/
theorem below_own {w w1 : World} {base : Nat} {e : TypeId} {size : Nat} {v : Value} {n : Nat} {xs : List Value} (h : w.ownsRow base e size v n xs) (hg : w.grownBy w1 v.ownBlock) (hB : base ≤ w.heap.size) : Below base w w1 :=
  (Below.refl _ _).grown hg hB (fun k hk => (h.lt k hk).1)
theorem below_app {w w1 : World} {base : Nat} {e : TypeId} {size : Nat} {v : Value} {n : Nat} {xs : List Value} {o : Obj} (h : w.ownsRow base e size v n xs) (hg : (w.alloc o).grownBy w1 v.ownBlock) (hB : base ≤ w.heap.size) : Below base w w1 :=
  ((Below.refl _ _).alloc hB o).trans (below_own (h.alloc o) hg (by simp; omega))
theorem q_below {a w w' : World} {B : Nat} (hq : Q a w) (hb : Below B w w') (hB : a.heap.size ≤ B) : Q a w' := Below.trans hq (hb.mono hB)
/-- an element of a list of integers, in the walk's spelling -/
theorem ints_getElem {k : IntKind} (l : List Int) (j : Nat) (h : j < l.length) : (l.map (Value.int k))[j]? = some (.int k l[j]) := by
  simp [List.getElem?_map, List.getElem?_eq_getElem h]
theorem i64_info_parts {P : Program} {t : Nat} (h : (P.info? t).map (fun i => (i.zero, i.size, i.bytes)) = some (some (.int .i64 0), 1, 8)) :
    ∃ i, P.info? t = some i ∧ i.zero = some (.int .i64 0) ∧ i.size = 1 ∧ i.bytes = 8 := info_parts h
end Go.Proofs.Ytfiopjgpokdnoaa
