/- Layouts of one number, and such a one that may be nothing: they are counted. Conditions: as each theorem says. -/
import Derived.Test.YtbgbalfhbficaaaCelE
namespace Go.Proofs.Ytbgbalfhbficaaa
open Go.RowKit
set_option linter.unusedVariables false
set_option linter.unusedSimpArgs false
/-- what has been counted, in row g -/
structure Cn (w : World) (g : Nat) (c d : Int) : Prop where
  lt : g < w.heap.size
  c0 : w.cell? ⟨g, 0, none⟩ = some (.int .i64 c)
  c1 : w.cell? ⟨g, 1, none⟩ = some (.int .i64 d)
  c2 : w.cell? ⟨g, 2, none⟩ = some (.bool false)
  f0 : w.frozen? ⟨g, 0, none⟩ = false
  f1 : w.frozen? ⟨g, 1, none⟩ = false
  f2 : w.frozen? ⟨g, 2, none⟩ = false
theorem Cn.up {w w' : World} {g : Nat} {c d : Int} (h : Cn w g c d) (hq : Q w w') : Cn w' g c d := ⟨Nat.lt_of_lt_of_le h.lt hq.size, (hq.facts.1 _ _ h.lt).trans h.c0, (hq.facts.1 _ _ h.lt).trans h.c1, (hq.facts.1 _ _ h.lt).trans h.c2, (hq.facts.2.1 _ _ h.lt).trans h.f0, (hq.facts.2.1 _ _ h.lt).trans h.f1, (hq.facts.2.1 _ _ h.lt).trans h.f2⟩
theorem Cn.set0 {w : World} {g : Nat} {c d : Int} (h : Cn w g c d) (e : Int) : Cn (w.setCell ⟨g, 0, none⟩ (.int .i64 e)) g e d :=
  ⟨by simpa using h.lt, World.cell?_setCell_same _ _ _ h.c0, by rw [World.cell?_setCell_other _ _ _ _ (by simp)]; exact h.c1, by rw [World.cell?_setCell_other _ _ _ _ (by simp)]; exact h.c2, by rw [World.frozen?_setCell]; exact h.f0, by rw [World.frozen?_setCell]; exact h.f1, by rw [World.frozen?_setCell]; exact h.f2⟩
theorem Cn.set1 {w : World} {g : Nat} {c d : Int} (h : Cn w g c d) (e : Int) : Cn (w.setCell ⟨g, 1, none⟩ (.int .i64 e)) g c e :=
  ⟨by simpa using h.lt, by rw [World.cell?_setCell_other _ _ _ _ (by simp)]; exact h.c0, World.cell?_setCell_same _ _ _ h.c1, by rw [World.cell?_setCell_other _ _ _ _ (by simp)]; exact h.c2, by rw [World.frozen?_setCell]; exact h.f0, by rw [World.frozen?_setCell]; exact h.f1, by rw [World.frozen?_setCell]; exact h.f2⟩
theorem Cn.set2 {w : World} {g : Nat} {c d : Int} (h : Cn w g c d) : Cn (w.setCell ⟨g, 2, none⟩ (.bool false)) g c d :=
  ⟨by simpa using h.lt, by rw [World.cell?_setCell_other _ _ _ _ (by simp)]; exact h.c0, by rw [World.cell?_setCell_other _ _ _ _ (by simp)]; exact h.c1, World.cell?_setCell_same _ _ _ h.c2, by rw [World.frozen?_setCell]; exact h.f0, by rw [World.frozen?_setCell]; exact h.f1, by rw [World.frozen?_setCell]; exact h.f2⟩
def LookP (B : World) (g : Nat) (c d : Int) (e : Ending) (w' : World) : Prop := e = .returned (.tuple #[]) ∧ Q B w' ∧ Cn w' g c d
set_option maxRecDepth 100000 in
set_option maxHeartbeats 1000000 in
theorem look_leaf {n s : Int} (hn : Lf n s) (B w : World) (g : Nat) (c d p : Int) (hB : B.heap.size ≤ g) (hq : Q B w) (h : Cn w g c d) (hc0 : 0 ≤ c) (hc1 : c ≤ 10) (hp0 : 0 ≤ p) (hp1 : p ≤ 3) :
    Calls Try.prog 62 #[.pointer (some ⟨g, 0, none⟩), lfV n, .int .i64 p] w (LookP B g (c + 1) (if d < p then p else d)) := by
  obtain ⟨m, hm⟩ : ∃ m, (if d < p then p else d) = m := ⟨_, rfl⟩
  rw [hm]
  have HM := hide hm
  clear hm
  obtain ⟨w1, hw1⟩ : ∃ w1, w.alloc (.cells #[.int .i64 2, .int .i64 n, .bool false, .slice none 0 0] 24) = w1 := ⟨_, rfl⟩
  obtain ⟨hq1, hs1, hc⟩ := box1 hw1
  have hgne : g ≠ w.heap.size := by have := h.lt; omega
  obtain ⟨w2, hw2⟩ : ∃ w2, w1.setCell ⟨g, 0, none⟩ (.int .i64 (c + 1)) = w2 := ⟨_, rfl⟩
  have hh2 : Cn w2 g (c + 1) d := by rw [← hw2]; exact (h.up hq1).set0 _
  obtain ⟨w3, hw3⟩ : ∃ w3, w2.setCell ⟨g, 1, none⟩ (.int .i64 m) = w3 := ⟨_, rfl⟩
  have hh3 : Cn w3 g (c + 1) m := by rw [← hw3]; exact hh2.set1 _
  obtain ⟨w4, hw4⟩ : ∃ w4, w3.setCell ⟨g, 2, none⟩ (.bool false) = w4 := ⟨_, rfl⟩
  have hh4 : Cn w4 g (c + 1) m := by rw [← hw4]; exact hh3.set2
  obtain ⟨w5, hw5⟩ : ∃ w5, w4.setCell ⟨g, 2, none⟩ (.bool false) = w5 := ⟨_, rfl⟩
  have hh5 : Cn w5 g (c + 1) m := by rw [← hw5]; exact hh4.set2
  have hqB5 : Q B w5 := by rw [← hw5, ← hw4, ← hw3, ← hw2]; exact ((((hq.trans hq1).set hB _).set hB _).set hB _).set hB _
  have hk : ∀ (j : Nat) u, (#[Value.int .i64 2, .int .i64 n, .bool false, .slice none 0 0] : Array Value)[j]? = some u → w3.cell? ⟨w.heap.size, j, none⟩ = some u ∧ w4.cell? ⟨w.heap.size, j, none⟩ = some u ∧ w5.cell? ⟨w.heap.size, j, none⟩ = some u := fun j u hu => by
    have e3 : w3.cell? ⟨w.heap.size, j, none⟩ = some u := by
      rw [← hw3, World.cell?_setCell_other _ _ _ _ (by simp [hgne]), ← hw2, World.cell?_setCell_other _ _ _ _ (by simp [hgne])]
      exact hc j u hu
    have e4 : w4.cell? ⟨w.heap.size, j, none⟩ = some u := by
      rw [← hw4, World.cell?_setCell_other _ _ _ _ (by simp [hgne])]
      exact e3
    refine ⟨e3, e4, ?_⟩
    rw [← hw5, World.cell?_setCell_other _ _ _ _ (by simp [hgne])]
    exact e4
  have hww : IntKind.i64.wrap (c + 1) = c + 1 := by rw [IntKind.wrap_i64]; omega
  have d1 : decide ((60 : Int) < c + 1) = false := by simp; omega
  have d2 : decide ((5 : Int) < p) = false := by simp; omega
  have d3 : decide ((64 : Int) < n) = false := by rcases hn with ⟨rfl, -⟩ | ⟨rfl, -⟩ <;> rfl
  have H1 := hide (h.up hq1)
  have H2 := hide hh2
  have H3 := hide hh3
  have H4 := hide hh4
  have H5 := hide hh5
  have HK := hide hk
  have HW1 := hide hw1
  have HW2 := hide hw2
  have HW3 := hide hw3
  have HW4 := hide hw4
  have HW5 := hide hw5
  have HQ5 := hide hqB5
  unfold LookP
  clear h hq hc hgne hh2 hh3 hh4 hh5 hk hw1 hw2 hw3 hw4 hw5 hqB5 hn
  go_enter Try.func62, Try.ntmps62
  go_upto_region 1 with fail
  rw [HW1.out]
  obtain ⟨a1, a2, a3, a4, a5, a6, a7⟩ := H1.out
  go_upto_region 2 with fail
  rw [HW2.out]
  clear a1 a2 a3 a4 a5 a6 a7
  obtain ⟨a1, a2, a3, a4, a5, a6, a7⟩ := H2.out
  go_upto_region 3 with fail
  rw [HM.out, HW3.out]
  clear a1 a2 a3 a4 a5 a6 a7
  obtain ⟨a1, a2, a3, a4, a5, a6, a7⟩ := H3.out
  have z3 := (HK.out 3 _ rfl).1
  go_upto_region 4 with fail
  rw [HW4.out]
  clear a1 a2 a3 a4 a5 a6 a7 z3
  obtain ⟨a1, a2, a3, a4, a5, a6, a7⟩ := H4.out
  have z0 := (HK.out 0 _ rfl).2.1
  have z1 := (HK.out 1 _ rfl).2.1
  go_upto_region 19 with fail
  rw [HW5.out]
  clear a1 a2 a3 a4 a5 a6 a7 z0 z1
  obtain ⟨a1, a2, a3, a4, a5, a6, a7⟩ := H5.out
  have z3 := (HK.out 3 _ rfl).2.2
  go_wp2_with fail
  clear a1 a2 a3 a4 a5 a6 a7 z3
  go_loopw [128] (fun vi wr => vi = .int .i64 0 ∧ wr = w5) (fun vi _ => 0)
  case atStart => exact ⟨by go_num, rfl⟩
  case round =>
    obtain ⟨rfl, rfl⟩ := hrel
    go_wp2_with fail
    exact bodyPost_end (v := .tuple #[]) (by simp [results, Try.results62, go_sem]) rfl ⟨rfl, HQ5.out, H5.out⟩
end Go.Proofs.Ytbgbalfhbficaaa
