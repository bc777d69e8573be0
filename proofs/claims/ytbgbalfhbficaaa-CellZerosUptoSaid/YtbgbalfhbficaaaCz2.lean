/- Layouts of one number, and such a one that may be nothing: they are counted. Layouts of one number, and such a one that may be nothing: they are right. Layouts of one number, and such a one that may be nothing: Validate. A region that draws its order and holds ONE call that writes what was there, and a last store: whatever reads memory comes before the call; what may come behind it reads none. Steps of a region that draws its order: what each operation yields, as an equation; and how a step of each make is shown. A region that draws its order, with one operation (a call that turns what it will) for which all that stand before it are waited for, and which all that stand behind it wait for: one walk of the lexical order serves. copy and clear at slices whose elements have k cells, in a row that is known whole. A region that draws its order, T being what may turn: every operation by itself. A region that draws its order, in which some operations (calls) turn what they will, keeping the world in a class C: every operation by itself; some may be guarded by what another one yields; what a loud one may spoil must have been used up, or not be there yet. Steps of a region that draws its order, more of them. roomOf at a layout of one number, and at one that may be nothing. Size of the layouts that the walk of known meets. Conditions: as each theorem says. -/
import Derived.Test.YtbgbalfhbficaaaCz1
import Derived.Laws.Rows
import Derived.Deep.Quiet
import Derived.BigQuiet
import Derived.Laws.CopyOwn
import Derived.Lib.SliceRun
namespace Go.Proofs.Ytbgbalfhbficaaa
set_option maxRecDepth 100000
set_option maxHeartbeats 2000000
open Go.RowKit
set_option linter.unusedVariables false
set_option linter.unusedSimpArgs false
structure Cn (w : World) (g : Nat) (c d : Int) : Prop where
 lt : g < w.heap.size
 c0 : w.cell? ⟨g, 0, none⟩ = some (.int .i64 c)
 c1 : w.cell? ⟨g, 1, none⟩ = some (.int .i64 d)
 c2 : w.cell? ⟨g, 2, none⟩ = some (.bool false)
 f0 : w.frozen? ⟨g, 0, none⟩ = false
 f1 : w.frozen? ⟨g, 1, none⟩ = false
 f2 : w.frozen? ⟨g, 2, none⟩ = false
theorem Cn.up {w w' : World} {g : Nat} {c d : Int} (h : Cn w g c d) (hq : Q w w') : Cn w' g c d := ⟨Nat.lt_of_lt_of_le h.lt hq.size, (hq.facts.1 _ _ h.lt).trans h.c0, (hq.facts.1 _ _ h.lt).trans h.c1, (hq.facts.1 _ _ h.lt).trans h.c2, (hq.facts.2.1 _ _ h.lt).trans h.f0, (hq.facts.2.1 _ _ h.lt).trans h.f1, (hq.facts.2.1 _ _ h.lt).trans h.f2⟩
theorem Cn.set0 {w : World} {g : Nat} {c d : Int} (h : Cn w g c d) (e : Int) : Cn (w.setCell ⟨g, 0, none⟩ (.int .i64 e)) g e d :=
 ⟨by simpa using h.lt, World.cell?_setCell_same _ _ _ h.c0, by rw [World.cell?_setCell_other _ _ _ _ (by simp)]; exact h.c1, by rw [World.cell?_setCell_other _ _ _ _ (by simp)]; exact h.c2, by rw [World.frozen?_setCell]; exact h.f0, by rw [World.frozen?_setCell]; exact h.f1, by rw [World.frozen?_setCell]; exact h.f2⟩
theorem Cn.set1 {w : World} {g : Nat} {c d : Int} (h : Cn w g c d) (e : Int) : Cn (w.setCell ⟨g, 1, none⟩ (.int .i64 e)) g c e :=
 ⟨by simpa using h.lt, by rw [World.cell?_setCell_other _ _ _ _ (by simp)]; exact h.c0, World.cell?_setCell_same _ _ _ h.c1, by rw [World.cell?_setCell_other _ _ _ _ (by simp)]; exact h.c2, by rw [World.frozen?_setCell]; exact h.f0, by rw [World.frozen?_setCell]; exact h.f1, by rw [World.frozen?_setCell]; exact h.f2⟩
theorem Cn.set2 {w : World} {g : Nat} {c d : Int} (h : Cn w g c d) : Cn (w.setCell ⟨g, 2, none⟩ (.bool false)) g c d :=
 ⟨by simpa using h.lt, by rw [World.cell?_setCell_other _ _ _ _ (by simp)]; exact h.c0, by rw [World.cell?_setCell_other _ _ _ _ (by simp)]; exact h.c1, World.cell?_setCell_same _ _ _ h.c2, by rw [World.frozen?_setCell]; exact h.f0, by rw [World.frozen?_setCell]; exact h.f1, by rw [World.frozen?_setCell]; exact h.f2⟩
def LookP (B : World) (g : Nat) (c d : Int) (e : Ending) (w' : World) : Prop := e = .returned (.tuple #[]) ∧ Q B w' ∧ Cn w' g c d
theorem look_leaf {n s : Int} (hn : Lf n s) (B w : World) (g : Nat) (c d p : Int) (hB : B.heap.size ≤ g) (hq : Q B w) (h : Cn w g c d) (hc0 : 0 ≤ c) (hc1 : c ≤ 10) (hp0 : 0 ≤ p) (hp1 : p ≤ 3) :
  Calls Try.prog 62 #[.pointer (some ⟨g, 0, none⟩), lfV n, .int .i64 p] w (LookP B g (c + 1) (if d < p then p else d)) := by
 obtain ⟨m, hm⟩ : ∃ m, (if d < p then p else d) = m := ⟨_, rfl⟩
 rw [hm]
 have HM := hide hm
 clear hm
 obtain ⟨w1, hw1⟩ : ∃ w1, w.alloc (.cells #[.int .i64 2, .int .i64 n, .bool false, .slice none 0 0] 24) = w1 := ⟨_, rfl⟩
 obtain ⟨hq1, hs1, hc⟩ := box1 hw1
 have hgne : g ≠ w.heap.size := by have := h.lt; omega
 obtain ⟨w2, hw2⟩ : ∃ w2, w1.setCell ⟨g, 0, none⟩ (.int .i64 (c + 1)) = w2 := ⟨_, rfl⟩
 have hh2 : Cn w2 g (c + 1) d := by rw [← hw2]; exact (h.up hq1).set0 _
 obtain ⟨w3, hw3⟩ : ∃ w3, w2.setCell ⟨g, 1, none⟩ (.int .i64 m) = w3 := ⟨_, rfl⟩
 have hh3 : Cn w3 g (c + 1) m := by rw [← hw3]; exact hh2.set1 _
 obtain ⟨w4, hw4⟩ : ∃ w4, w3.setCell ⟨g, 2, none⟩ (.bool false) = w4 := ⟨_, rfl⟩
 have hh4 : Cn w4 g (c + 1) m := by rw [← hw4]; exact hh3.set2
 obtain ⟨w5, hw5⟩ : ∃ w5, w4.setCell ⟨g, 2, none⟩ (.bool false) = w5 := ⟨_, rfl⟩
 have hh5 : Cn w5 g (c + 1) m := by rw [← hw5]; exact hh4.set2
 have hqB5 : Q B w5 := by rw [← hw5, ← hw4, ← hw3, ← hw2]; exact ((((hq.trans hq1).set hB _).set hB _).set hB _).set hB _
 have hk : ∀ (j : Nat) u, (#[Value.int .i64 2, .int .i64 n, .bool false, .slice none 0 0] : Array Value)[j]? = some u → w3.cell? ⟨w.heap.size, j, none⟩ = some u ∧ w4.cell? ⟨w.heap.size, j, none⟩ = some u ∧ w5.cell? ⟨w.heap.size, j, none⟩ = some u := fun j u hu => by
  have e3 : w3.cell? ⟨w.heap.size, j, none⟩ = some u := by
   rw [← hw3, World.cell?_setCell_other _ _ _ _ (by simp [hgne]), ← hw2, World.cell?_setCell_other _ _ _ _ (by simp [hgne])]
   exact hc j u hu
  have e4 : w4.cell? ⟨w.heap.size, j, none⟩ = some u := by
   rw [← hw4, World.cell?_setCell_other _ _ _ _ (by simp [hgne])]
   exact e3
  refine ⟨e3, e4, ?_⟩
  rw [← hw5, World.cell?_setCell_other _ _ _ _ (by simp [hgne])]
  exact e4
 have hww : IntKind.i64.wrap (c + 1) = c + 1 := by rw [IntKind.wrap_i64]; omega
 have d1 : decide ((60 : Int) < c + 1) = false := by simp; omega
 have d2 : decide ((5 : Int) < p) = false := by simp; omega
 have d3 : decide ((64 : Int) < n) = false := by rcases hn with ⟨rfl, -⟩ | ⟨rfl, -⟩ <;> rfl
 have H1 := hide (h.up hq1)
 have H2 := hide hh2
 have H3 := hide hh3
 have H4 := hide hh4
 have H5 := hide hh5
 have HK := hide hk
 have HW1 := hide hw1
 have HW2 := hide hw2
 have HW3 := hide hw3
 have HW4 := hide hw4
 have HW5 := hide hw5
 have HQ5 := hide hqB5
 unfold LookP
 clear h hq hc hgne hh2 hh3 hh4 hh5 hk hw1 hw2 hw3 hw4 hw5 hqB5 hn
 go_enter Try.func62, Try.ntmps62
 go_upto_region 1 with fail
 rw [HW1.out]
 obtain ⟨a1, a2, a3, a4, a5, a6, a7⟩ := H1.out
 go_upto_region 2 with fail
 rw [HW2.out]
 clear a1 a2 a3 a4 a5 a6 a7
 obtain ⟨a1, a2, a3, a4, a5, a6, a7⟩ := H2.out
 go_upto_region 3 with fail
 rw [HM.out, HW3.out]
 clear a1 a2 a3 a4 a5 a6 a7
 obtain ⟨a1, a2, a3, a4, a5, a6, a7⟩ := H3.out
 have z3 := (HK.out 3 _ rfl).1
 go_upto_region 4 with fail
 rw [HW4.out]
 clear a1 a2 a3 a4 a5 a6 a7 z3
 obtain ⟨a1, a2, a3, a4, a5, a6, a7⟩ := H4.out
 have z0 := (HK.out 0 _ rfl).2.1
 have z1 := (HK.out 1 _ rfl).2.1
 go_upto_region 19 with fail
 rw [HW5.out]
 clear a1 a2 a3 a4 a5 a6 a7 z0 z1
 obtain ⟨a1, a2, a3, a4, a5, a6, a7⟩ := H5.out
 have z3 := (HK.out 3 _ rfl).2.2
 go_wp2_with fail
 clear a1 a2 a3 a4 a5 a6 a7 z3
 go_loopw [128] (fun vi wr => vi = .int .i64 0 ∧ wr = w5) (fun vi _ => 0)
 case atStart => exact ⟨by go_num, rfl⟩
 case round =>
  obtain ⟨rfl, rfl⟩ := hrel
  go_wp2_with fail
  exact bodyPost_end (v := .tuple #[]) (by simp [results, Try.results62, go_sem]) rfl ⟨rfl, HQ5.out, H5.out⟩
theorem look_opt (B w : World) (g hh : Nat) (hB : B.heap.size ≤ g) (hq : Q B w) (h8 : Op8 B hh) (h : Cn w g 0 0) :
  Calls Try.prog 62 #[.pointer (some ⟨g, 0, none⟩), opV hh, .int .i64 1] w (LookP B g 2 2) := by
 obtain ⟨w1, hw1⟩ : ∃ w1, w.alloc (.cells #[.int .i64 4, .int .i64 0, .bool false, .slice (some ⟨hh, 0, none⟩) 1 1] 24) = w1 := ⟨_, rfl⟩
 obtain ⟨hq1, hs1, hc⟩ := box1 hw1
 have hgne : g ≠ w.heap.size := by have := h.lt; omega
 obtain ⟨w2, hw2⟩ : ∃ w2, w1.setCell ⟨g, 0, none⟩ (.int .i64 1) = w2 := ⟨_, rfl⟩
 have hh2 : Cn w2 g 1 0 := by rw [← hw2]; exact (h.up hq1).set0 _
 obtain ⟨w3, hw3⟩ : ∃ w3, w2.setCell ⟨g, 1, none⟩ (.int .i64 1) = w3 := ⟨_, rfl⟩
 have hh3 : Cn w3 g 1 1 := by rw [← hw3]; exact hh2.set1 _
 obtain ⟨w4, hw4⟩ : ∃ w4, w3.setCell ⟨g, 2, none⟩ (.bool false) = w4 := ⟨_, rfl⟩
 have hh4 : Cn w4 g 1 1 := by rw [← hw4]; exact hh3.set2
 have hqB4 : Q B w4 := by rw [← hw4, ← hw3, ← hw2]; exact (((hq.trans hq1).set hB _).set hB _).set hB _
 have hk : ∀ (j : Nat) u, (#[Value.int .i64 4, .int .i64 0, .bool false, .slice (some ⟨hh, 0, none⟩) 1 1] : Array Value)[j]? = some u → w3.cell? ⟨w.heap.size, j, none⟩ = some u ∧ w4.cell? ⟨w.heap.size, j, none⟩ = some u := fun j u hu => by
  have e3 : w3.cell? ⟨w.heap.size, j, none⟩ = some u := by
   rw [← hw3, World.cell?_setCell_other _ _ _ _ (by simp [hgne]), ← hw2, World.cell?_setCell_other _ _ _ _ (by simp [hgne])]
   exact hc j u hu
  refine ⟨e3, ?_⟩
  rw [← hw4, World.cell?_setCell_other _ _ _ _ (by simp [hgne])]
  exact e3
 have H1 := hide (h.up hq1)
 have H2 := hide hh2
 have H3 := hide hh3
 have H4 := hide hh4
 have HK := hide hk
 have HW1 := hide hw1
 have HW2 := hide hw2
 have HW3 := hide hw3
 have HW4 := hide hw4
 have HQ4 := hide hqB4
 have H8 := hide h8
 unfold LookP
 clear h hq hc hgne hh2 hh3 hh4 hk hw1 hw2 hw3 hw4 hqB4 h8
 go_enter Try.func62, Try.ntmps62
 go_upto_region 1 with fail
 rw [HW1.out]
 obtain ⟨a1, a2, a3, a4, a5, a6, a7⟩ := H1.out
 go_upto_region 2 with fail
 rw [HW2.out]
 clear a1 a2 a3 a4 a5 a6 a7
 obtain ⟨a1, a2, a3, a4, a5, a6, a7⟩ := H2.out
 go_upto_region 3 with fail
 rw [HW3.out]
 clear a1 a2 a3 a4 a5 a6 a7
 obtain ⟨a1, a2, a3, a4, a5, a6, a7⟩ := H3.out
 have z3 := (HK.out 3 _ rfl).1
 go_upto_region 4 with fail
 rw [HW4.out]
 clear a1 a2 a3 a4 a5 a6 a7 z3
 obtain ⟨a1, a2, a3, a4, a5, a6, a7⟩ := H4.out
 have z0 := (HK.out 0 _ rfl).2
 have z3 := (HK.out 3 _ rfl).2
 go_wp2_with fail
 clear a1 a2 a3 a4 a5 a6 a7 z0 z3
 go_loopw [128] (fun vi wr => ∃ k : Nat, k ≤ 1 ∧ vi = .int .i64 k ∧ Q B wr ∧ Cn wr g (if k = 0 then 1 else 2) (if k = 0 then 1 else 2)) (fun vi _ => 1 - (intOf vi).toNat)
 case atStart => exact ⟨0, by omega, by go_num, HQ4.out, H4.out⟩
 case round =>
  obtain ⟨k, hk, rfl, hq, hcn⟩ := hrel
  match k, hk with
  | 0, _ =>
   obtain ⟨hl, c0, c1, c2, c3⟩ := H8.out.up hq
   obtain ⟨wa, hwa⟩ : ∃ wa, wr.alloc (.cells #[.int .i64 2, .int .i64 8, .bool false, .slice none 0 0] 24) = wa := ⟨_, rfl⟩
   obtain ⟨hqa, hsa, hc⟩ := box1 hwa
   have z0 := hc 0 _ rfl
   have z1 := hc 1 _ rfl
   have z2 := hc 2 _ rfl
   have z3 := hc 3 _ rfl
   have HC := hide (look_leaf (n := 8) (s := 1) (.inl ⟨rfl, rfl⟩) B wa g 1 1 2 hB (hq.trans hqa) (hcn.up hqa) (by omega) (by omega) (by omega) (by omega))
   have HWA := hide hwa
   unfold LookP at HC
   rw [if_pos (by omega)] at HC
   clear hq hcn hwa hc hqa
   go_upto_region 23 with fail
   rw [HWA.out]
   clear c0 c1 c2 c3
   go_wp2_with fail
   refine HC.out.mono ?_
   rintro e w5 ⟨rfl, hq5, hcn5⟩
   have HQ5 := hide hq5
   have HC5 := hide hcn5
   clear hq5 hcn5 z0 z1 z2 z3
   go_wp2_with fail
   go_roundw
   case rel => exact ⟨1, by omega, by go_num, HQ5.out, HC5.out⟩
   case measure => simp [intOf]
  | 1, _ =>
   have HQ := hide hq
   have HC := hide hcn
   clear hq hcn
   go_wp2_with fail
   exact bodyPost_end (v := .tuple #[]) (by simp [results, Try.results62, go_sem]) rfl ⟨rfl, HQ.out, HC.out⟩
theorem index_none (f : Value) (w : World) : Calls Try.prog 121 #[.slice none 0 0, f] w (R1 w (.int .i64 (-1))) := by
 unfold R1
 go_enter Try.func121, Try.ntmps121
 go_wp2_with fail
 go_loopw [8] (fun vi wr => vi = .int .i64 0 ∧ wr = w) (fun vi _ => 0)
 case atStart => exact ⟨by go_num, rfl⟩
 case round =>
  obtain ⟨rfl, rfl⟩ := hrel
  go_wp2_with fail
  go_ret
  exact ⟨rfl, Q.refl _⟩
theorem contains_none (f : Value) (w : World) : Calls Try.prog 100 #[.slice none 0 0, f] w (R1 w (.bool false)) := by
 have HC := hide (index_none f w)
 unfold R1
 go_enter Try.func100, Try.ntmps100
 go_wp2_with fail
 refine HC.out.mono ?_
 rintro e w1 ⟨rfl, hq1⟩
 go_wp2_with fail
 go_ret
 exact ⟨rfl, hq1⟩
theorem right_leaf {n s : Int} (hn : Lf n s) (w : World) : Calls Try.prog 64 #[lfV n] w (R1 w (.bool true)) := by
 obtain ⟨w1, hw1⟩ : ∃ w1, w.alloc (.cells #[.int .i64 2, .int .i64 n, .bool false, .slice none 0 0] 24) = w1 := ⟨_, rfl⟩
 obtain ⟨hq1, hs1, hc⟩ := box1 hw1
 have k0 := hc 0 _ rfl
 have k1 := hc 1 _ rfl
 have k2 := hc 2 _ rfl
 have k3 := hc 3 _ rfl
 have d0 : (n == 0) = false := by rcases hn with ⟨rfl, -⟩ | ⟨rfl, -⟩ <;> rfl
 have d1 : decide (1 ≤ n) = true := by rcases hn with ⟨rfl, -⟩ | ⟨rfl, -⟩ <;> rfl
 have d2 : decide (n ≥ 1) = true := d1
 have hlt : w.heap.size < w1.heap.size := by omega
 have K0 := hide k0
 have K3 := hide k3
 have HW1 := hide hw1
 have HQ1 := hide hq1
 unfold R1
 clear hw1 hc hq1 hn
 go_enter Try.func64, Try.ntmps64
 go_upto_region 1 with fail
 rw [HW1.out]
 have hxc := ext_cell
 refine wp_region_ext (by kernel_rfl) (by kernel_rfl) ?_
 repeat (go_big_quiet_step ((fail)))
 clear hxc
 refine wpQuiet_nil ?_
 intro wz hwwz
 have hqwz := q_of_ext hwwz
 clear hwwz
 obtain ⟨hcwz, hfwz, hzwz⟩ := hqwz.facts
 try simp at hzwz
 try have hs0wz : w.heap.size < wz.heap.size := by omega
 try have hs1wz : w.heap.size + 1 < wz.heap.size := by omega
 have k0 := (hqwz.facts.1 _ 0 hlt).trans K0.out
 have k1' := (hqwz.facts.1 _ 1 hlt).trans k1
 have k2' := (hqwz.facts.1 _ 2 hlt).trans k2
 have k3 := (hqwz.facts.1 _ 3 hlt).trans K3.out
 have HQZ := hide hqwz
 have HC := hide (fun f => contains_none f wz)
 clear hqwz hcwz hfwz k1 k2
 go_wp2_with fail
 refine (HC.out _).mono ?_
 rintro e w2 ⟨rfl, hq2⟩
 go_wp2_with fail
 go_ret
 exact ⟨rfl, HQ1.out.trans (HQZ.out.trans hq2)⟩
abbrev rightF : Value := .func (.func 102) #[] #[]
theorem wrong_leaf (w : World) : Calls Try.prog 102 #[lfV 8] w (R1 w (.bool false)) := by
 unfold R1
 obtain ⟨w1, hw1⟩ : ∃ w1, w.alloc (.cells #[.int .i64 2, .int .i64 8, .bool false, .slice none 0 0] 24) = w1 := ⟨_, rfl⟩
 obtain ⟨hq1, hs1, hc⟩ := box1 hw1
 have k0 := hc 0 _ rfl
 have k1 := hc 1 _ rfl
 have k2 := hc 2 _ rfl
 have k3 := hc 3 _ rfl
 have HC := hide (right_leaf (n := 8) (s := 1) (.inl ⟨rfl, rfl⟩) w1)
 have HW1 := hide hw1
 have HQ1 := hide hq1
 clear hw1 hc hq1
 go_enter Try.func102, Try.ntmps102
 go_upto_region 1 with fail
 rw [HW1.out]
 go_wp2_with fail
 refine HC.out.mono ?_
 rintro e w2 ⟨rfl, hq2⟩
 clear k0 k1 k2 k3
 go_wp2_with fail
 go_ret
 exact ⟨rfl, HQ1.out.trans hq2⟩
theorem index_one (g : Nat) (w : World) (h8 : Op8 w g) : Calls Try.prog 121 #[.slice (some ⟨g, 0, none⟩) 1 1, rightF] w (R1 w (.int .i64 (-1))) := by
 unfold R1
 have H8 := hide h8
 clear h8
 go_enter Try.func121, Try.ntmps121
 go_wp2_with fail
 go_loopw [8] (fun vi wr => ∃ k : Nat, k ≤ 1 ∧ vi = .int .i64 k ∧ Q w wr) (fun vi _ => 1 - (intOf vi).toNat)
 case atStart => exact ⟨0, by omega, by go_num, Q.refl _⟩
 case round =>
  obtain ⟨k, hk, rfl, hq⟩ := hrel
  have HQ := hide hq
  match k, hk with
  | 0, _ =>
   obtain ⟨hl, c0, c1, c2, c3⟩ := H8.out.up hq
   have HC := hide (wrong_leaf wr)
   clear hq
   go_wp2_with fail
   refine HC.out.mono ?_
   rintro e w2 ⟨rfl, hq2⟩
   clear c0 c1 c2 c3
   go_wp2_with fail
   go_roundw
   case rel => exact ⟨1, by omega, by go_num, HQ.out.trans hq2⟩
   case measure => simp [intOf]
  | 1, _ =>
   clear hq
   go_wp2_with fail
   go_ret
   exact ⟨rfl, HQ.out⟩
theorem contains_one (g : Nat) (w : World) (h8 : Op8 w g) : Calls Try.prog 100 #[.slice (some ⟨g, 0, none⟩) 1 1, rightF] w (R1 w (.bool false)) := by
 have HC := hide (index_one g w h8)
 unfold R1
 go_enter Try.func100, Try.ntmps100
 go_wp2_with fail
 refine HC.out.mono ?_
 rintro e w1 ⟨rfl, hq1⟩
 go_wp2_with fail
 go_ret
 exact ⟨rfl, hq1⟩
theorem right_opt (g : Nat) (w : World) (h8 : Op8 w g) : Calls Try.prog 64 #[opV g] w (R1 w (.bool true)) := by
 obtain ⟨w1, hw1⟩ : ∃ w1, w.alloc (.cells #[.int .i64 4, .int .i64 0, .bool false, .slice (some ⟨g, 0, none⟩) 1 1] 24) = w1 := ⟨_, rfl⟩
 obtain ⟨hq1, hs1, hc⟩ := box1 hw1
 have k0 := hc 0 _ rfl
 have k1 := hc 1 _ rfl
 have k2 := hc 2 _ rfl
 have k3 := hc 3 _ rfl
 have hlt : w.heap.size < w1.heap.size := by omega
 have K0 := hide k0
 have K3 := hide k3
 have HW1 := hide hw1
 have HQ1 := hide hq1
 have H8 := hide (h8.up hq1)
 unfold R1
 clear hw1 hc hq1 h8
 go_enter Try.func64, Try.ntmps64
 go_upto_region 1 with fail
 rw [HW1.out]
 have hxc := ext_cell
 refine wp_region_ext (by kernel_rfl) (by kernel_rfl) ?_
 repeat (go_big_quiet_step ((fail)))
 clear hxc
 refine wpQuiet_nil ?_
 intro wz hwwz
 have hqwz := q_of_ext hwwz
 clear hwwz
 obtain ⟨hcwz, hfwz, hzwz⟩ := hqwz.facts
 try simp at hzwz
 try have hs0wz : w.heap.size < wz.heap.size := by omega
 try have hs1wz : w.heap.size + 1 < wz.heap.size := by omega
 have k0 := (hqwz.facts.1 _ 0 hlt).trans K0.out
 have k2' := (hqwz.facts.1 _ 2 hlt).trans k2
 have k3 := (hqwz.facts.1 _ 3 hlt).trans K3.out
 have HQZ := hide hqwz
 have HC := hide (contains_one g wz (H8.out.up hqwz))
 clear hqwz hcwz hfwz k1 k2
 go_wp2_with fail
 refine HC.out.mono ?_
 rintro e w2 ⟨rfl, hq2⟩
 go_wp2_with fail
 go_ret
 exact ⟨rfl, HQ1.out.trans (HQZ.out.trans hq2)⟩
inductive Ly : World → Value → Int → Int → Prop
 | leaf {w : World} {n s : Int} : Lf n s → Ly w (lfV n) s s
 | opt {w : World} {g : Nat} : Op8 w g → Ly w (opV g) 2 1
theorem Ly.up {w w' : World} {v : Value} {s al : Int} (h : Ly w v s al) (hq : Q w w') : Ly w' v s al := by
 cases h with
 | leaf h => exact .leaf h
 | opt h => exact .opt (h.up hq)
theorem Ly.cells {w : World} {v : Value} {s al : Int} (h : Ly w v s al) : ∃ k n : Int, ∃ (A : Option Addr) (m : Nat), v = .agg #[.int .i64 k, .int .i64 n, .bool false, .slice A m m] := by
 cases h with
 | leaf h => exact ⟨_, _, _, _, rfl⟩
 | opt h => exact ⟨_, _, _, _, rfl⟩
theorem cells_ly {w : World} {v : Value} {s al : Int} (h : Ly w v s al) : Calls Try.prog 63 #[v] w fun e w' => (∃ n : Int, n ≤ 2 ∧ e = .returned (.int .i64 n)) ∧ Q w w' := by
 cases h with
 | leaf h => exact (cells_leaf _ w).mono fun e w' h => ⟨⟨1, by omega, h.1⟩, h.2⟩
 | opt h => exact (cells_opt _ w h).mono fun e w' h => ⟨⟨2, by omega, h.1⟩, h.2⟩
theorem right_ly {w : World} {v : Value} {s al : Int} (h : Ly w v s al) : Calls Try.prog 64 #[v] w (R1 w (.bool true)) := by
 cases h with
 | leaf h => exact right_leaf h w
 | opt h => exact right_opt _ w h
theorem look_ly {B w : World} {g : Nat} {v : Value} {s al : Int} (h : Ly B v s al) (hB : B.heap.size ≤ g) (hq : Q B w) (hc : Cn w g 0 0) : Calls Try.prog 62 #[.pointer (some ⟨g, 0, none⟩), v, .int .i64 1] w fun e w' => e = .returned (.tuple #[]) ∧ Q B w' ∧ ∃ c d, Cn w' g c d := by
 cases h with
 | leaf h => exact (look_leaf h B w g 0 0 1 hB hq hc (by omega) (by omega) (by omega) (by omega)).mono fun e w' h => ⟨h.1, h.2.1, _, _, h.2.2⟩
 | opt h => exact (look_opt B w g _ hB hq h hc).mono fun e w' h => ⟨h.1, h.2.1, _, _, h.2.2⟩
theorem validate_ly {w : World} {v : Value} {s al : Int} (h : Ly w v s al) : Calls Try.prog 36 #[v] w (R1 w (.int .i64 0)) := by
 unfold R1
 have HLY := hide h
 obtain ⟨k, n, A, m, rfl⟩ := h.cells
 obtain ⟨w1, hw1⟩ : ∃ w1, w.alloc (.cells #[.int .i64 k, .int .i64 n, .bool false, .slice A m m] 24) = w1 := ⟨_, rfl⟩
 obtain ⟨hq1, hs1, hc⟩ := box1 hw1
 obtain ⟨w2, hw2⟩ : ∃ w2, w1.alloc (.cells #[.int .i64 0, .int .i64 0, .bool false] 98) = w2 := ⟨_, rfl⟩
 obtain ⟨hq2, hs2, hc2⟩ := box1 hw2
 have hlt : w.heap.size < w1.heap.size := by omega
 have K0 := hide (show w1.cell? ⟨w.heap.size, 0, none⟩ = some (.int .i64 k) from hc 0 _ rfl)
 have K1 := hide (show w1.cell? ⟨w.heap.size, 1, none⟩ = some (.int .i64 n) from hc 1 _ rfl)
 have K2 := hide (show w1.cell? ⟨w.heap.size, 2, none⟩ = some (.bool false) from hc 2 _ rfl)
 have K3 := hide (show w1.cell? ⟨w.heap.size, 3, none⟩ = some (.slice A m m) from hc 3 _ rfl)
 have hcn : Cn w2 w1.heap.size 0 0 := ⟨by omega, hc2 0 _ rfl, hc2 1 _ rfl, hc2 2 _ rfl, by rw [← hw2]; simp, by rw [← hw2]; simp, by rw [← hw2]; simp⟩
 have HL := hide (look_ly (h.up hq1) (Nat.le_refl _) hq2 hcn)
 rw [hs1] at HL
 have HCE := hide (fun W (hW : Q w W) => cells_ly (HLY.out.up hW))
 have HRI := hide (fun W (hW : Q w W) => right_ly (HLY.out.up hW))
 have HW1 := hide hw1
 have HW2 := hide hw2
 have HQ1 := hide hq1
 have k0 := (hq2.facts.1 _ 0 hlt).trans K0.out
 have k1 := (hq2.facts.1 _ 1 hlt).trans K1.out
 have k2 := (hq2.facts.1 _ 2 hlt).trans K2.out
 have k3 := (hq2.facts.1 _ 3 hlt).trans K3.out
 clear h hw1 hw2 hc hc2 hcn hq1 hq2
 go_enter Try.func36, Try.ntmps36
 go_upto_region 1 with fail
 rw [HW1.out]
 go_upto_region 2 with fail
 rw [HW2.out]
 go_wp2_with fail
 refine HL.out.mono ?_
 rintro e w3 ⟨rfl, hq3, c, d, hcn⟩
 obtain ⟨a1, a2, a3, a4, a5, a6, a7⟩ := hcn
 clear k0 k1 k2 k3
 have k0 := (hq3.facts.1 _ 0 hlt).trans K0.out
 have k1 := (hq3.facts.1 _ 1 hlt).trans K1.out
 have k2 := (hq3.facts.1 _ 2 hlt).trans K2.out
 have k3 := (hq3.facts.1 _ 3 hlt).trans K3.out
 have HQ3 := hide (HQ1.out.trans hq3)
 have HQ13 := hide hq3
 have HC3 := hide (HCE.out w3 (HQ1.out.trans hq3))
 clear hq3 a2 a3 a5 a6 a7
 go_wp2_with fail
 refine HC3.out.mono ?_
 rintro e w4 ⟨⟨n4, hn4, rfl⟩, hq4⟩
 have d4 : decide (4096 < n4) = false := by simp; omega
 clear k0 k1 k2 k3 a4
 have k0 := ((HQ13.out.trans hq4).facts.1 _ 0 hlt).trans K0.out
 have k1 := ((HQ13.out.trans hq4).facts.1 _ 1 hlt).trans K1.out
 have k2 := ((HQ13.out.trans hq4).facts.1 _ 2 hlt).trans K2.out
 have k3 := ((HQ13.out.trans hq4).facts.1 _ 3 hlt).trans K3.out
 have HQ4 := hide (HQ3.out.trans hq4)
 have HR4 := hide (HRI.out w4 (HQ3.out.trans hq4))
 clear hq4 hn4
 go_wp2_with fail
 refine HR4.out.mono ?_
 rintro e w5 ⟨rfl, hq5⟩
 clear k0 k1 k2 k3
 go_wp2_with fail
 go_ret
 exact ⟨rfl, HQ4.out.trans hq5⟩
theorem asked_ly {w : World} {v : Value} {s al : Int} (h : Ly w v s al) (b : Bool) : Calls Try.prog 32 #[v, tgV b] w (R1 w (.int .i64 0)) := by
 unfold R1
 have HLY := hide h
 obtain ⟨k, n, A, m, rfl⟩ := h.cells
 obtain ⟨w2, hw2⟩ : ∃ w2, (w.alloc (.cells #[.int .i64 k, .int .i64 n, .bool false, .slice A m m] 24)).alloc (.cells #[.int .i64 4, .bool b] 26) = w2 := ⟨_, rfl⟩
 obtain ⟨hq2, hs2, hc, hd⟩ := box2 hw2
 have hlt : w.heap.size + 1 < w2.heap.size := by omega
 have k0 := hc 0 _ rfl
 have k1 := hc 1 _ rfl
 have k2 := hc 2 _ rfl
 have k3 := hc 3 _ rfl
 have T0 := hide (hd 0 _ rfl)
 have T1 := hide (hd 1 _ rfl)
 have HV := hide (validate_ly (h.up hq2))
 have HW2 := hide hw2
 have HQ2 := hide hq2
 clear h hw2 hc hd hq2
 go_enter Try.func32, Try.ntmps32
 go_upto_region 1 with fail
 rw [HW2.out]
 go_wp2_with fail
 refine HV.out.mono ?_
 rintro e w3 ⟨rfl, hq3⟩
 have t0 := (hq3.facts.1 _ 0 hlt).trans T0.out
 have t1 := (hq3.facts.1 _ 1 hlt).trans T1.out
 have HQ3 := hide (HQ2.out.trans hq3)
 have HT := hide (target_ok b w3)
 clear hq3 k0 k1 k2 k3
 go_wp2_with fail
 refine HT.out.mono ?_
 rintro e w4 ⟨rfl, hq4⟩
 clear t0 t1
 go_wp2_with fail
 go_ret
 exact ⟨rfl, HQ3.out.trans hq4⟩
namespace Ri
def kindOf (c : Nat) (pu : List Nat) (k : Nat) : Nat := if k = c then 2 else if pu.contains k then 1 else 0
abbrev StepP (P : Program) (R : Exit → Act → World → Prop) (l : List Oper) (a : Act) (φ : Nat → Value → World → Prop) (c : Nat) (pu : List Nat) (k : Nat) (o : Oper) : Prop :=
 o.guard = none ∧ ∀ (f : Nat → Value) (w : World), (∀ j, dep l.toArray l.length k j = true → kindOf c pu j = 1 → φ j (f j) w) → ∀ A : Act, (∀ d i (_ : ((l[i]?).bind (·.dst)) = some d := by kernel_rfl) (_ : d < a.tmps.size := by simp), A.eval (.tmp d) = f i) → (∀ d (_ : apartD (some d) l = true := by kernel_rfl), A.eval (.tmp d) = a.eval (.tmp d)) →
   o.wp P A w (fun a' w' => ∃ v, a' = A.put o.dst v ∧ w' = w ∧ φ k v w) R
abbrev StepC (P : Program) (R : Exit → Act → World → Prop) (l : List Oper) (a : Act) (w0 : World) (φ : Nat → Value → World → Prop) (Post : Value → World → Prop) (k : Nat) (o : Oper) : Prop :=
 o.guard = none ∧ ∀ (f : Nat → Value) (w : World), Q w0 w → (∀ j (_ : dep l.toArray l.length k j = true := by kernel_rfl), φ j (f j) w) → ∀ A : Act, (∀ d i (_ : ((l[i]?).bind (·.dst)) = some d := by kernel_rfl) (_ : d < a.tmps.size := by simp), A.eval (.tmp d) = f i) → (∀ d (_ : apartD (some d) l = true := by kernel_rfl), A.eval (.tmp d) = a.eval (.tmp d)) →
   o.wp P A w (fun a' w' => ∃ v, a' = A.put o.dst v ∧ Post v w') R
def StepK (P : Program) (R : Exit → Act → World → Prop) (l : List Oper) (a : Act) (w0 : World) (φ : Nat → Value → World → Prop) (Post : Value → World → Prop) (c : Nat) (pu : List Nat) (k : Nat) (o : Oper) : Prop :=
 (kindOf c pu k = 2 → StepC P R l a w0 φ Post k o) ∧ (kindOf c pu k = 1 → StepP P R l a φ c pu k o) ∧ (kindOf c pu k = 0 → StepG P R l a w0 φ k o)
end Ri
namespace Ri
section
variable {P : Program} {R : Exit → Act → World → Prop} {o : Oper} {A : Act} {w : World} {φ : Value → World → Prop}
theorem run_mv {x : Operand} {v : Value} (ho : o.op = .move x) (hx : A.eval x = v) : (execOp A.eval o).run P w = .ok (.value v) w := by unfold execOp; simp [ho, hx]
theorem run_asg {x : Operand} {v : Value} (ho : o.op = .assign x) (hx : A.eval x = v) : (execOp A.eval o).run P w = .ok (.value v) w := by unfold execOp; simp [ho, hx]
theorem run_fld {s : TypeId} {x : Operand} {k b off : Nat} {fs : Array Field} {f : Field} (ho : o.op = .fieldAddr s x k) (hx : A.eval x = .pointer (some ⟨b, off, none⟩)) (hu : P.underlying s = some (.struct fs)) (hf : fs[k]? = some f) {sz : Nat} (hs : (P.info? f.type).map (·.size) = some (sz + 1)) :
  (execOp A.eval o).run P w = .ok (.value (.pointer (some ⟨b, off + f.offset, none⟩))) w := by
 unfold execOp
 obtain ⟨i, hi, hsz⟩ := Option.map_eq_some_iff.1 hs
 simp [ho, hx, Instr.fieldAt, fieldPlace, sizeOf, typeInfo, hi, hsz, addr_add, Instr.sureAddr, run_underlying hu, hf, Sem.run_bind]
theorem run_ld1 {ty : TypeId} {x : Operand} {b off : Nat} {v : Value} {d : TypeDesc} (ho : o.op = .load ty x) (hx : A.eval x = .pointer (some ⟨b, off, none⟩)) (hu : P.underlying ty = some d) (hd : (match d with | .struct _ | .array _ _ => true | _ => false) = false)
  (hc : w.cell? ⟨b, off, none⟩ = some v) : (execOp A.eval o).run P w = .ok (.value v) w := by
 unfold execOp
 have hagg : (isAgg ty).run P w = .ok false w := by
  unfold isAgg
  rw [Sem.run_bind, run_underlying hu w]
  cases d <;> simp_all
 simp [ho, hx, Instr.loadAt, Instr.sureAddr, loadVar, hagg, hc, Sem.run_bind]
theorem run_ldrow {ty : TypeId} {x : Operand} {g : Nat} {t : TypeId} {cs : Array Value} {fr : Nat × Nat} {d : TypeDesc} (ho : o.op = .load ty x) (hx : A.eval x = .pointer (some ⟨g, 0, none⟩)) (hg : w.heap[g]? = some (.cells cs t fr)) (hu : P.underlying ty = some d) (hd : (match d with | .struct _ | .array _ _ => true | _ => false) = true) (hi : (P.info? ty).map (·.size) = some cs.size) :
  (execOp A.eval o).run P w = .ok (.value (.agg cs)) w := by
 unfold execOp
 have h := run_loadVar_row (P := P) w g t ty cs fr d hg hu hd hi
 simp [ho, hx, Instr.loadAt, Instr.sureAddr, h]
theorem run_maxi {x y : Operand} {t t' : TypeId} {p u : Int} (ho : o.op = .call { callee := .builtin .max, args := #[x, y], argTypes := #[t, t'] }) (hx : A.eval x = .int .i64 p) (hy : A.eval y = .int .i64 u) : (execOp A.eval o).run P w = .ok (.value (.int .i64 (max p u))) w := by
 unfold execOp
 have e : max p u = if p < u then u else p := by
  split
  ·exact Int.max_eq_right (by omega)
  ·exact Int.max_eq_left (by omega)
 rw [e]
 simp only [ho, resolve, invoke, builtin, Sem.run_bind, Sem.run_pure, Result.andThen_ok, List.map_toArray, List.map_cons, List.map_nil, hx, hy]
 simp [Builtin.max_, Builtin.max2]
end
section
variable {P : Program} {R : Exit → Act → World → Prop} {l : List Oper} {a : Act} {w0 : World} {φ : Nat → Value → World → Prop} {Post : Value → World → Prop} {c : Nat} {pu : List Nat} {k : Nat} {o : Oper}
theorem StepK.g (e : kindOf c pu k = 0) (h : StepG P R l a w0 φ k o) : StepK P R l a w0 φ Post c pu k o := ⟨fun e' => (by rw [e] at e'; cases e'), fun e' => (by rw [e] at e'; cases e'), fun _ => h⟩
theorem StepK.p (e : kindOf c pu k = 1) (h : StepP P R l a φ c pu k o) : StepK P R l a w0 φ Post c pu k o := ⟨fun e' => (by rw [e] at e'; cases e'), fun _ => h, fun e' => (by rw [e] at e'; cases e')⟩
theorem StepK.w (e : kindOf c pu k = 2) (h : StepC P R l a w0 φ Post k o) : StepK P R l a w0 φ Post c pu k o := ⟨fun _ => h, fun e' => (by rw [e] at e'; cases e'), fun e' => (by rw [e] at e'; cases e')⟩
end
def isV (c : Value) : Value → World → Prop := fun v _ => v = c
theorem mono_isV (c : Value) : Mono (isV c) := fun _ _ _ h _ => h
end Ri
namespace Ri
section
variable {P : Program} {R : Exit → Act → World → Prop}
theorem wpAny_more {ops : Array Oper} : ∀ (n : Nat) (L : Array Bool) (a : Act) (w : World), wpAny P .any ops R n L a w → wpAny P .any ops R (n + 1) L a w
 | 0, L, a, w, h => ⟨fun _ => h.2, fun i hi => by rw [h.1] at hi; cases hi⟩
 | n + 1, L, a, w, h => ⟨h.1, fun i hi => wpOp_mono (fun a' w' h' => wpAny_more n _ a' w' h') (h.2 i hi)⟩
theorem wpAny_mores {ops : Array Oper} {n : Nat} {L : Array Bool} {a : Act} {w : World} (h : wpAny P .any ops R n L a w) : ∀ k, wpAny P .any ops R (n + k) L a w
 | 0 => h
 | k + 1 => wpAny_more _ _ _ _ (wpAny_mores h k)
def guardB (ops : Array Oper) (c : Nat) : Bool := (List.range c).all fun i => match ops[i]? with
 | none => true
 | some o => match o.guard with
  | none => true
  | some (j, _) => decide (j < c)
def farB (ops : Array Oper) (c : Nat) : Bool := (List.range ops.size).all fun i => decide (i < c) || (List.range c).all fun j => dep ops ops.size i j
theorem far_dep {ops : Array Oper} {c i j : Nat} (h : farB ops c = true) (hi : i < ops.size) (hci : c ≤ i) (hj : j < c) : dep ops ops.size i j = true := by
 have h1 := List.all_eq_true.1 h i (List.mem_range.2 hi)
 rw [Bool.or_eq_true, decide_eq_true_eq] at h1
 rcases h1 with h1 | h1
 ·omega
 ·exact List.all_eq_true.1 h1 j (List.mem_range.2 hj)
theorem any_prefix {l : List Oper} {c n : Nat} {C : World → Prop} {Qm : Act → Prop} (hc : c ≤ l.length) (hback : backB l.toArray = true) (hbackp : backB (l.take c).toArray = true) (hfar : farB l.toArray c = true) (hguard : guardB l.toArray c = true)
  (hQm : ∀ a w, C w → Qm a → ∀ L : Array Bool, L.size = l.length → (∀ j, L.getD j false = decide (j < c)) → wpAny P .any l.toArray R n L a w) :
  ∀ (fuel : Nat) (L' L : Array Bool) (a : Act) (w : World), L'.size = c → L.size = l.length → (∀ j, j < c → L.getD j false = L'.getD j false) → (∀ j, c ≤ j → L.getD j false = false) → Down l.toArray L → C w →
   wpAnyQ P .any (l.take c).toArray C Qm fuel L' a → wpAny P .any l.toArray R (fuel + n) L a w := by
 have hall : ∀ (L' L : Array Bool), L'.size = c → (∀ j, j < c → L.getD j false = L'.getD j false) → (∀ j, c ≤ j → L.getD j false = false) → Region.ready .any (l.take c).toArray L' = [] → ∀ j, L.getD j false = decide (j < c) := fun L' L hs h1 h2 hr j => by
  have h3 := all_of_ready (by simp [hs]; omega) hbackp hr
  by_cases hj : j < c
  ·rw [h1 j hj, h3 j (by simp; omega)]
   simp [hj]
  ·rw [h2 j (by omega)]
   simp [hj]
 intro fuel
 induction fuel with
 | zero =>
  intro L' L a w hs hsl h1 h2 hd hw h
  rw [Nat.zero_add]
  exact hQm a w hw h.2 L hsl (hall L' L hs h1 h2 h.1)
 | succ fuel ih =>
  intro L' L a w hs hsl h1 h2 hd hw h
  by_cases hr : Region.ready .any (l.take c).toArray L' = []
  ·have := hQm a w hw (h.1 hr) L hsl (hall L' L hs h1 h2 hr)
   have := wpAny_mores this (fuel + 1)
   rw [Nat.add_comm] at this
   exact this
  ·have hnall : ∃ j, j < c ∧ L.getD j false = false := by
    refine Classical.byContradiction fun hn => hr ?_
    cases hL : Region.ready .any (l.take c).toArray L' with
    | nil => rfl
    | cons i t =>
     exfalso
     have hi : i ∈ Region.ready .any (l.take c).toArray L' := by rw [hL]; exact List.Mem.head _
     obtain ⟨g0, o, ho, -⟩ := mem_ready.1 hi
     have hic : i < c := by
      have := (Array.getElem?_eq_some_iff.1 ho).1
      simp at this
      omega
     refine hn ⟨i, hic, ?_⟩
     rw [h1 i hic]
     simpa [hs, hic] using g0
   have hrd : ∀ i ∈ Region.ready .any l.toArray L, i < c ∧ i ∈ Region.ready .any (l.take c).toArray L' := fun i hi => by
    obtain ⟨g0, o, ho, hal⟩ := mem_ready.1 hi
    have hil : i < l.length := by simpa using (Array.getElem?_eq_some_iff.1 ho).1
    have hic : i < c := by
     refine Classical.byContradiction fun hge => ?_
     obtain ⟨j, hj, e⟩ := hnall
     have := dep_down hd l.toArray.size i j (fun o' ho' => by rw [ho] at ho'; cases ho'; exact hal) (far_dep hfar (by simpa using hil) (by omega) hj)
     rw [e] at this
     cases this
    refine ⟨hic, mem_ready.2 ⟨?_, o, ?_, fun e he hbe => ?_⟩⟩
    ·have := h1 i hic
     have g0' : L.getD i false = false := by simpa [hsl, hil] using g0
     rw [g0'] at this
     simpa [hs, hic] using this.symm
    ·have : l[i]? = some o := by simpa using ho
     simp [List.getElem?_take, hic, this]
    ·have hb := List.all_eq_true.1 hback i (List.mem_range.2 (by simpa using hil))
     rw [ho] at hb
     simp at hb
     obtain ⟨k, hk, ek⟩ := Array.mem_iff_getElem.1 he
     have hb2 := hb k hk
     rw [ek, hbe] at hb2
     simp at hb2
     rw [← h1 _ (by omega)]
     exact hal e he hbe
   have hsuc : fuel + 1 + n = (fuel + n) + 1 := by omega
   rw [hsuc]
   refine ⟨fun h0 => ?_, fun i hi => ?_⟩
   ·exfalso
    obtain ⟨j, hj, e⟩ := hnall
    have := all_of_ready (by simpa using hsl) hback h0 j (by simp; omega)
    rw [e] at this
    cases this
   ·obtain ⟨hic, hi'⟩ := hrd i hi
    have hq := h.2 i hi'
    obtain ⟨g0, o, ho, hal⟩ := mem_ready.1 hi
    have ho2 : l[i]? = some o := by simpa using ho
    have hop : (l.take c).toArray[i]? = some o := by simp [List.getElem?_take, hic, ho2]
    have hil : i < l.length := (List.getElem?_eq_some_iff.1 ho2).1
    have step : ∀ a' w', C w' → wpAnyQ P .any (l.take c).toArray C Qm fuel (L'.setIfInBounds i true) a' → wpAny P .any l.toArray R (fuel + n) (L.setIfInBounds i true) a' w' := fun a' w' hw' h' => by
     refine ih (L'.setIfInBounds i true) (L.setIfInBounds i true) a' w' (by simpa using hs) (by simpa using hsl) (fun j hj => ?_) (fun j hj => ?_) (fun j oj hoj hj e he hbe => ?_) hw' h'
     ·by_cases e : i = j
      ·subst e
       simp [hs, hsl, hj, hil]
      ·rw [getD_set_ne _ e, getD_set_ne _ e]
       exact h1 j hj
     ·rw [getD_set_ne _ (by omega)]
      exact h2 j hj
     ·by_cases hij : i = j
      ·subst hij
       rw [ho] at hoj
       cases hoj
       exact getD_set_true (hal e he hbe)
      ·rw [getD_set_ne _ hij] at hj
       exact getD_set_true (hd j oj hoj hj e he hbe)
    have hwant : Region.wanted o (yielded (l.take c).toArray a.tmps) = Region.wanted o (yielded l.toArray a.tmps) := by
     have hg := List.all_eq_true.1 hguard i (List.mem_range.2 hic)
     rw [ho] at hg
     dsimp only at hg
     unfold Region.wanted
     cases hgd : o.guard with
     | none => rfl
     | some p =>
      obtain ⟨j, want⟩ := p
      rw [hgd] at hg
      have hj : j < c := by simpa using hg
      show (yielded _ _ j == _) = (yielded _ _ j == _)
      unfold yielded
      simp [List.getElem?_take, hj]
    unfold qOp at hq
    simp only [hop] at hq
    unfold wpOp
    simp only [ho]
    rw [hwant] at hq
    split
    ·rename_i hw1
     rw [if_pos hw1] at hq
     exact .inl (Oper.wp_of_quiet hw (fun a' w' hw' h' => step a' w' hw' h') hq)
    ·rename_i hw1
     rw [if_neg hw1] at hq
     exact step _ _ hw hq
theorem any_suffix {l : List Oper} {c : Nat} {C : World → Prop} {a : Act} {w : World} (hns : Region.noSelect l.toArray = true) {L : Array Bool} (hlex : Region.lexFrom .any l.toArray (l.drop c).length c L = true) (hw : C w)
  (h : wpQuiet P l.toArray C (fun a' => ∀ w', C w' → R .normal a' w') (l.drop c) a) : wpAny P .any l.toArray R (l.drop c).length L a w :=
 wpAny_of_quiet (Q := fun a' => ∀ w', C w' → R .normal a' w') (fun _ w' hw' h => h w' hw') _ _ _ _ hw (wpAnyQ_lex hns (l.drop c) c L a (fun j => by simp [List.getElem?_drop]) hlex h)
def cutB (l : List Oper) (c : Nat) : Bool := decide (c < l.length) && backB l.toArray && backB (l.take c).toArray && farB l.toArray c && guardB l.toArray c && Region.lexB .any (l.take c).toArray && Region.noSelect l.toArray
 && Region.lexFrom .any l.toArray (l.drop (c + 1)).length (c + 1) (((Array.range l.length).map fun j => decide (j < c)).setIfInBounds c true) && (Region.ready .any l.toArray ((Array.range l.length).map fun j => decide (j < c)) == [c])
theorem wp_region_cut {id : Nat} {a : Act} {w : World} {l : List Oper} (c : Nat) (C : World → Prop) {oc : Oper} (hm : P.follows .mixedOrders = true) (hB : cutB l c = true) (hoc : l[c]? = some oc) (hg : oc.guard = none) (hC : C w.drew)
  (h : wpQuiet P (l.take c).toArray C (fun a' => ∀ w', C w' → oc.wp P a' w' (fun a2 w2 => ∃ C2 : World → Prop, C2 w2 ∧ wpQuiet P l.toArray C2 (fun a3 => ∀ w3, C2 w3 → R .normal a3 w3) (l.drop (c + 1)) a2) R) (l.take c) a) :
  (Code.region id l.toArray true).wp P R a w := by
 unfold cutB at hB
 simp only [Bool.and_eq_true] at hB
 obtain ⟨⟨⟨⟨⟨⟨⟨⟨b1, b2⟩, b3⟩, b4⟩, b5⟩, b6⟩, b7⟩, b8⟩, b9⟩ := hB
 have b1 := of_decide_eq_true b1
 refine wp_region_any hm ?_
 obtain ⟨L0, hL0⟩ : ∃ L0, L0 = ((Array.range l.length).map fun j => decide (j < c)) := ⟨_, rfl⟩
 rw [← hL0] at b8 b9
 have hL0s : L0.size = l.length := by rw [hL0]; simp
 have hL0g : ∀ j, L0.getD j false = decide (j < c) := fun j => by
  rw [hL0]
  by_cases hj : j < l.length
  ·simp [hj]
  ·simp [hj]
   omega
 have b6' := b6
 simp only [Region.lexB, Bool.and_eq_true] at b6'
 have hlen : (l.take c).length = c := by rw [List.length_take]; omega
 have hdl : (l.drop (c + 1)).length = l.length - (c + 1) := List.length_drop
 have hpre := wpAnyQ_lex (P := P) (C := C) (md := .any) b6'.1 (l.take c) 0 (Array.replicate (l.take c).toArray.size false) a (by simp) (by simpa using b6'.2) h
 have hfin := any_prefix (P := P) (R := R) (l := l) (c := c) (n := (l.drop (c + 1)).length + 1) (C := C) (by omega) b2 b3 b4 b5 (fun a' w' hw' hq L hLs hLg => ?_) (l.take c).length (Array.replicate (l.take c).toArray.size false) (Array.replicate l.toArray.size false) a { w with drawn := w.drawn + 1 } (by simp; omega) (by simp) (fun j hj => by rw [getD_rep, getD_rep]) (fun j hj => getD_rep _ _) (fun i o ho h => absurd h (by rw [getD_rep]; exact Bool.false_ne_true)) hC hpre
 ·have e : (l.take c).length + ((l.drop (c + 1)).length + 1) = l.toArray.size := by rw [hlen, hdl]; simp; omega
  rw [e] at hfin
  exact hfin
 ·have hLe : L = L0 := by
   apply Array.ext
   ·rw [hLs, hL0s]
   ·intro i h1 h2
    have e1 := hLg i
    have e2 := hL0g i
    rw [← e2] at e1
    simpa [h1, h2] using e1
  subst hLe
  have hrd : Region.ready .any l.toArray L = [c] := by simpa using b9
  refine ⟨fun h0 => (by rw [hrd] at h0; cases h0), fun i hi => ?_⟩
  rw [hrd, List.mem_singleton] at hi
  subst hi
  have hoc' : l.toArray[i]? = some oc := by simpa using hoc
  unfold wpOp
  simp only [hoc']
  rw [if_pos (by simp [Region.wanted, hg])]
  refine .inl (Oper.wp_mono (fun a2 w2 h2 => ?_) (hq w' hw'))
  obtain ⟨C2, hw2, h3⟩ := h2
  exact any_suffix b7 b8 hw2 h3
theorem wp_skipP {o : Oper} {A : Act} {w w' : World} {K : Act → World → Prop} (h : (execOp A.eval o).run P w = .ok .skip w') (hK : K (A.put o.dst undef) w') : o.wp P A w K R := by
 unfold Oper.wp
 rw [h]
 exact hK
end
end Ri
section
variable {P : Program} {t e k bytes : Nat} {w : World} {ops : Array Oper} {rest : List Oper} {o : Oper} {a : Act} {Q' : Exit → Act → World → Prop} {sT : TypeId}
theorem run_copyk (E : El P t e k bytes) (ty : TypeId) (g off dLen dCap sLen sCap n : Nat) (dp sp : Option Addr) (cur : Array Value) (tt : TypeId) (cs : List Value) (hg : w.heap[g]? = some (.cells cur tt (0, 0))) (hn : n = Nat.min sLen dLen) (hl : cs.length = n * k)
  (hpos : 0 < n → dp = some ⟨g, off, none⟩ ∧ ∃ ad, sp = some ad ∧ ∀ j v, cs[j]? = some v → w.cell? (ad.add j) = some v) (hfit : off + cs.length ≤ cur.size) (h1 : ∀ v ∈ cs, v.oneCell' = true) :
  (Builtin.copy_ #[t, sT] ty #[.slice dp dLen dCap, .slice sp sLen sCap]).run P w = .ok (goInt n) (w.setRow g (splice cur.toList off cs).toArray) := by
 obtain ⟨i, z, hi, hz, hsz, hby, hzs⟩ := E.inf
 have hlt : g < w.heap.size := (Array.getElem?_eq_some_iff.1 hg).1
 by_cases h0 : n = 0
 ·subst h0
  have hcs : cs = [] := List.eq_nil_of_length_eq_zero (by simpa using hl)
  subst hcs
  have he : (splice cur.toList off []).toArray = cur := by simp [splice]
  have hl0 : ∀ (x : Addr), (loadCells x 0).run P w = .ok #[] w := fun x => by simpa using run_loadCells_list (P := P) w x [] (by simp)
  have hset : w.setRow g cur = w := by
   have hv : w.heap[g] = .cells cur tt (0, 0) := (Array.getElem?_eq_some_iff.1 hg).2
   unfold World.setRow
   cases w with
   | mk heap tape drawn os output =>
    congr 1
    apply Array.ext
    ·simp
    ·intro j h3 h4
     simp only [Array.getElem_modify]
     split
     ·rename_i hk; subst hk; simp at hv; simp [hv]
     ·rfl
  rw [he, hset]
  cases dp <;> cases sp <;> simp [Builtin.copy_, run_underlying E.und, Builtin.lenOf, Builtin.firstCells, sizeOf, typeInfo, hi, ← hn, storeCells, hl0]
 ·obtain ⟨rfl, ad, rfl, hsrc⟩ := hpos (by omega)
  have hld := run_loadCells_list (P := P) w ad cs hsrc
  rw [hl] at hld
  have hst := run_storeCells_at P g off tt cs 0 cur w hg (by simpa using hfit) h1
  simp only [Nat.add_zero] at hst
  have e1 : splice cur.toList off cs = cur.toList.take off ++ cs ++ cur.toList.drop (off + cs.length) := by simp [splice]
  rw [e1]
  simp [Builtin.copy_, run_underlying E.und, Builtin.lenOf, Builtin.firstCells, sizeOf, typeInfo, hi, hsz, ← hn, hld, hst]
theorem step_run {K : Act → World → Prop} {E0 : Prop} {d x : Operand} {dT : TypeId} (hg : o.guard = none) (hop : o.op = Op.call { callee := Callee.builtin Builtin.copy, args := #[d, x], argTypes := #[dT, sT] })
  (v u : Value) (hd : a.eval d = v) (hx : a.eval x = u) {v' : Value} {w' : World} (hr : (Builtin.copy_ #[dT, sT] o.type #[v, u]).run P w = .ok v' w') (hK : K (a.put o.dst v') w') :
  if Region.wanted o (yielded ops a.tmps) = true then Oper.wp P o a w K Q' else E0 := by
 have hw : Region.wanted o (yielded ops a.tmps) = true := by simp [Region.wanted, hg]
 rw [if_pos hw]
 unfold Oper.wp
 simp [execOp, hop, resolve, invoke, builtin, hd, hx, hr, Result.andThen]
 exact hK
theorem step_copyk {K : Act → World → Prop} {E0 : Prop} (hgd : o.guard = none) (d x : Operand) (E : El P t e k bytes) (ho : o.op = Op.call { callee := Callee.builtin Builtin.copy, args := #[d, x], argTypes := #[t, sT] })
  (g off dLen dCap sLen sCap n : Nat) (dp sp : Option Addr) (hd : a.eval d = .slice dp dLen dCap) (hx : a.eval x = .slice sp sLen sCap) (cur : List Value) (tt : TypeId) (cs : List Value) (hg : w.heap[g]? = some (.cells cur.toArray tt (0, 0))) (hn : n = Nat.min sLen dLen) (hl : cs.length = n * k)
  (hpos : 0 < n → dp = some ⟨g, off, none⟩ ∧ ∃ ad, sp = some ad ∧ ∀ j v, cs[j]? = some v → w.cell? (ad.add j) = some v) (hfit : off + cs.length ≤ cur.length) (h1 : ∀ v ∈ cs, v.oneCell' = true)
  (h : ∀ w', Hid (w'.heap[g]? = some (.cells (splice cur off cs).toArray tt (0, 0))) → w.grownBy w' (some g) → w'.heap.size = w.heap.size → K (a.put o.dst (.int .i64 (n : Nat))) w') :
  if Region.wanted o (yielded ops a.tmps) = true then Oper.wp P o a w K Q' else E0 := by
 refine step_run hgd ho _ _ hd hx (run_copyk E o.type g off dLen dCap sLen sCap n dp sp cur.toArray tt cs hg hn hl hpos (by simpa using hfit) h1) (h _ ?_ ?_ ?_)
 ·exact setRow_heap w g _ _ tt _ hg
 ·exact ⟨rfl, rfl, rfl, by simp [World.setRow], fun j _ hj => setRow_other w g j _ (fun e => hj (by rw [e]))⟩
 ·simp [World.setRow]
theorem wpList_copyk (hgd : o.guard = none) (d x : Operand) (E : El P t e k bytes) (ho : o.op = Op.call { callee := Callee.builtin Builtin.copy, args := #[d, x], argTypes := #[t, sT] })
  (g off dLen dCap sLen sCap n : Nat) (dp sp : Option Addr) (hd : a.eval d = .slice dp dLen dCap) (hx : a.eval x = .slice sp sLen sCap) (cur : List Value) (tt : TypeId) (cs : List Value) (hg : w.heap[g]? = some (.cells cur.toArray tt (0, 0))) (hn : n = Nat.min sLen dLen) (hl : cs.length = n * k)
  (hpos : 0 < n → dp = some ⟨g, off, none⟩ ∧ ∃ ad, sp = some ad ∧ ∀ j v, cs[j]? = some v → w.cell? (ad.add j) = some v) (hfit : off + cs.length ≤ cur.length) (h1 : ∀ v ∈ cs, v.oneCell' = true)
  (h : ∀ w', Hid (w'.heap[g]? = some (.cells (splice cur off cs).toArray tt (0, 0))) → w.grownBy w' (some g) → w'.heap.size = w.heap.size → wpList P ops Q' rest (a.put o.dst (.int .i64 (n : Nat))) w') : wpList P ops Q' (o :: rest) a w := by
 refine wpList_plain hgd fun K hK => ?_
 unfold Oper.wp
 have hr := run_copyk (sT := sT) E o.type g off dLen dCap sLen sCap n dp sp cur.toArray tt cs hg hn hl hpos (by simpa using hfit) h1
 simp only [execOp, ho, resolve, invoke, builtin, Sem.run_bind, Sem.run_pure, Result.andThen_ok, List.map_toArray, List.map_cons, List.map_nil, hd, hx, hr]
 refine hK _ _ (h _ ?_ ?_ ?_)
 ·exact setRow_heap w g _ _ tt _ hg
 ·exact ⟨rfl, rfl, rfl, by simp [World.setRow], fun j _ hj => setRow_other w g j _ (fun e => hj (by rw [e]))⟩
 ·simp [World.setRow]
end
namespace Ri
abbrev StepT (T : World → World → Prop) (P : Program) (R : Exit → Act → World → Prop) (l : List Oper) (a : Act) (w0 : World) (φ : Nat → Value → World → Prop) (k : Nat) (o : Oper) : Prop :=
 o.guard = none ∧ ∀ (f : Nat → Value) (w : World), T w0 w → (∀ j (_ : dep l.toArray l.length k j = true := by kernel_rfl), φ j (f j) w) → ∀ A : Act, (∀ d i (_ : ((l[i]?).bind (·.dst)) = some d := by kernel_rfl) (_ : d < a.tmps.size := by simp), A.eval (.tmp d) = f i) → (∀ d (_ : apartD (some d) l = true := by kernel_rfl), A.eval (.tmp d) = a.eval (.tmp d)) → (∀ j (_ : dep l.toArray l.length j k = true := by kernel_rfl), f j = old a l j) →
   o.wp P A w (fun a' w' => ∃ v, a' = A.put o.dst v ∧ T w w' ∧ φ k v w') R
theorem StepT.q {T : World → World → Prop} {P : Program} {R : Exit → Act → World → Prop} {l : List Oper} {a : Act} {w0 : World} {φ : Nat → Value → World → Prop} {k : Nat} {o : Oper} (hqt : ∀ w1 w2, T w0 w1 → Q w1 w2 → T w1 w2)
  (h : o.guard = none ∧ ∀ (f : Nat → Value) (w : World), T w0 w → (∀ j (_ : dep l.toArray l.length k j = true := by kernel_rfl), φ j (f j) w) → ∀ A : Act, (∀ d i (_ : ((l[i]?).bind (·.dst)) = some d := by kernel_rfl) (_ : d < a.tmps.size := by simp), A.eval (.tmp d) = f i) → (∀ d (_ : apartD (some d) l = true := by kernel_rfl), A.eval (.tmp d) = a.eval (.tmp d)) → (∀ j (_ : dep l.toArray l.length j k = true := by kernel_rfl), f j = old a l j) →
   o.wp P A w (fun a' w' => ∃ v, a' = A.put o.dst v ∧ Q w w' ∧ φ k v w') R) : StepT T P R l a w0 φ k o :=
 ⟨h.1, fun f w ht hf A hA hB hO => Oper.wp_mono (fun a' w' ⟨v, e, hq, hp⟩ => ⟨v, e, hqt _ _ ht hq, hp⟩) (h.2 f w ht @hf A @hA @hB @hO)⟩
end Ri
namespace Ri
theorem yield_of {f : Nat → Value} {l : List Oper} {a : Act} {g d : Nat} {b : Bool} (hd : dstsB l = true) (h1 : ((l[g]?).bind (·.dst)) = some d) (h2 : d < a.tmps.size) (hf : f g = .bool b) : yielded l.toArray (acts f 0 l a).tmps g = some b := by
 have he := acts_get (f := f) l 0 a hd (Nat.zero_le g) (by simpa using h1) h2
 have hs : d < (acts f 0 l a).tmps.size := by rw [acts_size]; exact h2
 unfold yielded
 have h3 : ((l.toArray[g]?).bind (·.dst)) = some d := by simpa using h1
 rw [h3, Option.bind_some, Array.getElem?_eq_getElem hs]
 have h4 : (acts f 0 l a).tmps[d] = .bool b := by
  rw [← hf, ← he]
  simp [Act.eval, hs]
 rw [h4]
def Want (l : List Oper) (a : Act) (f : Nat → Value) (o : Oper) (y : Bool) : Prop := (y = true ∧ o.guard = none) ∨ ∃ g b d, o.guard = some (g, b) ∧ ((l[g]?).bind (·.dst)) = some d ∧ d < a.tmps.size ∧ f g = .bool (if y then b else !b)
theorem wanted_of {f : Nat → Value} {l : List Oper} {a : Act} {o : Oper} {y : Bool} (hd : dstsB l = true) (h : Want l a f o y) : Region.wanted o (yielded l.toArray (acts f 0 l a).tmps) = y := by
 rcases h with ⟨rfl, h⟩ | ⟨g, b, d, h1, h2, h3, h4⟩
 ·simp [Region.wanted, h]
 ·simp only [Region.wanted, h1]
  rw [yield_of hd h2 h3 h4]
  cases y <;> cases b <;> rfl
def isIn (L : List Nat) (k : Nat) : Bool := L.contains k
def gotB (l : List Oper) (loud fixed : List Nat) (k j : Nat) : Bool := dep l.toArray l.length k j && (isIn fixed j || loud.all fun c => c == j || dep l.toArray l.length j c || !dep l.toArray l.length k c)
theorem got_dep {l : List Oper} {loud fixed : List Nat} {k j : Nat} (h : gotB l loud fixed k j = true) : dep l.toArray l.length k j = true := by
 unfold gotB at h
 rw [Bool.and_eq_true] at h
 exact h.1
abbrev StepZ (C : World → Prop) (loud fixed : List Nat) (P : Program) (R : Exit → Act → World → Prop) (l : List Oper) (a : Act) (φ : Nat → Value → World → Prop) (k : Nat) (o : Oper) : Prop :=
 ∀ (f : Nat → Value) (w : World), C w → (∀ j (_ : gotB l loud fixed k j = true := by kernel_rfl), φ j (f j) w) → ∀ A : Act, (∀ d i (_ : ((l[i]?).bind (·.dst)) = some d := by kernel_rfl) (_ : d < a.tmps.size := by simp), A.eval (.tmp d) = f i) → (∀ d (_ : apartD (some d) l = true := by kernel_rfl), A.eval (.tmp d) = a.eval (.tmp d)) → (∀ j (_ : dep l.toArray l.length j k = true := by kernel_rfl), f j = old a l j) →
   (Want l a f o true ∧ o.wp P A w (fun a' w' => ∃ v, a' = A.put o.dst v ∧ (if isIn loud k then C w' else Q w w') ∧ φ k v w') R) ∨ (Want l a f o false ∧ φ k undef w)
section
variable {C : World → Prop} {loud fixed : List Nat} {P : Program} {R : Exit → Act → World → Prop} {l : List Oper} {a : Act} {φ : Nat → Value → World → Prop} {k g d : Nat} {b : Bool} {o : Oper}
theorem StepZ.q (hk : isIn loud k = false := by kernel_rfl) (hg : o.guard = none := by rfl)
  (h : ∀ (f : Nat → Value) (w : World), C w → (∀ j (_ : gotB l loud fixed k j = true := by kernel_rfl), φ j (f j) w) → ∀ A : Act, (∀ d i (_ : ((l[i]?).bind (·.dst)) = some d := by kernel_rfl) (_ : d < a.tmps.size := by simp), A.eval (.tmp d) = f i) → (∀ d (_ : apartD (some d) l = true := by kernel_rfl), A.eval (.tmp d) = a.eval (.tmp d)) → (∀ j (_ : dep l.toArray l.length j k = true := by kernel_rfl), f j = old a l j) →
   o.wp P A w (fun a' w' => ∃ v, a' = A.put o.dst v ∧ Q w w' ∧ φ k v w') R) : StepZ C loud fixed P R l a φ k o := fun f w hc hf A hA hB hO =>
 .inl ⟨.inl ⟨rfl, hg⟩, Oper.wp_mono (fun a' w' ⟨v, e, hq, hp⟩ => ⟨v, e, by rw [hk]; exact hq, hp⟩) (h f w hc @hf A @hA @hB @hO)⟩
theorem StepZ.c (hk : isIn loud k = true := by kernel_rfl) (hg : o.guard = none := by rfl)
  (h : ∀ (f : Nat → Value) (w : World), C w → (∀ j (_ : gotB l loud fixed k j = true := by kernel_rfl), φ j (f j) w) → ∀ A : Act, (∀ d i (_ : ((l[i]?).bind (·.dst)) = some d := by kernel_rfl) (_ : d < a.tmps.size := by simp), A.eval (.tmp d) = f i) → (∀ d (_ : apartD (some d) l = true := by kernel_rfl), A.eval (.tmp d) = a.eval (.tmp d)) → (∀ j (_ : dep l.toArray l.length j k = true := by kernel_rfl), f j = old a l j) →
   o.wp P A w (fun a' w' => ∃ v, a' = A.put o.dst v ∧ C w' ∧ φ k v w') R) : StepZ C loud fixed P R l a φ k o := fun f w hc hf A hA hB hO =>
 .inl ⟨.inl ⟨rfl, hg⟩, Oper.wp_mono (fun a' w' ⟨v, e, hq, hp⟩ => ⟨v, e, by rw [hk]; exact hq, hp⟩) (h f w hc @hf A @hA @hB @hO)⟩
theorem StepZ.gq (hk : isIn loud k = false) (hg : o.guard = some (g, b)) (h2 : ((l[g]?).bind (·.dst)) = some d) (h3 : d < a.tmps.size)
  (h : ∀ (f : Nat → Value) (w : World), C w → (∀ j (_ : gotB l loud fixed k j = true := by kernel_rfl), φ j (f j) w) → ∀ A : Act, (∀ d i (_ : ((l[i]?).bind (·.dst)) = some d := by kernel_rfl) (_ : d < a.tmps.size := by simp), A.eval (.tmp d) = f i) → (∀ d (_ : apartD (some d) l = true := by kernel_rfl), A.eval (.tmp d) = a.eval (.tmp d)) → (∀ j (_ : dep l.toArray l.length j k = true := by kernel_rfl), f j = old a l j) →
   f g = .bool b ∧ o.wp P A w (fun a' w' => ∃ v, a' = A.put o.dst v ∧ Q w w' ∧ φ k v w') R) : StepZ C loud fixed P R l a φ k o := fun f w hc hf A hA hB hO => by
 obtain ⟨e, hw⟩ := h f w hc @hf A @hA @hB @hO
 exact .inl ⟨.inr ⟨g, b, d, hg, h2, h3, e⟩, Oper.wp_mono (fun a' w' ⟨v, e, hq, hp⟩ => ⟨v, e, by rw [hk]; exact hq, hp⟩) hw⟩
theorem StepZ.off (hg : o.guard = some (g, b)) (h2 : ((l[g]?).bind (·.dst)) = some d) (h3 : d < a.tmps.size)
  (h : ∀ (f : Nat → Value) (w : World), C w → (∀ j (_ : gotB l loud fixed k j = true := by kernel_rfl), φ j (f j) w) → f g = .bool (!b) ∧ φ k undef w) : StepZ C loud fixed P R l a φ k o := fun f w hc hf A hA hB hO => by
 obtain ⟨e, hp⟩ := h f w hc @hf
 exact .inr ⟨.inr ⟨g, b, d, hg, h2, h3, e⟩, hp⟩
end
def useB (l : List Oper) (loud fixed : List Nat) : Bool :=
 loud.all fun k => (List.range l.length).all fun j => j == k || isIn fixed j || dep l.toArray l.length j k || (List.range l.length).all fun i => !gotB l loud fixed i j || i == k || dep l.toArray l.length k i
theorem use_of {l : List Oper} {loud fixed : List Nat} (h : useB l loud fixed = true) {k j : Nat} (hk : isIn loud k = true) (hj : j < l.length) (hne : j ≠ k) (hf : isIn fixed j = false) (hw : dep l.toArray l.length j k = false) : ∀ i, i < l.length → gotB l loud fixed i j = true → i = k ∨ dep l.toArray l.length k i = true := fun i hi hd => by
 have h1 := List.all_eq_true.1 h k (by simpa [isIn] using hk)
 have h2 := List.all_eq_true.1 h1 j (List.mem_range.2 hj)
 have e : (j == k) = false := by simpa using hne
 rw [e, hf, hw, Bool.false_or, Bool.false_or, Bool.false_or] at h2
 have h3 := List.all_eq_true.1 h2 i (List.mem_range.2 hi)
 rw [hd] at h3
 simpa using h3
theorem madeZ {C : World → Prop} (loud fixed : List Nat) {P : Program} {id : Nat} {R : Exit → Act → World → Prop} {a : Act} {w : World} {l : List Oper} (hCq : ∀ w1 w2, C w1 → Q w1 w2 → C w2) (φ : Nat → Value → World → Prop) (hm : P.follows .mixedOrders = true) (hB : chk l = true) (hU : useB l loud fixed = true)
  (hC : C w.drew) (hmono : ∀ i v w1 w2, φ i v w1 → Q w1 w2 → φ i v w2) (hfix : ∀ i, isIn fixed i = true → ∀ v w1 w2, φ i v w1 → φ i v w2) (hstep : All (StepZ C loud fixed P R l a φ) 0 l)
  (hend : ∀ f w', C w' → (∀ j, j < l.length → isIn fixed j = true → φ j (f j) w') → R .normal (acts f 0 l a) w') : (Code.region id l.toArray true).wp P R a w := by
 unfold chk at hB
 rw [Bool.and_eq_true] at hB
 have hev : ∀ (f : Nat → Value) d i, ((l[i]?).bind (·.dst)) = some d → d < a.tmps.size → (acts f 0 l a).eval (.tmp d) = f i := fun f d i hdi hs => acts_get l 0 a hB.1 (Nat.zero_le _) (by simpa using hdi) hs
 have hsame : ∀ (f : Nat → Value) d, apartD (some d) l = true → (acts f 0 l a).eval (.tmp d) = a.eval (.tmp d) := fun f d hd' => acts_same l 0 a hd'
 refine wp_region_any hm ?_
 have hst : a = acts (old a l) 0 l a := start
 have key := any (P := P) (ops := l.toArray) (R := R) (A := fun f => acts f 0 l a) (fun S f w' => C w' ∧ (∀ j, j < l.length → S j = true → (isIn fixed j = true ∨ ∃ i, i < l.length ∧ gotB l loud fixed i j = true ∧ S i = false) → φ j (f j) w') ∧ ∀ j, S j = false → f j = old a l j)
  (fun f i o v ho => acts_upd v l 0 a hB.1 (Nat.zero_le _) (by simpa using ho)) hB.2
  (fun S f w1 i o ho hSi hdep hwait hJ => by
   have ho' : l[i]? = some o := by simpa using ho
   have hil : i < l.length := (List.getElem?_eq_some_iff.1 ho').1
   have hs := all_get hstep ho'
   rw [Nat.zero_add] at hs
   have hjl : ∀ j, dep l.toArray l.length i j = true → j < l.length := fun j hj => by
    refine Classical.byContradiction fun hge => ?_
    exact absurd hj (by rw [dep_far hB.2 l.length i j (by simpa using hge)]; exact Bool.false_ne_true)
   have hdl : ∀ j, gotB l loud fixed i j = true → φ j (f j) w1 := fun j hj => hJ.2.1 j (hjl j (got_dep hj)) (hdep j (by simpa using got_dep hj)) (.inr ⟨i, hil, hj, hSi⟩)
   have := hs f w1 hJ.1 hdl _ (hev f) (hsame f) (fun j hj => hJ.2.2 j (hwait j (by simpa using hj)))
   have grow : ∀ v w2, (if isIn loud i then C w2 else Q w1 w2) → φ i v w2 → (C w2 ∧ (∀ j, j < l.length → upd S i true j = true → (isIn fixed j = true ∨ ∃ i', i' < l.length ∧ gotB l loud fixed i' j = true ∧ upd S i true i' = false) → φ j (upd f i v j) w2) ∧ ∀ j, upd S i true j = false → upd f i v j = old a l j) := fun v w2 hq hφ => by
    refine ⟨?_, fun j hj hSj hal => ?_, fun j hSj => ?_⟩
    ·cases hl : isIn loud i with
     | true => rw [hl] at hq; exact hq
     | false => rw [hl] at hq; exact hCq _ _ hJ.1 hq
    ·by_cases e : j = i
     ·unfold upd
      rw [if_pos e, e]
      exact hφ
     ·have e1 : upd f i v j = f j := by unfold upd; rw [if_neg e]
      have e2 : S j = true := by unfold upd at hSj; rw [if_neg e] at hSj; exact hSj
      have hal0 : isIn fixed j = true ∨ ∃ i', i' < l.length ∧ gotB l loud fixed i' j = true ∧ S i' = false := by
       rcases hal with h | ⟨i', h1, h2, h3⟩
       ·exact .inl h
       ·refine .inr ⟨i', h1, h2, ?_⟩
        unfold upd at h3
        by_cases e3 : i' = i
        ·rw [if_pos e3] at h3; cases h3
        ·rw [if_neg e3] at h3; exact h3
      have hp := hJ.2.1 j hj e2 hal0
      rw [e1]
      cases hl : isIn loud i with
      | false => rw [hl] at hq; exact hmono _ _ _ _ hp hq
      | true =>
       cases hfx : isIn fixed j with
       | true => exact hfix j hfx _ _ _ hp
       | false =>
        exfalso
        cases hdj : dep l.toArray l.length j i with
        | true =>
         have := hwait j (by simpa using hdj)
         rw [e2] at this
         cases this
        | false =>
         have hu := use_of hU hl hj e hfx hdj
         rcases hal with h | ⟨i', h1, h2, h3⟩
         ·rw [hfx] at h; cases h
         ·rcases hu i' h1 h2 with h4 | h4
          ·subst h4
           unfold upd at h3
           rw [if_pos rfl] at h3
           cases h3
          ·have h5 := hdep i' (by simpa using h4)
           unfold upd at h3
           by_cases e3 : i' = i
           ·rw [if_pos e3] at h3; cases h3
           ·rw [if_neg e3, h5] at h3; cases h3
    ·unfold upd at hSj ⊢
     by_cases e : j = i
     ·rw [if_pos e] at hSj; cases hSj
     ·rw [if_neg e] at hSj ⊢
      exact hJ.2.2 j hSj
   rcases this with ⟨hw, hwp⟩ | ⟨hw, hφ⟩
   ·rw [if_pos (wanted_of hB.1 hw)]
    exact Oper.wp_mono (fun a' w2 ⟨v, e, hq, hφ⟩ => ⟨v, e, grow v w2 hq hφ⟩) hwp
   ·rw [if_neg (by rw [wanted_of hB.1 hw]; exact Bool.false_ne_true)]
    refine grow undef w1 ?_ hφ
    cases hl : isIn loud i with
    | true => exact hJ.1
    | false => exact Q.refl _)
  (fun S f w1 hall hJ => hend f w1 hJ.1 (fun j hj hfx => hJ.2.1 j hj (hall j (by simpa using hj)) (.inl hfx)))
  l.toArray.size (Array.replicate l.toArray.size false) (old a l) { w with drawn := w.drawn + 1 } (by simp) (by simp) (fun i o ho h => absurd h (by rw [getD_rep]; exact Bool.false_ne_true)) ⟨hC, fun j hj h => absurd h (by show ¬ _ = _; dsimp only; rw [getD_rep]; exact Bool.false_ne_true), fun j _ => rfl⟩
 rw [← hst] at key
 exact key
def Fix (p : Value → World → Prop) : Prop := ∀ v w1 w2, p v w1 → p v w2
theorem fix_isV (c : Value) : Fix (isV c) := fun _ _ _ h => h
def FixL : List (Value → World → Prop) → Nat → List Nat → Prop
 | [], _, _ => True
 | p :: r, k, L => (isIn L k = true → Fix p) ∧ FixL r (k + 1) L
theorem phi_fix' : ∀ {ps : List (Value → World → Prop)} {k : Nat} {L : List Nat}, FixL ps k L → ∀ i, isIn L (k + i) = true → Fix (phi ps i)
 | [], _, _, _, i, _ => fun _ _ _ _ => trivial
 | p :: r, k, L, h, 0, hi => h.1 hi
 | p :: r, k, L, h, i + 1, hi => phi_fix' (ps := r) h.2 i (by rw [show k + 1 + i = k + (i + 1) by omega]; exact hi)
theorem phi_fix {ps : List (Value → World → Prop)} {L : List Nat} (h : FixL ps 0 L) (i : Nat) (hi : isIn L i = true) : ∀ v w1 w2, phi ps i v w1 → phi ps i v w2 := phi_fix' h i (by rw [Nat.zero_add]; exact hi)
theorem run_not {P : Program} {o : Oper} {A : Act} {w : World} {x : Operand} {t : TypeId} {b : Bool} (ho : o.op = .unOp .not t x) (hx : A.eval x = .bool b) : (execOp A.eval o).run P w = .ok (.value (.bool (!b))) w := by
 unfold execOp
 simp only [ho, hx]
 simp [go_sem]
theorem run_pick {P : Program} {o : Oper} {A : Act} {w : World} {c x y : Operand} {b : Bool} {v : Value} (ho : o.op = .pick c x y) (hc : A.eval c = .bool b) (hv : (if b then A.eval x else A.eval y) = v) : (execOp A.eval o).run P w = .ok (.value v) w := by
 unfold execOp
 simp only [ho, hc]
 cases b
 ·have hv : A.eval y = v := hv
  rw [hv]
  simp [go_sem]
 ·have hv : A.eval x = v := hv
  rw [hv]
  simp [go_sem]
end Ri

namespace Ri
section
variable {P : Program} {R : Exit → Act → World → Prop} {o : Oper} {A : Act} {w : World}
theorem run_ldagg {ty : TypeId} {x : Operand} {g off : Nat} {cs : List Value} {d : TypeDesc} (ho : o.op = .load ty x) (hx : A.eval x = .pointer (some ⟨g, off, none⟩)) (hc : ∀ j v, cs[j]? = some v → w.cell? ⟨g, off + j, none⟩ = some v) (hu : P.underlying ty = some d) (hd : (match d with | .struct _ | .array _ _ => true | _ => false) = true) (hi : (P.info? ty).map (·.size) = some cs.length) :
  (execOp A.eval o).run P w = .ok (.value (.agg cs.toArray)) w := by
 have hl : (loadCells ⟨g, off, none⟩ cs.length).run P w = .ok cs.toArray w := run_loadCells_list (P := P) w ⟨g, off, none⟩ cs (fun j v hv => by rw [addr_add]; exact hc j v hv)
 have h : (loadVar ty ⟨g, off, none⟩).run P w = .ok (.agg cs.toArray) w := by
  cases hq : P.info? ty with
  | none => simp [hq] at hi
  | some i =>
   have hs : i.size = cs.length := by simpa [hq] using hi
   have hagg : (isAgg ty).run P w = .ok true w := by
    unfold isAgg
    rw [Sem.run_bind, run_underlying hu w]
    cases d <;> simp_all
   simp [loadVar, hagg, sizeOf, typeInfo, hq, hs, hl, Sem.run_bind]
 unfold execOp
 simp [ho, hx, Instr.loadAt, Instr.sureAddr, h]
theorem run_idx {t e : TypeId} {x y : Operand} {g off n c k sz : Nat} (ho : o.op = .indexAddr t x y) (hx : A.eval x = .slice (some ⟨g, off, none⟩) n c) (hy : A.eval y = .int .i64 (k : Int)) (hu : P.underlying t = some (.slice e)) (hs : (P.info? e).map (·.size) = some sz) (hk : k < n) :
  (execOp A.eval o).run P w = .ok (.value (.pointer (some ⟨g, off + k * sz, none⟩))) w := by
 have hsz : (sizeOf e).run P w = .ok sz w := by
  cases hq : P.info? e with
  | none => simp [hq] at hs
  | some i => simp [hq] at hs; simp [sizeOf, typeInfo, hq, hs]
 have he : P.elem t = e := by unfold Program.elem; simp [hu]
 have hu' : P.underlying t = some (.slice (P.elem t)) := by rw [he]; exact hu
 unfold execOp
 simp only [ho, hx, hy]
 have h1 : (k : Int) < (n : Int) := by omega
 simp [run_indexAt_slice (P := P) w t _ n c .i64 (k : Int) hu', he, hsz, hk, addr_add, Result.andThen]
end
end Ri
theorem c4L {w : World} {g : Nat} {a b c d : Value} (h0 : w.cell? ⟨g, 0, none⟩ = some a) (h1 : w.cell? ⟨g, 1, none⟩ = some b) (h2 : w.cell? ⟨g, 2, none⟩ = some c) (h3 : w.cell? ⟨g, 3, none⟩ = some d) : ∀ (j : Nat) (v : Value), [a, b, c, d][j]? = some v → w.cell? ⟨g, 0 + j, none⟩ = some v
 | 0, _, h => by injection h with h; rw [← h]; exact h0
 | 1, _, h => by injection h with h; rw [← h]; exact h1
 | 2, _, h => by injection h with h; rw [← h]; exact h2
 | 3, _, h => by injection h with h; rw [← h]; exact h3
 | j + 4, _, h => by simp at h
theorem c2L {w : World} {g : Nat} {a b : Value} (h0 : w.cell? ⟨g, 0, none⟩ = some a) (h1 : w.cell? ⟨g, 1, none⟩ = some b) : ∀ (j : Nat) (v : Value), [a, b][j]? = some v → w.cell? ⟨g, 0 + j, none⟩ = some v
 | 0, _, h => by injection h with h; rw [← h]; exact h0
 | 1, _, h => by injection h with h; rw [← h]; exact h1
 | j + 2, _, h => by simp at h
def NewR (B : Nat) : Value → World → Prop := fun v W => ∃ q, v = .pointer (some ⟨q, 0, none⟩) ∧ B ≤ q ∧ q < W.heap.size ∧ W.heap[q]? = some (.cells #[.int .i64 0, .int .i64 0] 65 (0, 0))
theorem newR_q (B : Nat) : Ri.Mono (NewR B) := fun _ w1 w2 ⟨q, e, hb, hl, hh⟩ hq => ⟨q, e, hb, Nat.lt_of_lt_of_le hl hq.size, (hq.below.block _ hl).trans hh⟩
namespace Ri
theorem run_allocR {o : Oper} {A : Act} {W : World} (ho : o.op = .alloc 65) : (execOp A.eval o).run Try.prog W = .ok (.value (.pointer (some ⟨W.heap.size, 0, none⟩))) (W.alloc (.cells #[.int .i64 0, .int .i64 0] 65)) := by
 unfold execOp
 simp only [ho]
 have h : (Instr.alloc 65 true (.tuple #[])).run Try.prog W = .ok (.pointer (some ⟨W.heap.size, 0, none⟩)) (W.alloc (.cells #[.int .i64 0, .int .i64 0] 65)) := by kernel_rfl
 simp [Sem.run_bind, h, Result.andThen]
theorem run_minC {P : Program} {o : Oper} {A : Act} {w : World} {x y : Operand} {t t' : TypeId} {p u : Int} (ho : o.op = .call { callee := .builtin .min, args := #[x, y], argTypes := #[t, t'] }) (hx : A.eval x = .int .i64 p) (hy : A.eval y = .int .i64 u) : (execOp A.eval o).run P w = .ok (.value (.int .i64 (if u < p then u else p))) w := by
 unfold execOp
 simp only [ho, resolve, invoke, builtin, Sem.run_bind, Sem.run_pure, Result.andThen_ok, List.map_toArray, List.map_cons, List.map_nil, hx, hy]
 simp [Builtin.min_, Builtin.min2]
end Ri
theorem room_leaf {n s : Int} (hn : Lf n s) (b : Bool) (w : World) : Calls Try.prog 58 #[lfV n, tgV b] w (R1 w (.agg #[.int .i64 s, .int .i64 s])) := by
 unfold R1
 obtain ⟨w3, hw3⟩ : ∃ w3, ((w.alloc (.cells #[.int .i64 2, .int .i64 n, .bool false, .slice none 0 0] 24)).alloc (.cells #[.int .i64 4, .bool b] 26)).alloc (.cells #[.int .i64 0, .int .i64 0] 65) = w3 := ⟨_, rfl⟩
 obtain ⟨hq3, hs3, hc, hd, he⟩ := box3 hw3
 have hs0 : w.heap.size < w3.heap.size := by omega
 have hs1 : w.heap.size + 1 < w3.heap.size := by omega
 have hs2 : w.heap.size + 2 < w3.heap.size := by omega
 have k0 : w3.cell? ⟨w.heap.size, 0, none⟩ = some (.int .i64 2) := hc 0 _ rfl
 have k1 : w3.cell? ⟨w.heap.size, 1, none⟩ = some (.int .i64 n) := hc 1 _ rfl
 have t0 : w3.cell? ⟨w.heap.size + 1, 0, none⟩ = some (.int .i64 4) := hd 0 _ rfl
 have kb : w3.heap[w.heap.size + 2]? = some (.cells #[.int .i64 0, .int .i64 0] 65 (0, 0)) := by
  have h9 := heap_alloc_new ((w.alloc (.cells #[.int .i64 2, .int .i64 n, .bool false, .slice none 0 0] 24)).alloc (.cells #[.int .i64 4, .bool b] 26)) (.cells #[.int .i64 0, .int .i64 0] 65)
  rw [hw3] at h9
  simpa using h9
 have hmin : (if (4 : Int) < s then (4 : Int) else s) = s := by rcases hn with ⟨-, rfl⟩ | ⟨-, rfl⟩ <;> rfl
 have HN := hide hn
 have HW3 := hide hw3
 have HQ3 := hide hq3
 clear hn hw3 hq3 hc hd he
 go_enter Try.func58, Try.ntmps58
 go_upto_region 1 with fail
 rw [HW3.out]
 go_upto_region 5 with fail
 refine Ri.made_last (Ri.phi [Ri.isV (.pointer (some ⟨w.heap.size, 1, none⟩)), Ri.isV (.int .i64 n), Ri.isV (.int .i64 s), Ri.isV (.pointer (some ⟨w.heap.size, 1, none⟩)), Ri.isV (.int .i64 n), Ri.isV (.int .i64 s), Ri.isV (.pointer (some ⟨w.heap.size + 1, 0, none⟩)), Ri.isV (.int .i64 4), Ri.isV (.int .i64 s), Ri.isV (.agg #[.int .i64 s, .int .i64 s])]) (by kernel_rfl) (by kernel_rfl) rfl (by kernel_rfl) rfl (Ri.phi_mono ?_) ?_ ?_
 ·repeat' first | exact trivial | exact fun _ _ _ h _ => h | refine ⟨?_, ?_⟩
 ·refine Ri.All.cons ?_ (.cons ?_ (.cons ?_ (.cons ?_ (.cons ?_ (.cons ?_ (.cons ?_ (.cons ?_ (.cons ?_ (.cons ?_ (Ri.All.nil))))))))))
  ·refine ⟨rfl, fun f W hq hf A hA hB hO => ?_⟩
   have e1 := (hB 2).trans (show _ = .pointer (some ⟨w.heap.size, 0, none⟩) by simp [Act.eval])
   exact Ri.wp_value _ (Ri.run_fld (f := _) rfl e1 Try.underlying24 rfl (sz := 0) (by kernel_rfl)) rfl
  ·refine ⟨rfl, fun f W hq hf A hA hB hO => ?_⟩
   have e1 := (hA 22 0).trans (hf 0)
   exact Ri.wp_value _ (Ri.run_ld1 rfl e1 Try.underlying3 rfl ((hq.facts.1 _ 1 hs0).trans k1)) rfl
  ·refine ⟨rfl, fun f W hq hf A hA hB hO => ?_⟩
   have e1 := (hA 23 1).trans (hf 1)
   refine Ri.wp_call #[.int .i64 n] rfl (by simp [e1]) Try.func88 (by kernel_rfl) (by kernel_rfl) ((whole_any HN.out W).mono ?_)
   rintro e w9 ⟨rfl, h1⟩
   exact ⟨_, rfl, h1, rfl⟩
  ·refine ⟨rfl, fun f W hq hf A hA hB hO => ?_⟩
   have e1 := (hB 2).trans (show _ = .pointer (some ⟨w.heap.size, 0, none⟩) by simp [Act.eval])
   exact Ri.wp_value _ (Ri.run_fld (f := _) rfl e1 Try.underlying24 rfl (sz := 0) (by kernel_rfl)) rfl
  ·refine ⟨rfl, fun f W hq hf A hA hB hO => ?_⟩
   have e1 := (hA 25 3).trans (hf 3)
   exact Ri.wp_value _ (Ri.run_ld1 rfl e1 Try.underlying3 rfl ((hq.facts.1 _ 1 hs0).trans k1)) rfl
  ·refine ⟨rfl, fun f W hq hf A hA hB hO => ?_⟩
   have e1 := (hA 26 4).trans (hf 4)
   refine Ri.wp_call #[.int .i64 n] rfl (by simp [e1]) Try.func88 (by kernel_rfl) (by kernel_rfl) ((whole_any HN.out W).mono ?_)
   rintro e w9 ⟨rfl, h1⟩
   exact ⟨_, rfl, h1, rfl⟩
  ·refine ⟨rfl, fun f W hq hf A hA hB hO => ?_⟩
   have e1 := (hB 3).trans (show _ = .pointer (some ⟨w.heap.size + 1, 0, none⟩) by simp [Act.eval])
   exact Ri.wp_value _ (Ri.run_fld (f := _) rfl e1 Try.underlying26 rfl (sz := 0) (by kernel_rfl)) rfl
  ·refine ⟨rfl, fun f W hq hf A hA hB hO => ?_⟩
   have e1 := (hA 28 6).trans (hf 6)
   exact Ri.wp_value _ (Ri.run_ld1 rfl e1 Try.underlying3 rfl ((hq.facts.1 _ 0 hs1).trans t0)) rfl
  ·refine ⟨rfl, fun f W hq hf A hA hB hO => ?_⟩
   have e1 := (hA 27 5).trans (hf 5)
   have e2 := (hA 29 7).trans (hf 7)
   exact Ri.wp_value _ ((Ri.run_minC rfl e1 e2).trans (by rw [hmin])) rfl
  ·refine ⟨rfl, fun f W hq hf A hA hB hO => ?_⟩
   have e1 := (hA 24 2).trans (hf 2)
   have e2 := (hA 30 8).trans (hf 8)
   exact Ri.wp_struct rfl [(0, .int .i64 s), (1, .int .i64 s)] (by simp [e1, e2]) (by kernel_rfl) rfl
 ·intro f W2 hq hf A hAe hA hB
  have e1 := (hB 4).trans (show _ = .pointer (some ⟨w.heap.size + 2, 0, none⟩) by simp [Act.eval])
  have e2 := (hA 31 9).trans (hf 9)
  refine wp_store_row _ _ _ rfl _ _ e1 e2 _ _ ((hq.below.block _ hs2).trans kb) (by kernel_rfl) rfl (by simp [Value.oneCell']) ⟨undef, rfl, ?_⟩
  rw [hAe]
  simp only [Ri.acts, Act.put, List.setIfInBounds_toArray, List.set_cons_zero, List.set_cons_succ, Nat.zero_add, Nat.reduceAdd]
  have HXW := hide hq
  clear hA hB hAe e1 e2 hf hq
  have HGR := hide ((HXW.out.below.block _ hs2).trans kb)
  have HQW := hide ((HQ3.out.trans HXW.out).setRow (g := w.heap.size + 2) (by omega) #[.int .i64 s, .int .i64 s])
  clear k0 k1 t0 kb
  have s0 : (W2.setRow (w.heap.size + 2) #[.int .i64 s, .int .i64 s]).cell? ⟨w.heap.size + 2, 0, none⟩ = some (.int .i64 s) := (cell_setRow_same _ _ 0 _ _ _ _ HGR.out).trans rfl
  have s1 : (W2.setRow (w.heap.size + 2) #[.int .i64 s, .int .i64 s]).cell? ⟨w.heap.size + 2, 1, none⟩ = some (.int .i64 s) := (cell_setRow_same _ _ 1 _ _ _ _ HGR.out).trans rfl
  go_wp2_with fail
  refine bodyPost_ret (v := .agg #[.int .i64 s, .int .i64 s]) (by simp [results, Try.results58, go_sem, s0, s1]) rfl ?_
  exact ⟨rfl, HQW.out⟩
theorem room_opt (g : Nat) (b : Bool) (w : World) (h8 : Op8 w g) : Calls Try.prog 58 #[opV g, tgV b] w (R1 w (.agg #[.int .i64 2, .int .i64 1])) := by
 unfold R1
 obtain ⟨w3, hw3⟩ : ∃ w3, ((w.alloc (.cells #[.int .i64 4, .int .i64 0, .bool false, .slice (some ⟨g, 0, none⟩) 1 1] 24)).alloc (.cells #[.int .i64 4, .bool b] 26)).alloc (.cells #[.int .i64 0, .int .i64 0] 65) = w3 := ⟨_, rfl⟩
 obtain ⟨hq3, hs3, hc, hd, he⟩ := box3 hw3
 have hs0 : w.heap.size < w3.heap.size := by omega
 have hs1 : w.heap.size + 1 < w3.heap.size := by omega
 have hs2 : w.heap.size + 2 < w3.heap.size := by omega
 have k0 : w3.cell? ⟨w.heap.size, 0, none⟩ = some (.int .i64 4) := hc 0 _ rfl
 have k3 : w3.cell? ⟨w.heap.size, 3, none⟩ = some (.slice (some ⟨g, 0, none⟩) 1 1) := hc 3 _ rfl
 have t0 : w3.cell? ⟨w.heap.size + 1, 0, none⟩ = some (.int .i64 4) := hd 0 _ rfl
 have t1 : w3.cell? ⟨w.heap.size + 1, 1, none⟩ = some (.bool b) := hd 1 _ rfl
 have kb : w3.heap[w.heap.size + 2]? = some (.cells #[.int .i64 0, .int .i64 0] 65 (0, 0)) := by
  have h9 := heap_alloc_new ((w.alloc (.cells #[.int .i64 4, .int .i64 0, .bool false, .slice (some ⟨g, 0, none⟩) 1 1] 24)).alloc (.cells #[.int .i64 4, .bool b] 26)) (.cells #[.int .i64 0, .int .i64 0] 65)
  rw [hw3] at h9
  simpa using h9
 have H8 := hide (h8.up hq3)
 have HW3 := hide hw3
 have HQ3 := hide hq3
 clear h8 hw3 hq3 hc hd he
 go_enter Try.func58, Try.ntmps58
 go_upto_region 1 with fail
 rw [HW3.out]
 go_upto_region 9 with fail
 refine Ri.made_last (Ri.phi [Ri.isV (.pointer (some ⟨w.heap.size, 3, none⟩)), Ri.isV (.slice (some ⟨g, 0, none⟩) 1 1), Ri.isV (.pointer (some ⟨g, 0 + 0 * 4, none⟩)), Ri.isV (lfV 8), Ri.isV (tgV b), Ri.isV (.agg #[.int .i64 1, .int .i64 1]), (NewR w3.heap.size)]) (by kernel_rfl) (by kernel_rfl) rfl (by kernel_rfl) rfl (Ri.phi_mono ?_) ?_ ?_
 ·repeat' first | exact trivial | exact fun _ _ _ h _ => h | exact newR_q _ | refine ⟨?_, ?_⟩
 ·refine Ri.All.cons ?_ (.cons ?_ (.cons ?_ (.cons ?_ (.cons ?_ (.cons ?_ (.cons ?_ (Ri.All.nil)))))))
  ·refine ⟨rfl, fun f W hq hf A hA hB hO => ?_⟩
   have e1 := (hB 2).trans (show _ = .pointer (some ⟨w.heap.size, 0, none⟩) by simp [Act.eval])
   exact Ri.wp_value _ (Ri.run_fld (f := _) rfl e1 Try.underlying24 rfl (sz := 0) (by kernel_rfl)) rfl
  ·refine ⟨rfl, fun f W hq hf A hA hB hO => ?_⟩
   have e1 := (hA 41 0).trans (hf 0)
   exact Ri.wp_value _ (Ri.run_ld1 rfl e1 Try.underlying22 rfl ((hq.facts.1 _ 3 hs0).trans k3)) rfl
  ·refine ⟨rfl, fun f W hq hf A hA hB hO => ?_⟩
   have e1 := (hA 42 1).trans (hf 1)
   have e2 : A.eval (.const (.int .i64 0)) = .int .i64 ((0 : Nat) : Int) := rfl
   exact Ri.wp_value _ (Ri.run_idx rfl e1 e2 Try.underlying22 (sz := 4) (by kernel_rfl) (by decide)) rfl
  ·refine ⟨rfl, fun f W hq hf A hA hB hO => ?_⟩
   have e1 := (hA 43 2).trans (hf 2)
   obtain ⟨hl, c0, c1, c2, c3⟩ := H8.out.up ((Q.refl _).drew.trans hq)
   exact Ri.wp_value _ (Ri.run_ldagg (cs := [.int .i64 2, .int .i64 8, .bool false, .slice none 0 0]) rfl e1 (c4L c0 c1 c2 c3) Try.underlying24 rfl (by kernel_rfl)) rfl
  ·refine ⟨rfl, fun f W hq hf A hA hB hO => ?_⟩
   have e1 := (hB 3).trans (show _ = .pointer (some ⟨w.heap.size + 1, 0, none⟩) by simp [Act.eval])
   exact Ri.wp_value _ (Ri.run_ldagg (cs := [.int .i64 4, .bool b]) rfl e1 (c2L ((hq.facts.1 _ 0 hs1).trans t0) ((hq.facts.1 _ 1 hs1).trans t1)) Try.underlying26 rfl (by kernel_rfl)) rfl
  ·refine ⟨rfl, fun f W hq hf A hA hB hO => ?_⟩
   have e1 := (hA 44 3).trans (hf 3)
   have e2 := (hA 45 4).trans (hf 4)
   refine Ri.wp_call #[lfV 8, tgV b] rfl (by simp [e1, e2]) Try.func58 (by kernel_rfl) (by kernel_rfl) ((room_leaf (n := 8) (s := 1) (.inl ⟨rfl, rfl⟩) b W).mono ?_)
   rintro e w9 ⟨rfl, h1⟩
   exact ⟨_, rfl, h1, rfl⟩
  ·refine ⟨rfl, fun f W hq hf A hA hB hO => ?_⟩
   exact Ri.wp_val _ (Ri.run_allocR rfl) ((Q.refl W).alloc _) ⟨_, rfl, hq.size, by simp, heap_alloc_new W _⟩
 ·intro f W2 hq hf A hAe hA hB
  obtain ⟨q, hqe, hqb, hql, hqh⟩ : NewR w3.heap.size (f 6) W2 := hf 6 (by simp)
  have e1 := (hA 5 6).trans hqe
  have e2 := (hA 46 5).trans (hf 5)
  refine wp_store_row _ _ _ rfl _ _ e1 e2 _ _ (hqh) (by kernel_rfl) rfl (by simp [Value.oneCell']) ⟨undef, rfl, ?_⟩
  rw [hAe]
  simp only [Ri.acts, Act.put, List.setIfInBounds_toArray, List.set_cons_zero, List.set_cons_succ, Nat.zero_add, Nat.reduceAdd]
  have HXW := hide hq
  have HQH := hide hqh
  have HQB := hide hqb
  rw [hqe]
  clear hA hB hAe e1 e2 hf hq hqh hqe hqb
  have hqs0 : q < W2.heap.size := (Array.getElem?_eq_some_iff.1 HQH.out).1
  have hqne : w.heap.size + 2 ≠ q := by have := HQB.out; omega
  obtain ⟨wr, hwr⟩ : ∃ wr, W2.setRow q #[.int .i64 1, .int .i64 1] = wr := ⟨_, rfl⟩
  have hqs : q < wr.heap.size := by rw [← hwr]; simpa using hqs0
  have q0 : wr.cell? ⟨q, 0, none⟩ = some (.int .i64 1) := by rw [← hwr]; exact (cell_setRow_same _ _ 0 _ _ _ _ HQH.out).trans rfl
  have q1 : wr.cell? ⟨q, 1, none⟩ = some (.int .i64 1) := by rw [← hwr]; exact (cell_setRow_same _ _ 1 _ _ _ _ HQH.out).trans rfl
  have kbr : wr.heap[w.heap.size + 2]? = some (.cells #[.int .i64 0, .int .i64 0] 65 (0, 0)) := by
   rw [← hwr, setRow_other _ _ _ _ hqne]
   exact (HXW.out.below.block _ hs2).trans kb
  have hs2r : w.heap.size + 2 < wr.heap.size := by
   rw [← hwr]
   have := HXW.out.size
   simp
   omega
  have HQR := hide (show Q w wr by rw [← hwr]; exact (HQ3.out.trans HXW.out).setRow (by have := HQB.out; omega) _)
  have HWR := hide hwr
  clear k0 k3 t0 t1 kb hwr
  go_upto_region 10 with fail
  rw [HWR.out]
  refine Ri.made_last (Ri.phi [Ri.isV (.pointer (some ⟨q, 0, none⟩)), Ri.isV (.int .i64 1), (fun v W => ∃ b, v = .slice (some ⟨b, 0, none⟩) 2 2 ∧ b < W.heap.size ∧ W.cell? ⟨b, 0, none⟩ = some (.int .i64 1) ∧ W.cell? ⟨b, 1, none⟩ = some (.int .i64 1)), Ri.isV (.int .i64 (1 + 1)), Ri.isV (.pointer (some ⟨q, 1, none⟩)), Ri.isV (.int .i64 1), Ri.isV (.int .i64 2), Ri.isV (.pointer (some ⟨q, 1, none⟩)), Ri.isV (.int .i64 1), Ri.isV (.agg #[.int .i64 2, .int .i64 1])]) (by kernel_rfl) (by kernel_rfl) rfl (by kernel_rfl) rfl (Ri.phi_mono ?_) ?_ ?_
  ·repeat' first | exact trivial | exact fun _ _ _ h _ => h | exact (fun _ w3 w4 ⟨b, e, hb, c0, c1⟩ hq => ⟨b, e, Nat.lt_of_lt_of_le hb hq.size, (hq.facts.1 _ _ hb).trans c0, (hq.facts.1 _ _ hb).trans c1⟩) | refine ⟨?_, ?_⟩
  ·refine Ri.All.cons ?_ (.cons ?_ (.cons ?_ (.cons ?_ (.cons ?_ (.cons ?_ (.cons ?_ (.cons ?_ (.cons ?_ (.cons ?_ (Ri.All.nil))))))))))
   ·refine ⟨rfl, fun f W hq hf A hA hB hO => ?_⟩
    have e1 := (hB 5).trans (show _ = .pointer (some ⟨q, 0, none⟩) by simp [Act.eval])
    exact Ri.wp_value _ (Ri.run_fld (f := _) rfl e1 Try.underlying65 rfl (sz := 0) (by kernel_rfl)) rfl
   ·refine ⟨rfl, fun f W hq hf A hA hB hO => ?_⟩
    have e1 := (hA 47 0).trans (hf 0)
    exact Ri.wp_value _ (Ri.run_ld1 rfl e1 Try.underlying3 rfl ((hq.facts.1 _ 0 hqs).trans q0)) rfl
   ·refine ⟨rfl, fun f W hq hf A hA hB hO => ?_⟩
    have e1 := (hA 48 1).trans (hf 1)
    obtain ⟨ti, hi9, hz9, hsz9, hby9⟩ := info_parts (show (Try.prog.info? 3).map (fun i => (i.zero, i.size, i.bytes)) = some (some (.int .i64 0), 1, 8) by kernel_rfl)
    refine wp_buildSlice 32 3 2 _ rfl #[.int .i64 1, .int .i64 1] ti _ Try.underlying32 hi9 hz9 (by rw [hsz9]; decide) (by rw [hsz9]; decide) ?_ ⟨_, rfl, (Q.refl W).alloc _, W.heap.size, rfl, by simp, cell_blkJ (heap_alloc_new W _) rfl, cell_blkJ (heap_alloc_new W _) rfl⟩
    rw [hsz9]
    simp only [List.map_toArray, List.map_cons, List.map_nil, e1]
    kernel_rfl
   ·refine ⟨rfl, fun f W hq hf A hA hB hO => ?_⟩
    obtain ⟨b9, hb9, hl9, c0, c1⟩ : ∃ b, f 2 = .slice (some ⟨b, 0, none⟩) 2 2 ∧ b < W.heap.size ∧ W.cell? ⟨b, 0, none⟩ = some (.int .i64 1) ∧ W.cell? ⟨b, 1, none⟩ = some (.int .i64 1) := hf 2
    have e1 := (hA 49 2).trans hb9
    refine Ri.wp_call #[.slice (some ⟨b9, 0, none⟩) 2 2] rfl (by simp [e1]) Try.func66 (by kernel_rfl) (by kernel_rfl) ((sum2 b9 1 1 W hl9 c0 c1 (by omega) (by omega) (by omega) (by omega)).mono ?_)
    rintro e w9 ⟨rfl, h1⟩
    exact ⟨_, rfl, h1, rfl⟩
   ·refine ⟨rfl, fun f W hq hf A hA hB hO => ?_⟩
    have e1 := (hB 5).trans (show _ = .pointer (some ⟨q, 0, none⟩) by simp [Act.eval])
    exact Ri.wp_value _ (Ri.run_fld (f := _) rfl e1 Try.underlying65 rfl (sz := 0) (by kernel_rfl)) rfl
   ·refine ⟨rfl, fun f W hq hf A hA hB hO => ?_⟩
    have e1 := (hA 51 4).trans (hf 4)
    exact Ri.wp_value _ (Ri.run_ld1 rfl e1 Try.underlying3 rfl ((hq.facts.1 _ 1 hqs).trans q1)) rfl
   ·refine ⟨rfl, fun f W hq hf A hA hB hO => ?_⟩
    have e1 := (hA 50 3).trans (hf 3)
    have e2 := (hA 52 5).trans (hf 5)
    refine Ri.wp_call #[.int .i64 2, .int .i64 1] rfl (by simp [e1, e2]) Try.func65 (by kernel_rfl) (by kernel_rfl) ((up21 W).mono ?_)
    rintro e w9 ⟨rfl, h1⟩
    exact ⟨_, rfl, h1, rfl⟩
   ·refine ⟨rfl, fun f W hq hf A hA hB hO => ?_⟩
    have e1 := (hB 5).trans (show _ = .pointer (some ⟨q, 0, none⟩) by simp [Act.eval])
    exact Ri.wp_value _ (Ri.run_fld (f := _) rfl e1 Try.underlying65 rfl (sz := 0) (by kernel_rfl)) rfl
   ·refine ⟨rfl, fun f W hq hf A hA hB hO => ?_⟩
    have e1 := (hA 54 7).trans (hf 7)
    exact Ri.wp_value _ (Ri.run_ld1 rfl e1 Try.underlying3 rfl ((hq.facts.1 _ 1 hqs).trans q1)) rfl
   ·refine ⟨rfl, fun f W hq hf A hA hB hO => ?_⟩
    have e1 := (hA 53 6).trans (hf 6)
    have e2 := (hA 55 8).trans (hf 8)
    exact Ri.wp_struct rfl [(0, .int .i64 2), (1, .int .i64 1)] (by simp [e1, e2]) (by kernel_rfl) rfl
  ·intro f W5 hq hf A hAe hA hB
   have e1 := (hB 4).trans (show _ = .pointer (some ⟨w.heap.size + 2, 0, none⟩) by simp [Act.eval])
   have e2 := (hA 56 9).trans (hf 9)
   refine wp_store_row _ _ _ rfl _ _ e1 e2 _ _ ((hq.below.block _ hs2r).trans kbr) (by kernel_rfl) rfl (by simp [Value.oneCell']) ⟨undef, rfl, ?_⟩
   rw [hAe]
   simp only [Ri.acts, Act.put, List.setIfInBounds_toArray, List.set_cons_zero, List.set_cons_succ, Nat.zero_add, Nat.reduceAdd]
   have HXW2 := hide hq
   clear hA hB hAe e1 e2 hf hq
   have HGR := hide ((HXW2.out.below.block _ hs2r).trans kbr)
   have HQW := hide ((HQR.out.trans HXW2.out).setRow (g := w.heap.size + 2) (by omega) #[.int .i64 2, .int .i64 1])
   clear q0 q1 kbr
   have s0 : (W5.setRow (w.heap.size + 2) #[.int .i64 2, .int .i64 1]).cell? ⟨w.heap.size + 2, 0, none⟩ = some (.int .i64 2) := (cell_setRow_same _ _ 0 _ _ _ _ HGR.out).trans rfl
   have s1 : (W5.setRow (w.heap.size + 2) #[.int .i64 2, .int .i64 1]).cell? ⟨w.heap.size + 2, 1, none⟩ = some (.int .i64 1) := (cell_setRow_same _ _ 1 _ _ _ _ HGR.out).trans rfl
   go_wp2_with fail
   refine bodyPost_ret (v := .agg #[.int .i64 2, .int .i64 1]) (by simp [results, Try.results58, go_sem, s0, s1]) rfl ?_
   exact ⟨rfl, HQW.out⟩
theorem room_ly {w : World} {v : Value} {s al : Int} (h : Ly w v s al) (b : Bool) : Calls Try.prog 58 #[v, tgV b] w (R1 w (.agg #[.int .i64 s, .int .i64 al])) := by
 cases h with
 | leaf h => exact room_leaf h b w
 | opt h => exact room_opt _ b w h
theorem Ly.small {w : World} {v : Value} {s al : Int} (h : Ly w v s al) : (s = 1 ∨ s = 2) := by
 cases h with
 | leaf h => rcases h with ⟨-, rfl⟩ | ⟨-, rfl⟩ <;> simp
 | opt h => exact .inr rfl
theorem frz_new {w : World} {g j : Nat} {cs : Array Value} {t : TypeId} (h : w.heap[g]? = some (.cells cs t (0, 0))) : w.frozen? ⟨g, j, none⟩ = false := by
 unfold World.frozen?
 simp [h]
theorem set2c {w : World} {b : Nat} {a0 a1 v0 v1 : Value} (h0 : w.cell? ⟨b, 0, none⟩ = some a0) (h1 : w.cell? ⟨b, 1, none⟩ = some a1) :
  ((w.setCell ⟨b, 0, none⟩ v0).setCell ⟨b, 1, none⟩ v1).cell? ⟨b, 0, none⟩ = some v0 ∧ ((w.setCell ⟨b, 0, none⟩ v0).setCell ⟨b, 1, none⟩ v1).cell? ⟨b, 1, none⟩ = some v1 := by
 constructor
 ·rw [World.cell?_setCell_other _ _ _ _ (by simp)]
  exact World.cell?_setCell_same _ _ _ h0
 ·exact World.cell?_setCell_same _ _ _ (by rw [World.cell?_setCell_other _ _ _ _ (by simp)]; exact h1)
theorem sized_ly {w : World} {v : Value} {s al : Int} (h : Ly w v s al) (b : Bool) : Calls Try.prog 33 #[v, tgV b] w (R1 w (.tuple #[.agg #[.int .i64 s, .int .i64 al], .int .i64 0])) := by
 unfold R1
 have HLY := hide h
 have d1 : decide (4096 < s) = false := by rcases h.small with rfl | rfl <;> rfl
 obtain ⟨k, n, A, m, rfl⟩ := h.cells
 obtain ⟨w3, hw3⟩ : ∃ w3, ((w.alloc (.cells #[.int .i64 k, .int .i64 n, .bool false, .slice A m m] 24)).alloc (.cells #[.int .i64 4, .bool b] 26)).alloc (.cells #[.int .i64 0, .int .i64 0] 65) = w3 := ⟨_, rfl⟩
 obtain ⟨hq3, hs3, hc, hd, he⟩ := box3 hw3
 have hs2 : w.heap.size + 2 < w3.heap.size := by omega
 have k0 := hc 0 _ rfl
 have k1 := hc 1 _ rfl
 have k2 := hc 2 _ rfl
 have k3 := hc 3 _ rfl
 have t0 := hd 0 _ rfl
 have t1 := hd 1 _ rfl
 have Z0 := hide (show w3.cell? ⟨w.heap.size + 2, 0, none⟩ = some (.int .i64 0) from he 0 _ rfl)
 have Z1 := hide (show w3.cell? ⟨w.heap.size + 2, 1, none⟩ = some (.int .i64 0) from he 1 _ rfl)
 have kb : w3.heap[w.heap.size + 2]? = some (.cells #[.int .i64 0, .int .i64 0] 65 (0, 0)) := by
  have h9 := heap_alloc_new ((w.alloc (.cells #[.int .i64 k, .int .i64 n, .bool false, .slice A m m] 24)).alloc (.cells #[.int .i64 4, .bool b] 26)) (.cells #[.int .i64 0, .int .i64 0] 65)
  rw [hw3] at h9
  simpa using h9
 have Y0 := hide (frz_new (j := 0) kb)
 have Y1 := hide (frz_new (j := 1) kb)
 have HR := hide (room_ly (h.up hq3) b)
 have HW3 := hide hw3
 have HQ3 := hide hq3
 clear h hw3 hc hd he hq3 kb
 go_enter Try.func33, Try.ntmps33
 go_upto_region 1 with fail
 rw [HW3.out]
 go_wp2_with fail
 refine HR.out.mono ?_
 rintro e w4 ⟨rfl, hq4⟩
 clear k0 k1 k2 k3 t0 t1
 obtain ⟨w5, hw5⟩ : ∃ w5, w4.alloc (.cells #[.int .i64 s, .int .i64 al] 65) = w5 := ⟨_, rfl⟩
 obtain ⟨hq5, hs5, hc⟩ := box1 hw5
 have r0 := hc 0 _ rfl
 have r1 := hc 1 _ rfl
 have z0 := ((hq4.trans hq5).facts.1 _ 0 hs2).trans Z0.out
 have z1 := ((hq4.trans hq5).facts.1 _ 1 hs2).trans Z1.out
 have y0 := ((hq4.trans hq5).facts.2.1 _ 0 hs2).trans Y0.out
 have y1 := ((hq4.trans hq5).facts.2.1 _ 1 hs2).trans Y1.out
 obtain ⟨s0, s1⟩ := set2c (v0 := .int .i64 s) (v1 := .int .i64 al) z0 z1
 have S0 := hide s0
 have S1 := hide s1
 have HW5 := hide hw5
 have HQ5 := hide (((HQ3.out.trans (hq4.trans hq5)).set (p := ⟨w.heap.size + 2, 0, none⟩) (by simp) (.int .i64 s)).set (p := ⟨w.heap.size + 2, 1, none⟩) (by simp) (.int .i64 al))
 clear hw5 hc hq4 hq5 s0 s1
 go_upto_region 2 with fail
 rw [HW5.out]
 go_wp2_with fail
 have s0 := S0.out
 have s1 := S1.out
 refine bodyPost_ret (v := .tuple #[.agg #[.int .i64 s, .int .i64 al], .int .i64 0]) (by simp [results, Try.results33, go_sem, s0, s1]) rfl ?_
 exact ⟨rfl, HQ5.out⟩
theorem Size_ly {w : World} {v : Value} {s al : Int} (h : Ly w v s al) (b : Bool) : Calls Try.prog 10 #[v, tgV b] w (R1 w (.tuple #[.int .i64 s, .int .i64 0])) := by
 unfold R1
 have HLY := hide h
 obtain ⟨k, n, A, m, rfl⟩ := h.cells
 obtain ⟨w2, hw2⟩ : ∃ w2, (w.alloc (.cells #[.int .i64 k, .int .i64 n, .bool false, .slice A m m] 24)).alloc (.cells #[.int .i64 4, .bool b] 26) = w2 := ⟨_, rfl⟩
 obtain ⟨hq2, hs2, hc, hd⟩ := box2 hw2
 have h0 : w.heap.size < w2.heap.size := by omega
 have h1 : w.heap.size + 1 < w2.heap.size := by omega
 have k0 := hc 0 _ rfl
 have k1 := hc 1 _ rfl
 have k2 := hc 2 _ rfl
 have k3 := hc 3 _ rfl
 have t0 := hd 0 _ rfl
 have t1 := hd 1 _ rfl
 have KA : Hid (∀ W, Q w2 W → W.cell? ⟨w.heap.size, 0, none⟩ = some (.int .i64 k) ∧ W.cell? ⟨w.heap.size, 1, none⟩ = some (.int .i64 n) ∧ W.cell? ⟨w.heap.size, 2, none⟩ = some (.bool false) ∧ W.cell? ⟨w.heap.size, 3, none⟩ = some (.slice A m m) ∧ W.cell? ⟨w.heap.size + 1, 0, none⟩ = some (.int .i64 4) ∧ W.cell? ⟨w.heap.size + 1, 1, none⟩ = some (.bool b)) := hide fun W h => ⟨(h.facts.1 _ 0 h0).trans k0, (h.facts.1 _ 1 h0).trans k1, (h.facts.1 _ 2 h0).trans k2, (h.facts.1 _ 3 h0).trans k3, (h.facts.1 _ 0 h1).trans t0, (h.facts.1 _ 1 h1).trans t1⟩
 have HA := hide (asked_ly (h.up hq2) b)
 have HZ := hide (fun W (hW : Q w W) => sized_ly (HLY.out.up hW) b)
 have HW2 := hide hw2
 have HQ2 := hide hq2
 clear h hw2 hc hd hq2
 go_enter Try.func10, Try.ntmps10
 go_upto_region 1 with fail
 rw [HW2.out]
 go_wp2_with fail
 refine HA.out.mono ?_
 rintro e w3 ⟨rfl, hq3⟩
 clear k0 k1 k2 k3 t0 t1
 obtain ⟨k0, k1, k2, k3, t0, t1⟩ := KA.out w3 hq3
 have HQ3 := hide (HQ2.out.trans hq3)
 have HZ3 := hide (HZ.out w3 (HQ2.out.trans hq3))
 clear hq3
 go_wp2_with fail
 refine HZ3.out.mono ?_
 rintro e w4 ⟨rfl, hq4⟩
 clear k0 k1 k2 k3 t0 t1
 obtain ⟨w5, hw5⟩ : ∃ w5, w4.alloc (.cells #[.int .i64 s, .int .i64 al] 65) = w5 := ⟨_, rfl⟩
 obtain ⟨hq5, hs5, hc⟩ := box1 hw5
 have r0 := hc 0 _ rfl
 have HW5 := hide hw5
 have HQ5 := hide (HQ3.out.trans (hq4.trans hq5))
 clear hw5 hc hq4 hq5
 go_upto_region 5 with fail
 rw [HW5.out]
 go_wp2_with fail
 go_ret2
 exact ⟨rfl, HQ5.out⟩
theorem size_ly {w : World} {v : Value} {s al : Int} (h : Ly w v s al) (b : Bool) : Calls Try.prog 44 #[tgV b, v] w (R1 w (.int .i64 s)) := by
 unfold R1
 have HLY := hide h
 obtain ⟨k, n, A, m, rfl⟩ := h.cells
 obtain ⟨w2, hw2⟩ : ∃ w2, (w.alloc (.cells #[.int .i64 4, .bool b] 60)).alloc (.cells #[.int .i64 k, .int .i64 n, .bool false, .slice A m m] 24) = w2 := ⟨_, rfl⟩
 obtain ⟨hq2, hs2, hd, hc⟩ := box2 hw2
 have k0 := hc 0 _ rfl
 have k1 := hc 1 _ rfl
 have k2 := hc 2 _ rfl
 have k3 := hc 3 _ rfl
 have t0 := hd 0 _ rfl
 have t1 := hd 1 _ rfl
 have HZ := hide (Size_ly (h.up hq2) b)
 have HW2 := hide hw2
 have HQ2 := hide hq2
 clear h hw2 hc hd hq2
 go_enter Try.func44, Try.ntmps44
 go_upto_region 1 with fail
 rw [HW2.out]
 go_wp2_with fail
 refine HZ.out.mono ?_
 rintro e w3 ⟨rfl, hq3⟩
 clear k0 k1 k2 k3 t0 t1
 go_wp2_with fail
 go_ret
 exact ⟨rfl, HQ2.out.trans hq3⟩
end Go.Proofs.Ytbgbalfhbficaaa
