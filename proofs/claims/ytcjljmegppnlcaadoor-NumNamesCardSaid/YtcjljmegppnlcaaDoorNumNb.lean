/- The walk of Read. Conditions: the text is not longer than a text can be. -/
import Derived.Test.YtcjljmegppnlcaaDoorNumNa
namespace Go.Proofs.YtcjljmegppnlcaaDoor
open Go.RowKit NP
set_option linter.unusedVariables false
theorem set2 (w : World) (b : Nat) (u0 u1 v0 v1 : Value) (h0 : w.cell? ⟨b, 0, none⟩ = some u0) (h1 : w.cell? ⟨b, 1, none⟩ = some u1) :
    ((w.setCell ⟨b, 0, none⟩ v0).setCell ⟨b, 1, none⟩ v1).cell? ⟨b, 0, none⟩ = some v0 ∧ ((w.setCell ⟨b, 0, none⟩ v0).setCell ⟨b, 1, none⟩ v1).cell? ⟨b, 1, none⟩ = some v1 := by
  refine ⟨?_, ?_⟩
  · rw [World.cell?_setCell_other _ _ _ _ (by simp), World.cell?_setCell_same _ _ _ h0]
  · rw [World.cell?_setCell_same _ _ _ (by rw [World.cell?_setCell_other _ _ _ _ (by simp)]; exact h1)]
def RdPost (w : World) (l : List UInt8) (e : Ending) (w' : World) : Prop := ∃ s b er, e = .returned (.tuple #[.agg #[.bool s, .int .i64 b], .int .i64 (er : Nat)]) ∧ ReadR l s b er ∧ Q w w'
theorem bad_short {l : List UInt8} (h : l.length < 2) : ReadR l false 0 2 := by
  refine read_bad fun s r e => ?_
  subst e
  have hr : r = [] := by cases r with | nil => rfl | cons a b => simp at h; omega
  subst hr
  intro h2
  have : parseF 10 [] = (0, 2) := by rw [parseF_eq]; exact parseG_nil (b := 10) (l := []) (neg := false) (by omega) (by decide)
  rw [this] at h2
  exact absurd h2.1 (by decide)
theorem bad_head {c : UInt8} {r : List UInt8} (h1 : c ≠ 117) (h2 : c ≠ 105) : ReadR (c :: r) false 0 2 := by
  refine read_bad fun s r' e => ?_
  injection e with e1 e2
  cases s
  · exact absurd e1 h1
  · exact absurd e1 h2
theorem bad_parse {c : UInt8} {r : List UInt8} (h : ¬ ((parseF 10 r).2 = 0 ∧ 1 ≤ (parseF 10 r).1 ∧ (parseF 10 r).1 ≤ 31)) : ReadR (c :: r) false 0 2 := by
  refine read_bad fun s r' e => ?_
  injection e with e1 e2
  rw [← e2]
  exact h
theorem Read_short (l : List UInt8) (hl : l.length < 2) (w : World) : Calls Tryd.prog 6 #[.string (strB l)] w (RdPost w l) := by
  have HB := hide (bad_short hl)
  obtain ⟨S, hS⟩ : ∃ S, strB l = S := ⟨_, rfl⟩
  have hsz : S.size = l.length := by rw [← hS, strB_size]
  have hs2 : (S.size : Int) < 2 := by omega
  have d1 : decide ((S.size : Int) < 2) = true := by simp; omega
  have d1n : decide (S.size < 2) = true := by simp; omega
  rw [hS]
  clear hS hsz hl
  go_enter Tryd.func6, Tryd.ntmps6
  go_wp2_with fail
  refine bodyPost_ret (v := .tuple #[.agg #[.bool false, .int .i64 0], .int .i64 2]) (by simp [results, Tryd.results6, go_sem]) rfl ⟨false, 0, 2, rfl, HB.out, ?_⟩
  exact (by repeat (first | exact Q.refl _ | assumption | refine Q.drew ?_ | refine Q.drewN ?_ _ | refine Q.alloc ?_ _ | refine Q.set ?_ (by first | (simp; done) | (simp; omega) | omega) _ | refine Q.trans ?_ (by assumption)))
theorem Read_head (c : UInt8) (r : List UInt8) (h1 : c ≠ 117) (h2 : c ≠ 105) (hr : 1 ≤ r.length) (hl : r.length + 1 ≤ 9223372036854775807) (w : World) : Calls Tryd.prog 6 #[.string (strB (c :: r))] w (RdPost w (c :: r)) := by
  have HB := hide (bad_head (r := r) h1 h2)
  obtain ⟨S, hS⟩ : ∃ S, strB (c :: r) = S := ⟨_, rfl⟩
  have hsz : S.size = r.length + 1 := by rw [← hS, strB_size]; rfl
  have hs2 : (2 : Int) ≤ (S.size : Int) := by omega
  have hs0n : 0 < S.size := by omega
  have d1 : decide ((S.size : Int) < 2) = false := by simp; omega
  have d1n : decide (S.size < 2) = false := by simp; omega
  have hg0 : S[0]'hs0n = c := by
    have h := strB_get (l := c :: r) (i := 0) (c := c) (by rw [hS]; exact hs0n) rfl
    subst hS
    exact h
  have c1 : ((c.toNat : Int) == 117) = false := by
    rw [beq_eq_false_iff_ne]; intro e; exact h1 (UInt8.toNat_inj.1 (by show c.toNat = 117; omega))
  have c2 : ((c.toNat : Int) == 105) = false := by
    rw [beq_eq_false_iff_ne]; intro e; exact h2 (UInt8.toNat_inj.1 (by show c.toNat = 105; omega))
  have c1' : ((c.toNat : Int) != 117) = true := by simpa using c1
  have c2' : ((c.toNat : Int) != 105) = true := by simpa using c2
  rw [hS]
  clear hS hsz hl hr h1 h2
  go_enter Tryd.func6, Tryd.ntmps6
  go_wp2_with fail
  refine bodyPost_ret (v := .tuple #[.agg #[.bool false, .int .i64 0], .int .i64 2]) (by simp [results, Tryd.results6, go_sem]) rfl ⟨false, 0, 2, rfl, HB.out, ?_⟩
  exact (by repeat (first | exact Q.refl _ | assumption | refine Q.drew ?_ | refine Q.drewN ?_ _ | refine Q.alloc ?_ _ | refine Q.set ?_ (by first | (simp; done) | (simp; omega) | omega) _ | refine Q.trans ?_ (by assumption)))
theorem frozen_of_blk {w : World} {g : Nat} {cs : Array Value} {t : TypeId} (h : w.heap[g]? = some (.cells cs t (0, 0))) (j : Nat) : w.frozen? ⟨g, j, none⟩ = false := Lib.frozen_of_heap h j
theorem Read_true (r : List UInt8) (hr : 1 ≤ r.length) (hl : r.length + 1 ≤ 9223372036854775807) (w : World) : Calls Tryd.prog 6 #[.string (strB (105 :: r))] w (RdPost w (105 :: r)) := by
  obtain ⟨S, hS⟩ : ∃ S, strB (105 :: r) = S := ⟨_, rfl⟩
  have hsz : S.size = r.length + 1 := by rw [← hS, strB_size]; rfl
  have hs2 : (2 : Int) ≤ (S.size : Int) := by omega
  have hs1 : (1 : Int) ≤ (S.size : Int) := by omega
  have hs1n : 1 ≤ S.size := by omega
  have hs0n : 0 < S.size := by omega
  have hsm : S.size ≤ 9223372036854775807 := by omega
  have d1 : decide ((S.size : Int) < 2) = false := by simp; omega
  have d1n : decide (S.size < 2) = false := by simp; omega
  have hg0 : S[0]'hs0n = 105 := by
    have h := strB_get (l := 105 :: r) (i := 0) (c := 105) (by rw [hS]; exact hs0n) rfl
    subst hS
    exact h
  have hx : S.extract 1 S.size = strB r := by rw [hsz, ← hS]; exact ext1 105 r
  obtain ⟨S1, hS1⟩ : ∃ S1, strB r = S1 := ⟨_, rfl⟩
  obtain ⟨⟨pn, pe⟩, hp⟩ : ∃ p, parseF 10 r = p := ⟨_, rfl⟩
  have C := hide (fun w => show Calls Tryd.prog 13 #[.string S1, .int .i64 10] w fun e w' => e = .returned (.tuple #[.int .i64 pn, .int .i64 (pe : Nat)]) ∧ Q w w' from by have h := Parse_any r 10 (by omega) (by omega) (by omega) w; rw [hp, hS1] at h; exact h)
  rw [hS1] at hx
  rw [hS]
  have HP := hide hp
  obtain ⟨wr, hwr⟩ : ∃ wr, w.alloc (.cells #[.bool false, .int .i64 0] 23) = wr := ⟨_, rfl⟩
  have hbr : wr.heap[w.heap.size]? = some (.cells #[.bool false, .int .i64 0] 23 (0, 0)) := by rw [← hwr]; exact heap_alloc_new w _
  have HBR := hide hbr
  have HWR := hide hwr
  have HQR := hide (show Q w wr by rw [← hwr]; exact (Q.refl w).alloc _)
  have hszr : w.heap.size < wr.heap.size := by rw [← hwr]; simp
  clear hS hsz hl hr hS1 hp hwr hbr
  go_enter Tryd.func6, Tryd.ntmps6
  go_wp2_with fail
  rw [HWR.out]
  refine (C.out _).mono ?_
  rintro e w2 ⟨rfl, hq2⟩
  have hsz2 := hq2.size
  have hR2 : w.heap.size < w2.heap.size := by omega
  have hb2 := (hq2.below.block _ hszr).trans HBR.out
  have HB2 := hide hb2
  have HQ2 := hide (HQR.out.trans hq2)
  have hle2 := HQ2.out.size
  clear hb2 hq2
  by_cases hpe : pe = 0
  · subst hpe
    obtain ⟨w3, hw3⟩ : ∃ w3, w2.alloc (.cells #[.bool true, .int .i64 pn] 23) = w3 := ⟨_, rfl⟩
    have hb3 : w3.heap[w2.heap.size]? = some (.cells #[.bool true, .int .i64 pn] 23 (0, 0)) := by rw [← hw3]; exact heap_alloc_new w2 _
    have hq23 : Q w2 w3 := by rw [← hw3]; exact (Q.refl w2).alloc _
    have hsz3 : w2.heap.size < w3.heap.size := by rw [← hw3]; simp
    have HW3 := hide hw3
    have HB3 := hide hb3
    have HQ23 := hide hq23
    clear hw3 hb3 hq23
    by_cases hv : 1 ≤ pn ∧ pn ≤ 31
    · have CV := hide (fun w => validate_ok true pn w hv.1 hv.2)
      have HOK := hide (show ReadR (105 :: r) true pn 0 by have h := read_ok (c := 105) (r := r) (s := true) rfl (by rw [HP.out]) (by rw [HP.out]; exact hv.1) (by rw [HP.out]; exact hv.2); rw [HP.out] at h; exact h)
      clear hv
      go_wp2_with fail
      rw [HW3.out]
      refine (CV.out _).mono ?_
      rintro e w4 ⟨rfl, hq4⟩
      have hsz4 := hq4.size
      have hbR := (hq4.below.block w.heap.size (by omega)).trans ((HQ23.out.below.block _ hR2).trans HB2.out)
      have hbT := (hq4.below.block w2.heap.size hsz3).trans HB3.out
      have t0 : w4.cell? ⟨w2.heap.size, 0, none⟩ = some (.bool true) := by rw [cell_of_row w4 _ 0 _ _ _ hbT]; rfl
      have t1 : w4.cell? ⟨w2.heap.size, 1, none⟩ = some (.int .i64 pn) := by rw [cell_of_row w4 _ 1 _ _ _ hbT]; rfl
      have y0 : w4.cell? ⟨w.heap.size, 0, none⟩ = some (.bool false) := by rw [cell_of_row w4 _ 0 _ _ _ hbR]; rfl
      have y1 : w4.cell? ⟨w.heap.size, 1, none⟩ = some (.int .i64 0) := by rw [cell_of_row w4 _ 1 _ _ _ hbR]; rfl
      have z0 : w4.frozen? ⟨w.heap.size, 0, none⟩ = false := frozen_of_blk hbR 0
      have z1 : w4.frozen? ⟨w.heap.size, 1, none⟩ = false := frozen_of_blk hbR 1
      have hQ4 : Q w w4 := HQ2.out.trans (HQ23.out.trans hq4)
      clear hbR hbT hq4
      go_wp2_with fail
      obtain ⟨s0, s1⟩ := set2 w4 w.heap.size _ _ (.bool true) (.int .i64 pn) y0 y1
      refine bodyPost_ret (v := .tuple #[.agg #[.bool true, .int .i64 pn], .int .i64 0]) (by simp [results, Tryd.results6, go_sem, s0, s1]) rfl ⟨true, pn, 0, rfl, HOK.out, ?_⟩
      exact (Q.set hQ4 (by simp) _).set (by simp) _
    · have CV := hide (fun w => validate_bad true pn w hv)
      have HOK := hide (show ReadR (105 :: r) false 0 2 from bad_parse (by rw [HP.out]; exact fun h => hv ⟨h.2.1, h.2.2⟩))
      clear hv
      go_wp2_with fail
      rw [HW3.out]
      refine (CV.out _).mono ?_
      rintro e w4 ⟨rfl, hq4⟩
      have hsz4 := hq4.size
      have hbR := (hq4.below.block w.heap.size (by omega)).trans ((HQ23.out.below.block _ hR2).trans HB2.out)
      have y0 : w4.cell? ⟨w.heap.size, 0, none⟩ = some (.bool false) := by rw [cell_of_row w4 _ 0 _ _ _ hbR]; rfl
      have y1 : w4.cell? ⟨w.heap.size, 1, none⟩ = some (.int .i64 0) := by rw [cell_of_row w4 _ 1 _ _ _ hbR]; rfl
      have z0 : w4.frozen? ⟨w.heap.size, 0, none⟩ = false := frozen_of_blk hbR 0
      have z1 : w4.frozen? ⟨w.heap.size, 1, none⟩ = false := frozen_of_blk hbR 1
      have hQ4 : Q w w4 := HQ2.out.trans (HQ23.out.trans hq4)
      clear hbR hq4
      go_wp2_with fail
      obtain ⟨s0, s1⟩ := set2 w4 w.heap.size _ _ (.bool false) (.int .i64 0) y0 y1
      refine bodyPost_ret (v := .tuple #[.agg #[.bool false, .int .i64 0], .int .i64 2]) (by simp [results, Tryd.results6, go_sem, s0, s1]) rfl ⟨false, 0, 2, rfl, HOK.out, ?_⟩
      exact (Q.set hQ4 (by simp) _).set (by simp) _
  · have hpe2 : ((pe : Int) != 0) = true := by simp <;> omega
    have HOK := hide (show ReadR (105 :: r) false 0 2 from bad_parse (by rw [HP.out]; exact fun h => hpe h.1))
    obtain ⟨w3, hw3⟩ : ∃ w3, w2.alloc (.cells #[.bool true, .int .i64 pn] 23) = w3 := ⟨_, rfl⟩
    have HQ3 := hide (show Q w w3 by rw [← hw3]; exact HQ2.out.alloc _)
    have hbR := hR2
    have y0 : w2.cell? ⟨w.heap.size, 0, none⟩ = some (.bool false) := by rw [cell_of_row w2 _ 0 _ _ _ HB2.out]; rfl
    have y1 : w2.cell? ⟨w.heap.size, 1, none⟩ = some (.int .i64 0) := by rw [cell_of_row w2 _ 1 _ _ _ HB2.out]; rfl
    have z0 : w2.frozen? ⟨w.heap.size, 0, none⟩ = false := frozen_of_blk HB2.out 0
    have z1 : w2.frozen? ⟨w.heap.size, 1, none⟩ = false := frozen_of_blk HB2.out 1
    have hQ2 : Q w w2 := HQ2.out
    obtain ⟨s0_, s1_⟩ := set2 w2 w.heap.size _ _ (.bool false) (.int .i64 0) y0 y1
    have hWs : w.heap.size < ((w2.setCell ⟨w.heap.size, 0, none⟩ (.bool false)).setCell ⟨w.heap.size, 1, none⟩ (.int .i64 0)).heap.size := by simp <;> omega
    have s0 := (((Q.refl ((w2.setCell ⟨w.heap.size, 0, none⟩ (.bool false)).setCell ⟨w.heap.size, 1, none⟩ (.int .i64 0))).alloc (.cells #[.bool true, .int .i64 pn] 23)).facts.1 _ _ hWs).trans s0_
    have s1 := (((Q.refl ((w2.setCell ⟨w.heap.size, 0, none⟩ (.bool false)).setCell ⟨w.heap.size, 1, none⟩ (.int .i64 0))).alloc (.cells #[.bool true, .int .i64 pn] 23)).facts.1 _ _ hWs).trans s1_
    have S0 := hide s0
    have S1' := hide s1
    clear hw3 hbR hpe s0_ s1_ hWs s0 s1
    go_wp2_with fail
    refine bodyPost_ret (v := .tuple #[.agg #[.bool false, .int .i64 0], .int .i64 2]) (by simp [results, Tryd.results6, go_sem, S0.out, S1'.out]) rfl ⟨false, 0, 2, rfl, HOK.out, ?_⟩
    exact ((Q.set hQ2 (by simp) _).set (by simp) _).alloc _
theorem Read_false (r : List UInt8) (hr : 1 ≤ r.length) (hl : r.length + 1 ≤ 9223372036854775807) (w : World) : Calls Tryd.prog 6 #[.string (strB (117 :: r))] w (RdPost w (117 :: r)) := by
  obtain ⟨S, hS⟩ : ∃ S, strB (117 :: r) = S := ⟨_, rfl⟩
  have hsz : S.size = r.length + 1 := by rw [← hS, strB_size]; rfl
  have hs2 : (2 : Int) ≤ (S.size : Int) := by omega
  have hs1 : (1 : Int) ≤ (S.size : Int) := by omega
  have hs1n : 1 ≤ S.size := by omega
  have hs0n : 0 < S.size := by omega
  have hsm : S.size ≤ 9223372036854775807 := by omega
  have d1 : decide ((S.size : Int) < 2) = false := by simp; omega
  have d1n : decide (S.size < 2) = false := by simp; omega
  have hg0 : S[0]'hs0n = 117 := by
    have h := strB_get (l := 117 :: r) (i := 0) (c := 117) (by rw [hS]; exact hs0n) rfl
    subst hS
    exact h
  have hx : S.extract 1 S.size = strB r := by rw [hsz, ← hS]; exact ext1 117 r
  obtain ⟨S1, hS1⟩ : ∃ S1, strB r = S1 := ⟨_, rfl⟩
  obtain ⟨⟨pn, pe⟩, hp⟩ : ∃ p, parseF 10 r = p := ⟨_, rfl⟩
  have C := hide (fun w => show Calls Tryd.prog 13 #[.string S1, .int .i64 10] w fun e w' => e = .returned (.tuple #[.int .i64 pn, .int .i64 (pe : Nat)]) ∧ Q w w' from by have h := Parse_any r 10 (by omega) (by omega) (by omega) w; rw [hp, hS1] at h; exact h)
  rw [hS1] at hx
  rw [hS]
  have HP := hide hp
  obtain ⟨wr, hwr⟩ : ∃ wr, w.alloc (.cells #[.bool false, .int .i64 0] 23) = wr := ⟨_, rfl⟩
  have hbr : wr.heap[w.heap.size]? = some (.cells #[.bool false, .int .i64 0] 23 (0, 0)) := by rw [← hwr]; exact heap_alloc_new w _
  have HBR := hide hbr
  have HWR := hide hwr
  have HQR := hide (show Q w wr by rw [← hwr]; exact (Q.refl w).alloc _)
  have hszr : w.heap.size < wr.heap.size := by rw [← hwr]; simp
  clear hS hsz hl hr hS1 hp hwr hbr
  go_enter Tryd.func6, Tryd.ntmps6
  go_wp2_with fail
  rw [HWR.out]
  refine (C.out _).mono ?_
  rintro e w2 ⟨rfl, hq2⟩
  have hsz2 := hq2.size
  have hR2 : w.heap.size < w2.heap.size := by omega
  have hb2 := (hq2.below.block _ hszr).trans HBR.out
  have HB2 := hide hb2
  have HQ2 := hide (HQR.out.trans hq2)
  have hle2 := HQ2.out.size
  clear hb2 hq2
  by_cases hpe : pe = 0
  · subst hpe
    obtain ⟨w3, hw3⟩ : ∃ w3, w2.alloc (.cells #[.bool false, .int .i64 pn] 23) = w3 := ⟨_, rfl⟩
    have hb3 : w3.heap[w2.heap.size]? = some (.cells #[.bool false, .int .i64 pn] 23 (0, 0)) := by rw [← hw3]; exact heap_alloc_new w2 _
    have hq23 : Q w2 w3 := by rw [← hw3]; exact (Q.refl w2).alloc _
    have hsz3 : w2.heap.size < w3.heap.size := by rw [← hw3]; simp
    have HW3 := hide hw3
    have HB3 := hide hb3
    have HQ23 := hide hq23
    clear hw3 hb3 hq23
    by_cases hv : 1 ≤ pn ∧ pn ≤ 31
    · have CV := hide (fun w => validate_ok false pn w hv.1 hv.2)
      have HOK := hide (show ReadR (117 :: r) false pn 0 by have h := read_ok (c := 117) (r := r) (s := false) rfl (by rw [HP.out]) (by rw [HP.out]; exact hv.1) (by rw [HP.out]; exact hv.2); rw [HP.out] at h; exact h)
      clear hv
      go_wp2_with fail
      rw [HW3.out]
      refine (CV.out _).mono ?_
      rintro e w4 ⟨rfl, hq4⟩
      have hsz4 := hq4.size
      have hbR := (hq4.below.block w.heap.size (by omega)).trans ((HQ23.out.below.block _ hR2).trans HB2.out)
      have hbT := (hq4.below.block w2.heap.size hsz3).trans HB3.out
      have t0 : w4.cell? ⟨w2.heap.size, 0, none⟩ = some (.bool false) := by rw [cell_of_row w4 _ 0 _ _ _ hbT]; rfl
      have t1 : w4.cell? ⟨w2.heap.size, 1, none⟩ = some (.int .i64 pn) := by rw [cell_of_row w4 _ 1 _ _ _ hbT]; rfl
      have y0 : w4.cell? ⟨w.heap.size, 0, none⟩ = some (.bool false) := by rw [cell_of_row w4 _ 0 _ _ _ hbR]; rfl
      have y1 : w4.cell? ⟨w.heap.size, 1, none⟩ = some (.int .i64 0) := by rw [cell_of_row w4 _ 1 _ _ _ hbR]; rfl
      have z0 : w4.frozen? ⟨w.heap.size, 0, none⟩ = false := frozen_of_blk hbR 0
      have z1 : w4.frozen? ⟨w.heap.size, 1, none⟩ = false := frozen_of_blk hbR 1
      have hQ4 : Q w w4 := HQ2.out.trans (HQ23.out.trans hq4)
      clear hbR hbT hq4
      go_wp2_with fail
      obtain ⟨s0, s1⟩ := set2 w4 w.heap.size _ _ (.bool false) (.int .i64 pn) y0 y1
      refine bodyPost_ret (v := .tuple #[.agg #[.bool false, .int .i64 pn], .int .i64 0]) (by simp [results, Tryd.results6, go_sem, s0, s1]) rfl ⟨false, pn, 0, rfl, HOK.out, ?_⟩
      exact (Q.set hQ4 (by simp) _).set (by simp) _
    · have CV := hide (fun w => validate_bad false pn w hv)
      have HOK := hide (show ReadR (117 :: r) false 0 2 from bad_parse (by rw [HP.out]; exact fun h => hv ⟨h.2.1, h.2.2⟩))
      clear hv
      go_wp2_with fail
      rw [HW3.out]
      refine (CV.out _).mono ?_
      rintro e w4 ⟨rfl, hq4⟩
      have hsz4 := hq4.size
      have hbR := (hq4.below.block w.heap.size (by omega)).trans ((HQ23.out.below.block _ hR2).trans HB2.out)
      have y0 : w4.cell? ⟨w.heap.size, 0, none⟩ = some (.bool false) := by rw [cell_of_row w4 _ 0 _ _ _ hbR]; rfl
      have y1 : w4.cell? ⟨w.heap.size, 1, none⟩ = some (.int .i64 0) := by rw [cell_of_row w4 _ 1 _ _ _ hbR]; rfl
      have z0 : w4.frozen? ⟨w.heap.size, 0, none⟩ = false := frozen_of_blk hbR 0
      have z1 : w4.frozen? ⟨w.heap.size, 1, none⟩ = false := frozen_of_blk hbR 1
      have hQ4 : Q w w4 := HQ2.out.trans (HQ23.out.trans hq4)
      clear hbR hq4
      go_wp2_with fail
      obtain ⟨s0, s1⟩ := set2 w4 w.heap.size _ _ (.bool false) (.int .i64 0) y0 y1
      refine bodyPost_ret (v := .tuple #[.agg #[.bool false, .int .i64 0], .int .i64 2]) (by simp [results, Tryd.results6, go_sem, s0, s1]) rfl ⟨false, 0, 2, rfl, HOK.out, ?_⟩
      exact (Q.set hQ4 (by simp) _).set (by simp) _
  · have hpe2 : ((pe : Int) != 0) = true := by simp <;> omega
    have HOK := hide (show ReadR (117 :: r) false 0 2 from bad_parse (by rw [HP.out]; exact fun h => hpe h.1))
    obtain ⟨w3, hw3⟩ : ∃ w3, w2.alloc (.cells #[.bool false, .int .i64 pn] 23) = w3 := ⟨_, rfl⟩
    have HQ3 := hide (show Q w w3 by rw [← hw3]; exact HQ2.out.alloc _)
    have hbR := hR2
    have y0 : w2.cell? ⟨w.heap.size, 0, none⟩ = some (.bool false) := by rw [cell_of_row w2 _ 0 _ _ _ HB2.out]; rfl
    have y1 : w2.cell? ⟨w.heap.size, 1, none⟩ = some (.int .i64 0) := by rw [cell_of_row w2 _ 1 _ _ _ HB2.out]; rfl
    have z0 : w2.frozen? ⟨w.heap.size, 0, none⟩ = false := frozen_of_blk HB2.out 0
    have z1 : w2.frozen? ⟨w.heap.size, 1, none⟩ = false := frozen_of_blk HB2.out 1
    have hQ2 : Q w w2 := HQ2.out
    obtain ⟨s0_, s1_⟩ := set2 w2 w.heap.size _ _ (.bool false) (.int .i64 0) y0 y1
    have hWs : w.heap.size < ((w2.setCell ⟨w.heap.size, 0, none⟩ (.bool false)).setCell ⟨w.heap.size, 1, none⟩ (.int .i64 0)).heap.size := by simp <;> omega
    have s0 := (((Q.refl ((w2.setCell ⟨w.heap.size, 0, none⟩ (.bool false)).setCell ⟨w.heap.size, 1, none⟩ (.int .i64 0))).alloc (.cells #[.bool false, .int .i64 pn] 23)).facts.1 _ _ hWs).trans s0_
    have s1 := (((Q.refl ((w2.setCell ⟨w.heap.size, 0, none⟩ (.bool false)).setCell ⟨w.heap.size, 1, none⟩ (.int .i64 0))).alloc (.cells #[.bool false, .int .i64 pn] 23)).facts.1 _ _ hWs).trans s1_
    have S0 := hide s0
    have S1' := hide s1
    clear hw3 hbR hpe s0_ s1_ hWs s0 s1
    go_wp2_with fail
    refine bodyPost_ret (v := .tuple #[.agg #[.bool false, .int .i64 0], .int .i64 2]) (by simp [results, Tryd.results6, go_sem, S0.out, S1'.out]) rfl ⟨false, 0, 2, rfl, HOK.out, ?_⟩
    exact ((Q.set hQ2 (by simp) _).set (by simp) _).alloc _
theorem Read_any (l : List UInt8) (hl : l.length ≤ 9223372036854775807) (w : World) : Calls Tryd.prog 6 #[.string (strB l)] w (RdPost w l) := by
  by_cases h2 : l.length < 2
  · exact Read_short l h2 w
  · match l, hl, h2 with
    | [], _, h2 => exact absurd (by simp) h2
    | c :: r, hl, h2 =>
      have hr : 1 ≤ r.length := by simp at h2; omega
      by_cases h5 : c = 105
      · subst h5; exact Read_true r hr hl w
      · by_cases h7 : c = 117
        · subst h7; exact Read_false r hr hl w
        · exact Read_head c r h7 h5 hr hl w
end Go.Proofs.YtcjljmegppnlcaaDoor
