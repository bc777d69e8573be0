/- roomOf at structs and unions, and of any layout. Of and Stand of the reference. Conditions: as each theorem says. -/
import Derived.Test.YtbgbalfhbficaaaCz7
namespace Go.Proofs.Ytbgbalfhbficaaa
set_option maxRecDepth 100000
set_option maxHeartbeats 2000000
open Go.RowKit
set_option linter.unusedVariables false
set_option linter.unusedSimpArgs false
theorem blk_set {w : World} {g j : Nat} {cs : Array Value} {ty : TypeId} (h : w.heap[g]? = some (.cells cs ty (0, 0))) (u : Value) : (w.setCell ⟨g, j, none⟩ u).heap[g]? = some (.cells (cs.setIfInBounds j u) ty (0, 0)) := by
 rw [setCell_eq_setRow w g j cs ty (0, 0) u h]
 exact setRow_heap w g cs _ ty (0, 0) h
theorem union_pre {C : Int} : ∀ (rs : List Rm) (s : Rm), (∀ r ∈ rs, isA r.2 ∧ 0 ≤ r.1 ∧ r.1 ≤ C) → isA s.2 → 0 ≤ s.1 → s.1 ≤ C → isA (rs.foldl stepU s).2 ∧ 0 ≤ (rs.foldl stepU s).1 ∧ (rs.foldl stepU s).1 ≤ C
 | [], s, _, h1, h2, h3 => ⟨h1, h2, h3⟩
 | r :: rs, s, hr, h1, h2, h3 => by
  obtain ⟨a1, a2, a3⟩ := hr r (List.mem_cons_self ..)
  rw [List.foldl_cons]
  exact union_pre rs (stepU s r) (fun q hq => hr q (List.mem_cons_of_mem _ hq)) (h1.max a1) (by unfold stepU; dsimp only; omega) (by unfold stepU; dsimp only; omega)
theorem union_succ {rs : List Rm} {j : Nat} {r : Rm} (h : rs[j]? = some r) : (rs.take (j + 1)).foldl stepU (0, 1) = stepU ((rs.take j).foldl stepU (0, 1)) r := by
 rw [List.take_add_one, h, List.foldl_append]
 rfl
theorem roomP6 {w : World} {k n : Int} {f : Bool} {A : Option Addr} {len cap : Nat} {ps : List Lay} (h : LayR w (.mk k n f A len cap ps)) (hv : VL (.mk k n f A len cap ps)) (wd : Int) (b : Bool) (hw : wd = 2 ∨ wd = 4 ∨ wd = 8) (hp : ∀ p ∈ ps, ∀ W, Q w W → Calls Try.prog 58 #[p.v, tgW wd b] W (R1 W (rmV (p.room wd)))) (hr : ∀ p ∈ ps, isA (p.room wd).2 ∧ 0 ≤ (p.room wd).1 ∧ (p.room wd).1 ≤ 1088000000000) (hz : ((Lay.mk k n f A len cap ps).room wd).1 ≤ 1088000000000) (hk : k = 6) : ∀ W, Q w W → Calls Try.prog 58 #[(Lay.mk k n f A len cap ps).v, tgW wd b] W (R1 W (rmV ((Lay.mk k n f A len cap ps).room wd))) := by
 subst hk
 intro W hqW
 unfold R1
 have HRM := hide (room_mk wd 6 n f A len cap ps)
 have HLEN := hide hv.len
 have HKIND := hide hv.kind
 have HSL : Hid (Sl 4 encL w A len cap ps) := by cases h with | @mk _ _ _ _ _ _ _ hk hn hsl hnil hcap hall => exact hide hsl
 have HPP := hide hp
 have HRR := hide hr
 have HZZ := hide hz
 have HVL := hide hv
 have HQW := hide hqW
 show Calls _ _ #[.agg #[.int .i64 6, .int .i64 n, .bool f, .slice A len cap], .agg #[.int .i64 wd, .bool b]] W _
 obtain ⟨w3, hw3⟩ : ∃ w3, ((W.alloc (.cells #[.int .i64 6, .int .i64 n, .bool f, .slice A len cap] 24)).alloc (.cells #[.int .i64 wd, .bool b] 26)).alloc (.cells #[.int .i64 0, .int .i64 0] 65) = w3 := ⟨_, rfl⟩
 obtain ⟨hq3, hs3, hc, hd, he⟩ := box3 hw3
 have hs0 : W.heap.size < w3.heap.size := by omega
 have hs1 : W.heap.size + 1 < w3.heap.size := by omega
 have hs2 : W.heap.size + 2 < w3.heap.size := by omega
 have K0 := hide (show w3.cell? ⟨W.heap.size, 0, none⟩ = some (.int .i64 6) from hc 0 _ rfl)
 have K1 := hide (show w3.cell? ⟨W.heap.size, 1, none⟩ = some (.int .i64 n) from hc 1 _ rfl)
 have K2 := hide (show w3.cell? ⟨W.heap.size, 2, none⟩ = some (.bool f) from hc 2 _ rfl)
 have K3 := hide (show w3.cell? ⟨W.heap.size, 3, none⟩ = some (.slice A len cap) from hc 3 _ rfl)
 have T0 := hide (show w3.cell? ⟨W.heap.size + 1, 0, none⟩ = some (.int .i64 wd) from hd 0 _ rfl)
 have T1 := hide (show w3.cell? ⟨W.heap.size + 1, 1, none⟩ = some (.bool b) from hd 1 _ rfl)
 have Z0 := hide (show w3.cell? ⟨W.heap.size + 2, 0, none⟩ = some (.int .i64 0) from he 0 _ rfl)
 have Z1 := hide (show w3.cell? ⟨W.heap.size + 2, 1, none⟩ = some (.int .i64 0) from he 1 _ rfl)
 have kb : w3.heap[W.heap.size + 2]? = some (.cells #[.int .i64 0, .int .i64 0] 65 (0, 0)) := by
  have h9 := heap_alloc_new ((W.alloc (.cells #[.int .i64 6, .int .i64 n, .bool f, .slice A len cap] 24)).alloc (.cells #[.int .i64 wd, .bool b] 26)) (.cells #[.int .i64 0, .int .i64 0] 65)
  rw [hw3] at h9
  simpa using h9
 have Y0 := hide (frz_new (j := 0) kb)
 have Y1 := hide (frz_new (j := 1) kb)
 have KB := hide kb
 have HW3 := hide hw3
 have HQ3 := hide hq3
 have HQB := hide (hqW.trans hq3)
 clear h hv hp hr hz hqW hw3 hq3 hc hd he kb
 go_enter Try.func58, Try.ntmps58
 go_upto_region 1 with fail
 rw [HW3.out]
 have k0 := K0.out
 have k3 := K3.out
 have k0' := K0.out
 have k1' := K1.out
 have k2' := K2.out
 have t0 := T0.out
 have t1 := T1.out
 obtain ⟨fi, hfi⟩ : ∃ fi, upI (standR (ps.map (Lay.room wd))).1 (standR (ps.map (Lay.room wd))).2 = fi := ⟨_, rfl⟩
 obtain ⟨ca, hca⟩ : ∃ ca, (standR (ps.map (Lay.room wd))).2 = ca := ⟨_, rfl⟩
 have HVAL := hide (show roomR wd 6 n (packR (.mk 6 n f A len cap ps)) (ps.map (Lay.room wd)) = (fi, ca) from by
  unfold roomR
  rw [if_neg (by decide), if_neg (by decide), if_neg (by decide), if_neg (by decide), if_neg (by decide), if_pos rfl, hfi, hca])
 have hst : (standR (ps.map (Lay.room wd))).1 ≤ 1088000000000 := by
  have h9 := HZZ.out
  rw [HRM.out, HVAL.out] at h9
  have h8 := stand_mono (ps.map (Lay.room wd)) (0, 1) (fun r h => by
   obtain ⟨p, hpm, rfl⟩ := List.mem_map.1 h
   exact ⟨(HRR.out p hpm).1, (HRR.out p hpm).2.1⟩) isA.one (by simp)
  have h7 := h8.2.1.up h8.2.2
  have h6 : upI ((ps.map (Lay.room wd)).foldl stepS (0, 1)).1 ((ps.map (Lay.room wd)).foldl stepS (0, 1)).2 = fi := hfi
  rw [h6] at h7
  exact Int.le_trans h7.1 h9
 have HPL := hide (placed_any (k := 6) (n := n) (f := f) HSL.out HLEN.out.1 wd b HPP.out HRR.out hst w3 HQB.out)
 rw [hfi, hca] at HPL
 clear hfi hca hst
 go_wp2_with fail
 refine HPL.out.mono ?_
 rintro e w5 ⟨v, rfl, hown, hq5⟩
 clear k0 k0' k1' k2' k3 t0 t1
 obtain ⟨w6, hw6⟩ : ∃ w6, w5.alloc (.cells #[.int .i64 fi, .int .i64 ca] 65) = w6 := ⟨_, rfl⟩
 obtain ⟨hq6, hs6, hc6⟩ := box1 hw6
 have r0 := hc6 0 _ rfl
 have r1 := hc6 1 _ rfl
 have hq36 := hq5.trans hq6
 have zz0 := (hq36.facts.1 _ 0 hs2).trans Z0.out
 have zz1 := (hq36.facts.1 _ 1 hs2).trans Z1.out
 have yy0 := (hq36.facts.2.1 _ 0 hs2).trans Y0.out
 have yy1 := (hq36.facts.2.1 _ 1 hs2).trans Y1.out
 have HQ6 := hide (HQ3.out.trans hq36)
 have HW6 := hide hw6
 clear hq5 hq6 hw6 hc6 hq36 hown
 go_upto_region 16 with fail
 rw [HW6.out]
 obtain ⟨s0, s1⟩ := set2c (v0 := .int .i64 (fi)) (v1 := .int .i64 (ca)) (zz0) (zz1)
 have S0 := hide s0
 have S1 := hide s1
 have HQS := hide (((HQ6.out).set (p := ⟨W.heap.size + 2, 0, none⟩) (by simp) (.int .i64 (fi))).set (p := ⟨W.heap.size + 2, 1, none⟩) (by simp) (.int .i64 (ca)))
 have z0 := zz0
 have z1 := zz1
 have y0 := yy0
 have y1 := yy1
 clear s0 s1
 go_wp2_with fail
 have s0 := S0.out
 have s1 := S1.out
 refine bodyPost_ret (v := .agg #[.int .i64 (fi), .int .i64 (ca)]) (by simp [results, Try.results58, go_sem, s0, s1]) rfl ?_
 exact ⟨by rw [HRM.out, HVAL.out], HQS.out⟩
theorem roomP8 {w : World} {k n : Int} {f : Bool} {A : Option Addr} {len cap : Nat} {ps : List Lay} (h : LayR w (.mk k n f A len cap ps)) (hv : VL (.mk k n f A len cap ps)) (wd : Int) (b : Bool) (hw : wd = 2 ∨ wd = 4 ∨ wd = 8) (hp : ∀ p ∈ ps, ∀ W, Q w W → Calls Try.prog 58 #[p.v, tgW wd b] W (R1 W (rmV (p.room wd)))) (hr : ∀ p ∈ ps, isA (p.room wd).2 ∧ 0 ≤ (p.room wd).1 ∧ (p.room wd).1 ≤ 1088000000000) (hz : ((Lay.mk k n f A len cap ps).room wd).1 ≤ 1088000000000) (hk : k = 8) : ∀ W, Q w W → Calls Try.prog 58 #[(Lay.mk k n f A len cap ps).v, tgW wd b] W (R1 W (rmV ((Lay.mk k n f A len cap ps).room wd))) := by
 subst hk
 intro W hqW
 unfold R1
 have HRM := hide (room_mk wd 8 n f A len cap ps)
 have HLEN := hide hv.len
 have HKIND := hide hv.kind
 have HSL : Hid (Sl 4 encL w A len cap ps) := by cases h with | @mk _ _ _ _ _ _ _ hk hn hsl hnil hcap hall => exact hide hsl
 have HPP := hide hp
 have HRR := hide hr
 have HZZ := hide hz
 have HVL := hide hv
 have HQW := hide hqW
 show Calls _ _ #[.agg #[.int .i64 8, .int .i64 n, .bool f, .slice A len cap], .agg #[.int .i64 wd, .bool b]] W _
 obtain ⟨w3, hw3⟩ : ∃ w3, ((W.alloc (.cells #[.int .i64 8, .int .i64 n, .bool f, .slice A len cap] 24)).alloc (.cells #[.int .i64 wd, .bool b] 26)).alloc (.cells #[.int .i64 0, .int .i64 0] 65) = w3 := ⟨_, rfl⟩
 obtain ⟨hq3, hs3, hc, hd, he⟩ := box3 hw3
 have hs0 : W.heap.size < w3.heap.size := by omega
 have hs1 : W.heap.size + 1 < w3.heap.size := by omega
 have hs2 : W.heap.size + 2 < w3.heap.size := by omega
 have K0 := hide (show w3.cell? ⟨W.heap.size, 0, none⟩ = some (.int .i64 8) from hc 0 _ rfl)
 have K1 := hide (show w3.cell? ⟨W.heap.size, 1, none⟩ = some (.int .i64 n) from hc 1 _ rfl)
 have K2 := hide (show w3.cell? ⟨W.heap.size, 2, none⟩ = some (.bool f) from hc 2 _ rfl)
 have K3 := hide (show w3.cell? ⟨W.heap.size, 3, none⟩ = some (.slice A len cap) from hc 3 _ rfl)
 have T0 := hide (show w3.cell? ⟨W.heap.size + 1, 0, none⟩ = some (.int .i64 wd) from hd 0 _ rfl)
 have T1 := hide (show w3.cell? ⟨W.heap.size + 1, 1, none⟩ = some (.bool b) from hd 1 _ rfl)
 have Z0 := hide (show w3.cell? ⟨W.heap.size + 2, 0, none⟩ = some (.int .i64 0) from he 0 _ rfl)
 have Z1 := hide (show w3.cell? ⟨W.heap.size + 2, 1, none⟩ = some (.int .i64 0) from he 1 _ rfl)
 have kb : w3.heap[W.heap.size + 2]? = some (.cells #[.int .i64 0, .int .i64 0] 65 (0, 0)) := by
  have h9 := heap_alloc_new ((W.alloc (.cells #[.int .i64 8, .int .i64 n, .bool f, .slice A len cap] 24)).alloc (.cells #[.int .i64 wd, .bool b] 26)) (.cells #[.int .i64 0, .int .i64 0] 65)
  rw [hw3] at h9
  simpa using h9
 have Y0 := hide (frz_new (j := 0) kb)
 have Y1 := hide (frz_new (j := 1) kb)
 have KB := hide kb
 have HW3 := hide hw3
 have HQ3 := hide hq3
 have HQB := hide (hqW.trans hq3)
 clear h hv hp hr hz hqW hw3 hq3 hc hd he kb
 go_enter Try.func58, Try.ntmps58
 go_upto_region 1 with fail
 rw [HW3.out]
 have k0 := K0.out
 have k3 := K3.out
 obtain ⟨w4, hw4⟩ : ∃ w4, w3.alloc (.cells #[.int .i64 0, .int .i64 1] 65) = w4 := ⟨_, rfl⟩
 obtain ⟨hq4, hs4, hc4⟩ := box1 hw4
 have hb4 : w4.heap[W.heap.size + 3]? = some (.cells #[.int .i64 0, .int .i64 1] 65 (0, 0)) := by rw [← hw4, ← hs3]; exact heap_alloc_new w3 _
 have HB4 := hide hb4
 have HQ4 := hide hq4
 have HW4 := hide hw4
 have HPL := hide HSL.out.len
 have HUN := hide (fun j => union_pre (C := 1088000000000) ((ps.map (Lay.room wd)).take j) (0, 1) (fun r h => by
  obtain ⟨p, hpm, rfl⟩ := List.mem_map.1 (List.mem_of_mem_take h)
  exact HRR.out p hpm) isA.one (by simp) (by simp))
 have HRS : Hid (∀ (j : Nat) (p : Lay), ps[j]? = some p → (ps.map (Lay.room wd))[j]? = some (p.room wd)) := hide fun j p h => by rw [List.getElem?_map, h]; rfl
 have HTK := hide (List.take_of_length_le (l := ps.map (Lay.room wd)) (i := len) (by simp [HPL.out]))
 have HVAL : Hid (∀ s : Rm, (ps.map (Lay.room wd)).foldl stepU (0, 1) = s → roomR wd 8 n (packR (.mk 8 n f A len cap ps)) (ps.map (Lay.room wd)) = (upI (s.1 + 1) s.2, s.2)) := hide fun s hs => by
  unfold roomR
  rw [if_neg (by decide), if_neg (by decide), if_neg (by decide), if_neg (by decide), if_neg (by decide), if_neg (by decide), if_neg (by decide), if_pos rfl, hs]
 have HVAL8 := HVAL
 clear HVAL
 obtain ⟨rs, hrs⟩ : ∃ rs, ps.map (Lay.room wd) = rs := ⟨_, rfl⟩
 have HRM8 := HRM
 clear HRM
 rw [hrs] at HUN HRS HTK HVAL8 HRM8
 have hl12 : len ≤ 12 := by have := HPL.out; have := HLEN.out.1; omega
 clear hw4 hq4 hc4 hb4 hrs
 go_upto_region 24 with fail
 rw [HW4.out]
 have k3 := (HQ4.out.facts.1 _ 3 hs0).trans K3.out
 go_wp2_with fail
 clear k3
 go_loopw [100] (fun v100 wr => ∃ j : Nat, j ≤ len ∧ v100 = .int .i64 j ∧ wr.heap[W.heap.size + 3]? = some (.cells #[.int .i64 ((rs.take j).foldl stepU (0, 1)).1, .int .i64 ((rs.take j).foldl stepU (0, 1)).2] 65 (0, 0)) ∧ Q w3 wr) (fun v100 _ => len - (intOf v100).toNat)
 case atStart => exact ⟨0, by omega, by go_num, HB4.out, HQ4.out⟩
 case round =>
  obtain ⟨j, hj, rfl, hbr, hq⟩ := hrel
  obtain ⟨hcaA, hce0, hceC⟩ := HUN.out j
  have HQ := hide hq
  have HBR := hide hbr
  by_cases hlt9 : j < len
  ·have hd1 : decide ((j : Int) < (len : Int)) = true := by simp; omega
   have hd0 : decide (j < len) = true := by simp; omega
   have hlti : (j : Int) < (len : Int) := by omega
   obtain ⟨g, o, m', x', y', B, l', d', qs, e, hb, hx, z0, z1, z2, z3⟩ := lay_at (HSL.out.up (HQB.out.trans hq)) hlt9
   cases e
   obtain ⟨p, hpe⟩ : ∃ p, Lay.mk m' x' y' B l' d' qs = p := ⟨_, rfl⟩
   have hpv : p.v = .agg #[.int .i64 m', .int .i64 x', .bool y', .slice B l' d'] := by rw [← hpe]; rfl
   rw [hpe] at hx
   have hpm := List.mem_of_getElem? hx
   have hxr := HRS.out j p hx
   obtain ⟨sz, hsz⟩ : ∃ sz, (p.room wd).1 = sz := ⟨_, rfl⟩
   obtain ⟨al, hal⟩ : ∃ al, (p.room wd).2 = al := ⟨_, rfl⟩
   have hrm : p.room wd = (sz, al) := by rw [← hsz, ← hal]
   rw [hrm] at hxr
   have hnx := union_succ hxr
   obtain ⟨ce, hce⟩ : ∃ ce, ((rs.take j).foldl stepU (0, 1)).1 = ce := ⟨_, rfl⟩
   obtain ⟨ca, hca⟩ : ∃ ca, ((rs.take j).foldl stepU (0, 1)).2 = ca := ⟨_, rfl⟩
   unfold stepU at hnx
   rw [show List.foldl (fun s r => (max s.fst r.fst, max s.snd r.snd)) (0, 1) (List.take j rs) = (rs.take j).foldl stepU (0, 1) from rfl, show List.foldl (fun s r => (max s.fst r.fst, max s.snd r.snd)) (0, 1) (List.take (j + 1) rs) = (rs.take (j + 1)).foldl stepU (0, 1) from rfl, hce, hca] at hnx
   rw [hce, hca] at HBR
   dsimp only at hnx
   obtain ⟨na, hna⟩ : ∃ na, max ca al = na := ⟨_, rfl⟩
   obtain ⟨ne, hne⟩ : ∃ ne, max ce sz = ne := ⟨_, rfl⟩
   rw [hna, hne] at hnx
   have HNX := hide hnx
   have HNA := hide hna
   have HNE := hide hne
   obtain ⟨wa, hwa⟩ : ∃ wa, wr.alloc (.cells #[.int .i64 m', .int .i64 x', .bool y', .slice B l' d'] 24) = wa := ⟨_, rfl⟩
   obtain ⟨hqa, hsa, hca'⟩ := box1 hwa
   have t0' := hca' 0 _ rfl
   have t1' := hca' 1 _ rfl
   have t2' := hca' 2 _ rfl
   have t3' := hca' 3 _ rfl
   have u0 := ((HQ.out.trans hqa).facts.1 _ 0 hs1).trans T0.out
   have u1 := ((HQ.out.trans hqa).facts.1 _ 1 hs1).trans T1.out
   have HC := hide (HPP.out p hpm wa (HQB.out.trans (hq.trans hqa)))
   rw [hpv, hrm] at HC
   unfold R1 at HC
   have HQA := hide hqa
   have HWA := hide hwa
   clear hx hpe hpv hpm hxr hsz hal hrm hnx hna hne hwa hca' hqa hq hce hca hbr hcaA hce0 hceC
   go_upto_region 27 with fail
   rw [HWA.out]
   clear z0 z1 z2 z3
   go_wp2_with fail
   refine HC.out.mono ?_
   rintro e w5 ⟨rfl, hq5⟩
   clear t0' t1' t2' t3' u0 u1
   obtain ⟨w6, hw6⟩ : ∃ w6, w5.alloc (.cells #[.int .i64 sz, .int .i64 al] 65) = w6 := ⟨_, rfl⟩
   obtain ⟨hq6, hs6, hc6⟩ := box1 hw6
   have r0 := hc6 0 _ rfl
   have r1 := hc6 1 _ rfl
   have hqr6 := HQA.out.trans (hq5.trans hq6)
   have hqlt : W.heap.size + 3 < wr.heap.size := (Array.getElem?_eq_some_iff.1 HBR.out).1
   have hb6 := (hqr6.below.block _ hqlt).trans HBR.out
   have q0 : w6.cell? ⟨W.heap.size + 3, 0, none⟩ = some (.int .i64 ce) := cell_blkJ (j := 0) hb6 rfl
   have q1 : w6.cell? ⟨W.heap.size + 3, 1, none⟩ = some (.int .i64 ca) := cell_blkJ (j := 1) hb6 rfl
   have f0 := frz_new (j := 0) hb6
   have f1 := frz_new (j := 1) hb6
   have HB6 := hide (show ((w6.setCell ⟨W.heap.size + 3, 0, none⟩ (.int .i64 ne)).setCell ⟨W.heap.size + 3, 1, none⟩ (.int .i64 na)).heap[W.heap.size + 3]? = some (.cells #[.int .i64 ne, .int .i64 na] 65 (0, 0)) from (blk_set (blk_set hb6 _) _).trans rfl)
   have HQ6 := hide (((HQ.out.trans hqr6).set (p := ⟨W.heap.size + 3, 0, none⟩) (by dsimp only; omega) (.int .i64 ne)).set (p := ⟨W.heap.size + 3, 1, none⟩) (by dsimp only; omega) (.int .i64 na))
   have HW6 := hide hw6
   clear hq5 hq6 hw6 hc6 hqr6 hb6 hqlt
   have hna := HNA.out
   have hne := HNE.out
   go_upto_region 28 with fail
   rw [HW6.out]
   go_wp2_with fail
   go_roundw
   case rel => exact ⟨j + 1, by omega, by go_num, by rw [HNX.out]; exact HB6.out, HQ6.out⟩
   case measure => simp [intOf] <;> omega
  ·have hd1 : decide ((j : Int) < (len : Int)) = false := by simp; omega
   have hd0 : decide (j < len) = false := by simp; omega
   obtain rfl : j = len := by omega
   obtain ⟨sz, hsz⟩ : ∃ sz, (rs.foldl stepU (0, 1)).1 = sz := ⟨_, rfl⟩
   obtain ⟨al, hal⟩ : ∃ al, (rs.foldl stepU (0, 1)).2 = al := ⟨_, rfl⟩
   rw [HTK.out, hsz, hal] at HBR
   rw [HTK.out, hsz] at hce0 hceC
   rw [HTK.out, hal] at hcaA
   have haA := hcaA
   have hsum : min (sz + 1) 1099511627776 = sz + 1 := by omega
   obtain ⟨u, hu⟩ : ∃ u, upI (sz + 1) al = u := ⟨_, rfl⟩
   have HVAL := hide (HVAL8.out (sz, al) (by rw [← hsz, ← hal]))
   dsimp only at HVAL
   rw [hu] at HVAL
   have HRM := HRM8
   have hqs : W.heap.size + 3 < wr.heap.size := (Array.getElem?_eq_some_iff.1 HBR.out).1
   have q0 : wr.cell? ⟨W.heap.size + 3, 0, none⟩ = some (.int .i64 sz) := cell_blkJ (j := 0) HBR.out rfl
   have q1 : wr.cell? ⟨W.heap.size + 3, 1, none⟩ = some (.int .i64 al) := cell_blkJ (j := 1) HBR.out rfl
   have kbr := (HQ.out.below.block _ hs2).trans KB.out
   have hs2r : W.heap.size + 2 < wr.heap.size := by have := HQ.out.size; omega
   have HQR := hide (HQ3.out.trans HQ.out)
   clear hq hbr hsz hal hcaA
   go_upto_region 30 with fail
   refine Ri.made_last (Ri.phi [Ri.isV (.pointer (some ⟨W.heap.size + 3, 0, none⟩)), Ri.isV (.int .i64 sz), (fun v W => ∃ b, v = .slice (some ⟨b, 0, none⟩) 2 2 ∧ b < W.heap.size ∧ W.cell? ⟨b, 0, none⟩ = some (.int .i64 sz) ∧ W.cell? ⟨b, 1, none⟩ = some (.int .i64 1)), Ri.isV (.int .i64 (sz + 1)), Ri.isV (.pointer (some ⟨W.heap.size + 3, 1, none⟩)), Ri.isV (.int .i64 al), Ri.isV (.int .i64 u), Ri.isV (.pointer (some ⟨W.heap.size + 3, 1, none⟩)), Ri.isV (.int .i64 al), Ri.isV (.agg #[.int .i64 u, .int .i64 al])]) (by kernel_rfl) (by kernel_rfl) rfl (by kernel_rfl) rfl (Ri.phi_mono ?_) ?_ ?_
   ·repeat' first | exact trivial | exact fun _ _ _ h _ => h | exact (fun _ w3 w4 ⟨b, e, hb, c0, c1⟩ hq => ⟨b, e, Nat.lt_of_lt_of_le hb hq.size, (hq.facts.1 _ _ hb).trans c0, (hq.facts.1 _ _ hb).trans c1⟩) | refine ⟨?_, ?_⟩
   ·refine Ri.All.cons ?_ (.cons ?_ (.cons ?_ (.cons ?_ (.cons ?_ (.cons ?_ (.cons ?_ (.cons ?_ (.cons ?_ (.cons ?_ (Ri.All.nil))))))))))
    ·refine ⟨rfl, fun f9 W9 hq hf A9 hA hB hO => ?_⟩
     have e1 := (hB 10).trans (show _ = .pointer (some ⟨W.heap.size + 3, 0, none⟩) by simp [Act.eval])
     exact Ri.wp_value _ (Ri.run_fld (f := _) rfl e1 Try.underlying65 rfl (sz := 0) (by kernel_rfl)) rfl
    ·refine ⟨rfl, fun f9 W9 hq hf A9 hA hB hO => ?_⟩
     have e1 := (hA 119 0).trans (hf 0)
     exact Ri.wp_value _ (Ri.run_ld1 rfl e1 Try.underlying3 rfl ((hq.facts.1 _ 0 hqs).trans q0)) rfl
    ·refine ⟨rfl, fun f9 W9 hq hf A9 hA hB hO => ?_⟩
     have e1 := (hA 120 1).trans (hf 1)
     obtain ⟨ti, hi9, hz9, hsz9, hby9⟩ := info_parts (show (Try.prog.info? 3).map (fun i => (i.zero, i.size, i.bytes)) = some (some (.int .i64 0), 1, 8) by kernel_rfl)
     refine wp_buildSlice 32 3 2 _ rfl #[.int .i64 sz, .int .i64 1] ti _ Try.underlying32 hi9 hz9 (by rw [hsz9]; decide) (by rw [hsz9]; decide) ?_ ⟨_, rfl, (Q.refl W9).alloc _, W9.heap.size, rfl, by simp, cell_blkJ (heap_alloc_new W9 _) rfl, cell_blkJ (heap_alloc_new W9 _) rfl⟩
     rw [hsz9]
     simp only [List.map_toArray, List.map_cons, List.map_nil, e1]
     kernel_rfl
    ·refine ⟨rfl, fun f9 W9 hq hf A9 hA hB hO => ?_⟩
     obtain ⟨b9, hb9, hl9, c0, c1⟩ : ∃ b, f9 2 = .slice (some ⟨b, 0, none⟩) 2 2 ∧ b < W9.heap.size ∧ W9.cell? ⟨b, 0, none⟩ = some (.int .i64 sz) ∧ W9.cell? ⟨b, 1, none⟩ = some (.int .i64 1) := hf 2
     have e1 := (hA 121 2).trans hb9
     have h9 := sum2g b9 sz 1 W9 hl9 c0 c1 (by omega) (by omega)
     rw [hsum] at h9
     refine Ri.wp_call #[.slice (some ⟨b9, 0, none⟩) 2 2] rfl (by simp [e1]) Try.func66 (by kernel_rfl) (by kernel_rfl) (h9.mono ?_)
     rintro e w9 ⟨rfl, h1⟩
     exact ⟨_, rfl, h1, rfl⟩
    ·refine ⟨rfl, fun f9 W9 hq hf A9 hA hB hO => ?_⟩
     have e1 := (hB 10).trans (show _ = .pointer (some ⟨W.heap.size + 3, 0, none⟩) by simp [Act.eval])
     exact Ri.wp_value _ (Ri.run_fld (f := _) rfl e1 Try.underlying65 rfl (sz := 0) (by kernel_rfl)) rfl
    ·refine ⟨rfl, fun f9 W9 hq hf A9 hA hB hO => ?_⟩
     have e1 := (hA 123 4).trans (hf 4)
     exact Ri.wp_value _ (Ri.run_ld1 rfl e1 Try.underlying3 rfl ((hq.facts.1 _ 1 hqs).trans q1)) rfl
    ·refine ⟨rfl, fun f9 W9 hq hf A9 hA hB hO => ?_⟩
     have e1 := (hA 122 3).trans (hf 3)
     have e2 := (hA 124 5).trans (hf 5)
     have h9 := up_any (sz + 1) al haA (by omega) (by omega) W9
     rw [hu] at h9
     refine Ri.wp_call #[.int .i64 (sz + 1), .int .i64 al] rfl (by simp [e1, e2]) Try.func65 (by kernel_rfl) (by kernel_rfl) (h9.mono ?_)
     rintro e w9 ⟨rfl, h1⟩
     exact ⟨_, rfl, h1, rfl⟩
    ·refine ⟨rfl, fun f9 W9 hq hf A9 hA hB hO => ?_⟩
     have e1 := (hB 10).trans (show _ = .pointer (some ⟨W.heap.size + 3, 0, none⟩) by simp [Act.eval])
     exact Ri.wp_value _ (Ri.run_fld (f := _) rfl e1 Try.underlying65 rfl (sz := 0) (by kernel_rfl)) rfl
    ·refine ⟨rfl, fun f9 W9 hq hf A9 hA hB hO => ?_⟩
     have e1 := (hA 126 7).trans (hf 7)
     exact Ri.wp_value _ (Ri.run_ld1 rfl e1 Try.underlying3 rfl ((hq.facts.1 _ 1 hqs).trans q1)) rfl
    ·refine ⟨rfl, fun f9 W9 hq hf A9 hA hB hO => ?_⟩
     have e1 := (hA 125 6).trans (hf 6)
     have e2 := (hA 127 8).trans (hf 8)
     exact Ri.wp_struct rfl [(0, .int .i64 u), (1, .int .i64 al)] (by simp [e1, e2]) (by kernel_rfl) rfl
   ·intro f9 W5 hq hf A9 hAe hA hB
    have e1 := (hB 4).trans (show _ = .pointer (some ⟨W.heap.size + 2, 0, none⟩) by simp [Act.eval])
    have e2 := (hA 128 9).trans (hf 9)
    refine wp_store_row _ _ _ rfl _ _ e1 e2 _ _ ((hq.below.block _ hs2r).trans kbr) (by kernel_rfl) rfl (by simp [Value.oneCell']) ⟨undef, rfl, ?_⟩
    rw [hAe]
    simp only [Ri.acts, Act.put, List.setIfInBounds_toArray, List.set_cons_zero, List.set_cons_succ, Nat.zero_add, Nat.reduceAdd]
    have HXW2 := hide hq
    clear hA hB hAe e1 e2 hf hq
    have HGR := hide ((HXW2.out.below.block _ hs2r).trans kbr)
    have HQS := hide ((HQR.out.trans HXW2.out).setRow (g := W.heap.size + 2) (by omega) #[.int .i64 (u), .int .i64 (al)])
    have s0 : (W5.setRow (W.heap.size + 2) #[.int .i64 (u), .int .i64 (al)]).cell? ⟨W.heap.size + 2, 0, none⟩ = some (.int .i64 (u)) := (cell_setRow_same _ _ 0 _ _ _ _ HGR.out).trans rfl
    have s1 : (W5.setRow (W.heap.size + 2) #[.int .i64 (u), .int .i64 (al)]).cell? ⟨W.heap.size + 2, 1, none⟩ = some (.int .i64 (al)) := (cell_setRow_same _ _ 1 _ _ _ _ HGR.out).trans rfl
    clear q0 q1 kbr
    go_wp2_with fail
    refine bodyPost_ret (v := .agg #[.int .i64 (u), .int .i64 (al)]) (by simp [results, Try.results58, go_sem, s0, s1]) rfl ?_
    exact ⟨by rw [HRM.out, HVAL.out], HQS.out⟩
def Fr (l : Lay) : Prop := ∀ x ∈ l.flat, x.tc ≤ 68000000000
theorem Fr.part {l p : Lay} (h : Fr l) (hp : p ∈ l.parts) : Fr p := fun x hx => h x (part_flat hp hx)
theorem fr_cap {w : World} {l : Lay} (h : LayR w l) (hv : VL l) (hf : Fr l) (wd : Int) (hw : wd = 2 ∨ wd = 4 ∨ wd = 8) : isA (l.room wd).2 ∧ 0 ≤ (l.room wd).1 ∧ (l.room wd).1 ≤ 1088000000000 := by
 have h1 := room_ok h wd hw hv
 have h2 := hf l (self_flat l)
 exact ⟨h1.al, h1.lo, by have := h1.hi; omega⟩
theorem roomOf_any {w : World} {l : Lay} (h : LayR w l) (wd : Int) (b : Bool) (hw : wd = 2 ∨ wd = 4 ∨ wd = 8) : VL l → Fr l → ∀ W, Q w W → Calls Try.prog 58 #[l.v, tgW wd b] W (R1 W (rmV (l.room wd))) := by
 induction h with
 | @mk k n f A len cap ps a1 a2 a3 a4 a5 a6 ih =>
  intro hv hf
  have hL : LayR w (.mk k n f A len cap ps) := .mk a1 a2 a3 a4 a5 a6
  have hp : ∀ p ∈ ps, ∀ W, Q w W → Calls Try.prog 58 #[p.v, tgW wd b] W (R1 W (rmV (p.room wd))) := fun p hm => ih p hm (hv.part (l := .mk k n f A len cap ps) hm) (hf.part (l := .mk k n f A len cap ps) hm)
  have hr : ∀ p ∈ ps, isA (p.room wd).2 ∧ 0 ≤ (p.room wd).1 ∧ (p.room wd).1 ≤ 1088000000000 := fun p hm => fr_cap (a6 p hm) (hv.part (l := .mk k n f A len cap ps) hm) (hf.part (l := .mk k n f A len cap ps) hm) wd hw
  have hz := (fr_cap hL hv hf wd hw).2.2
  obtain ⟨h0, h9, -, -⟩ := hv.kind
  have hk : k = 0 ∨ k = 1 ∨ k = 2 ∨ k = 3 ∨ k = 4 ∨ k = 5 ∨ k = 6 ∨ k = 7 ∨ k = 8 ∨ k = 9 := by omega
  rcases hk with hk | hk | hk | hk | hk | hk | hk | hk | hk | hk
  ·exact roomP0 hL hv wd b hw hk
  ·exact roomP1 hL hv wd b hw hk
  ·exact roomP2 hL hv wd b hw hk
  ·exact roomP3 hL hv wd b hw hk
  ·exact roomP4 hL hv wd b hw hp hr hz hk
  ·exact roomP5 hL hv wd b hw hp hr hz hk
  ·exact roomP6 hL hv wd b hw hp hr hz hk
  ·exact roomP7 hL hv wd b hw hk
  ·exact roomP8 hL hv wd b hw hp hr hz hk
  ·exact roomP9 hL hv wd b hw hk
def NewP (B : Nat) : Value → World → Prop := fun v W => ∃ q, v = .pointer (some ⟨q, 0, none⟩) ∧ B ≤ q ∧ q < W.heap.size ∧ W.heap[q]? = some (.cells #[.int .i64 0, .int .i64 0] 86 (0, 0))
theorem newP_q (B : Nat) : Ri.Mono (NewP B) := fun _ w1 w2 ⟨q, e, hb, hl, hh⟩ hq => ⟨q, e, hb, Nat.lt_of_lt_of_le hl hq.size, (hq.below.block _ hl).trans hh⟩
namespace Ri
theorem run_allocP {o : Oper} {A : Act} {W : World} (ho : o.op = .alloc 86) : (execOp A.eval o).run Try.prog W = .ok (.value (.pointer (some ⟨W.heap.size, 0, none⟩))) (W.alloc (.cells #[.int .i64 0, .int .i64 0] 86)) := by
 unfold execOp
 simp only [ho]
 have h : (Instr.alloc 86 true (.tuple #[])).run Try.prog W = .ok (.pointer (some ⟨W.heap.size, 0, none⟩)) (W.alloc (.cells #[.int .i64 0, .int .i64 0] 86)) := by kernel_rfl
 simp [Sem.run_bind, h, Result.andThen]
theorem run_add {P : Program} {o : Oper} {A : Act} {w : World} {x y : Operand} {t t' : TypeId} {p u : Int} (ho : o.op = .binOp .add t x y t') (hx : A.eval x = .int .i64 p) (hy : A.eval y = .int .i64 u) (hu : P.underlying t = some (.int .i64)) (h0 : -9223372036854775808 ≤ p + u) (h1 : p + u ≤ 9223372036854775807) : (execOp A.eval o).run P w = .ok (.value (.int .i64 (p + u))) w := by
 have e : IntKind.i64.wrap (p + u) = p + u := by rw [IntKind.wrap_i64]; omega
 unfold execOp
 simp only [ho, hx, hy]
 simp [go_sem, e]
end Ri
theorem plcP0 {w : World} {k n : Int} {f : Bool} {A : Option Addr} {len cap : Nat} {ps : List Lay} (h : LayR w (.mk k n f A len cap ps)) (hv : VL (.mk k n f A len cap ps)) (wd : Int) (b : Bool) (hw : wd = 2 ∨ wd = 4 ∨ wd = 8) (hk : k = 0) : ∀ W, Q w W → Calls Try.prog 50 #[(Lay.mk k n f A len cap ps).v, tgW wd b] W (R1 W (rmV ((Lay.mk k n f A len cap ps).room wd))) := by
 subst hk
 intro W hqW
 unfold R1
 have HRM := hide (room_mk wd 0 n f A len cap ps)
 have HLEN := hide hv.len
 have HKIND := hide hv.kind
 have HLR := hide h
 have HVL := hide hv
 have HQW := hide hqW
 show Calls _ _ #[.agg #[.int .i64 0, .int .i64 n, .bool f, .slice A len cap], .agg #[.int .i64 wd, .bool b]] W _
 obtain ⟨w3, hw3⟩ : ∃ w3, ((W.alloc (.cells #[.int .i64 0, .int .i64 n, .bool f, .slice A len cap] 24)).alloc (.cells #[.int .i64 wd, .bool b] 26)).alloc (.cells #[.int .i64 0, .int .i64 0] 86) = w3 := ⟨_, rfl⟩
 obtain ⟨hq3, hs3, hc, hd, he⟩ := box3 hw3
 have hs0 : W.heap.size < w3.heap.size := by omega
 have hs1 : W.heap.size + 1 < w3.heap.size := by omega
 have hs2 : W.heap.size + 2 < w3.heap.size := by omega
 have K0 := hide (show w3.cell? ⟨W.heap.size, 0, none⟩ = some (.int .i64 0) from hc 0 _ rfl)
 have K1 := hide (show w3.cell? ⟨W.heap.size, 1, none⟩ = some (.int .i64 n) from hc 1 _ rfl)
 have K2 := hide (show w3.cell? ⟨W.heap.size, 2, none⟩ = some (.bool f) from hc 2 _ rfl)
 have K3 := hide (show w3.cell? ⟨W.heap.size, 3, none⟩ = some (.slice A len cap) from hc 3 _ rfl)
 have T0 := hide (show w3.cell? ⟨W.heap.size + 1, 0, none⟩ = some (.int .i64 wd) from hd 0 _ rfl)
 have T1 := hide (show w3.cell? ⟨W.heap.size + 1, 1, none⟩ = some (.bool b) from hd 1 _ rfl)
 have Z0 := hide (show w3.cell? ⟨W.heap.size + 2, 0, none⟩ = some (.int .i64 0) from he 0 _ rfl)
 have Z1 := hide (show w3.cell? ⟨W.heap.size + 2, 1, none⟩ = some (.int .i64 0) from he 1 _ rfl)
 have kb : w3.heap[W.heap.size + 2]? = some (.cells #[.int .i64 0, .int .i64 0] 86 (0, 0)) := by
  have h9 := heap_alloc_new ((W.alloc (.cells #[.int .i64 0, .int .i64 n, .bool f, .slice A len cap] 24)).alloc (.cells #[.int .i64 wd, .bool b] 26)) (.cells #[.int .i64 0, .int .i64 0] 86)
  rw [hw3] at h9
  simpa using h9
 have Y0 := hide (frz_new (j := 0) kb)
 have Y1 := hide (frz_new (j := 1) kb)
 have KB := hide kb
 have HW3 := hide hw3
 have HQ3 := hide hq3
 clear h hv hqW hw3 hq3 hc hd he kb
 go_enter Try.func50, Try.ntmps50
 go_upto_region 1 with fail
 rw [HW3.out]
 have k0 := K0.out
 have HVAL := hide (show roomR wd 0 n (packR (.mk 0 n f A len cap ps)) (ps.map (Lay.room wd)) = (0, 1) from by unfold roomR; simp)
 obtain ⟨s0, s1⟩ := set2c (v0 := .int .i64 (0)) (v1 := .int .i64 (1)) Z0.out Z1.out
 have S0 := hide s0
 have S1 := hide s1
 have HQS := hide (((HQ3.out).set (p := ⟨W.heap.size + 2, 0, none⟩) (by simp) (.int .i64 (0))).set (p := ⟨W.heap.size + 2, 1, none⟩) (by simp) (.int .i64 (1)))
 have z0 := Z0.out
 have z1 := Z1.out
 have y0 := Y0.out
 have y1 := Y1.out
 clear s0 s1
 go_wp2_with fail
 have s0 := S0.out
 have s1 := S1.out
 refine bodyPost_ret (v := .agg #[.int .i64 (0), .int .i64 (1)]) (by simp [results, Try.results50, go_sem, s0, s1]) rfl ?_
 exact ⟨by rw [HRM.out, HVAL.out], HQS.out⟩
theorem plcP1 {w : World} {k n : Int} {f : Bool} {A : Option Addr} {len cap : Nat} {ps : List Lay} (h : LayR w (.mk k n f A len cap ps)) (hv : VL (.mk k n f A len cap ps)) (wd : Int) (b : Bool) (hw : wd = 2 ∨ wd = 4 ∨ wd = 8) (hk : k = 1) : ∀ W, Q w W → Calls Try.prog 50 #[(Lay.mk k n f A len cap ps).v, tgW wd b] W (R1 W (rmV ((Lay.mk k n f A len cap ps).room wd))) := by
 subst hk
 intro W hqW
 unfold R1
 have HRM := hide (room_mk wd 1 n f A len cap ps)
 have HLEN := hide hv.len
 have HKIND := hide hv.kind
 have HLR := hide h
 have HVL := hide hv
 have HQW := hide hqW
 show Calls _ _ #[.agg #[.int .i64 1, .int .i64 n, .bool f, .slice A len cap], .agg #[.int .i64 wd, .bool b]] W _
 obtain ⟨w3, hw3⟩ : ∃ w3, ((W.alloc (.cells #[.int .i64 1, .int .i64 n, .bool f, .slice A len cap] 24)).alloc (.cells #[.int .i64 wd, .bool b] 26)).alloc (.cells #[.int .i64 0, .int .i64 0] 86) = w3 := ⟨_, rfl⟩
 obtain ⟨hq3, hs3, hc, hd, he⟩ := box3 hw3
 have hs0 : W.heap.size < w3.heap.size := by omega
 have hs1 : W.heap.size + 1 < w3.heap.size := by omega
 have hs2 : W.heap.size + 2 < w3.heap.size := by omega
 have K0 := hide (show w3.cell? ⟨W.heap.size, 0, none⟩ = some (.int .i64 1) from hc 0 _ rfl)
 have K1 := hide (show w3.cell? ⟨W.heap.size, 1, none⟩ = some (.int .i64 n) from hc 1 _ rfl)
 have K2 := hide (show w3.cell? ⟨W.heap.size, 2, none⟩ = some (.bool f) from hc 2 _ rfl)
 have K3 := hide (show w3.cell? ⟨W.heap.size, 3, none⟩ = some (.slice A len cap) from hc 3 _ rfl)
 have T0 := hide (show w3.cell? ⟨W.heap.size + 1, 0, none⟩ = some (.int .i64 wd) from hd 0 _ rfl)
 have T1 := hide (show w3.cell? ⟨W.heap.size + 1, 1, none⟩ = some (.bool b) from hd 1 _ rfl)
 have Z0 := hide (show w3.cell? ⟨W.heap.size + 2, 0, none⟩ = some (.int .i64 0) from he 0 _ rfl)
 have Z1 := hide (show w3.cell? ⟨W.heap.size + 2, 1, none⟩ = some (.int .i64 0) from he 1 _ rfl)
 have kb : w3.heap[W.heap.size + 2]? = some (.cells #[.int .i64 0, .int .i64 0] 86 (0, 0)) := by
  have h9 := heap_alloc_new ((W.alloc (.cells #[.int .i64 1, .int .i64 n, .bool f, .slice A len cap] 24)).alloc (.cells #[.int .i64 wd, .bool b] 26)) (.cells #[.int .i64 0, .int .i64 0] 86)
  rw [hw3] at h9
  simpa using h9
 have Y0 := hide (frz_new (j := 0) kb)
 have Y1 := hide (frz_new (j := 1) kb)
 have KB := hide kb
 have HW3 := hide hw3
 have HQ3 := hide hq3
 clear h hv hqW hw3 hq3 hc hd he kb
 go_enter Try.func50, Try.ntmps50
 go_upto_region 1 with fail
 rw [HW3.out]
 have k0 := K0.out
 have HVAL := hide (show roomR wd 1 n (packR (.mk 1 n f A len cap ps)) (ps.map (Lay.room wd)) = (1, 1) from by unfold roomR; simp)
 obtain ⟨s0, s1⟩ := set2c (v0 := .int .i64 (1)) (v1 := .int .i64 (1)) Z0.out Z1.out
 have S0 := hide s0
 have S1 := hide s1
 have HQS := hide (((HQ3.out).set (p := ⟨W.heap.size + 2, 0, none⟩) (by simp) (.int .i64 (1))).set (p := ⟨W.heap.size + 2, 1, none⟩) (by simp) (.int .i64 (1)))
 have z0 := Z0.out
 have z1 := Z1.out
 have y0 := Y0.out
 have y1 := Y1.out
 clear s0 s1
 go_wp2_with fail
 have s0 := S0.out
 have s1 := S1.out
 refine bodyPost_ret (v := .agg #[.int .i64 (1), .int .i64 (1)]) (by simp [results, Try.results50, go_sem, s0, s1]) rfl ?_
 exact ⟨by rw [HRM.out, HVAL.out], HQS.out⟩
theorem plcP3 {w : World} {k n : Int} {f : Bool} {A : Option Addr} {len cap : Nat} {ps : List Lay} (h : LayR w (.mk k n f A len cap ps)) (hv : VL (.mk k n f A len cap ps)) (wd : Int) (b : Bool) (hw : wd = 2 ∨ wd = 4 ∨ wd = 8) (hk : k = 3) : ∀ W, Q w W → Calls Try.prog 50 #[(Lay.mk k n f A len cap ps).v, tgW wd b] W (R1 W (rmV ((Lay.mk k n f A len cap ps).room wd))) := by
 subst hk
 intro W hqW
 unfold R1
 have HRM := hide (room_mk wd 3 n f A len cap ps)
 have HLEN := hide hv.len
 have HKIND := hide hv.kind
 have HLR := hide h
 have HVL := hide hv
 have HQW := hide hqW
 show Calls _ _ #[.agg #[.int .i64 3, .int .i64 n, .bool f, .slice A len cap], .agg #[.int .i64 wd, .bool b]] W _
 obtain ⟨w3, hw3⟩ : ∃ w3, ((W.alloc (.cells #[.int .i64 3, .int .i64 n, .bool f, .slice A len cap] 24)).alloc (.cells #[.int .i64 wd, .bool b] 26)).alloc (.cells #[.int .i64 0, .int .i64 0] 86) = w3 := ⟨_, rfl⟩
 obtain ⟨hq3, hs3, hc, hd, he⟩ := box3 hw3
 have hs0 : W.heap.size < w3.heap.size := by omega
 have hs1 : W.heap.size + 1 < w3.heap.size := by omega
 have hs2 : W.heap.size + 2 < w3.heap.size := by omega
 have K0 := hide (show w3.cell? ⟨W.heap.size, 0, none⟩ = some (.int .i64 3) from hc 0 _ rfl)
 have K1 := hide (show w3.cell? ⟨W.heap.size, 1, none⟩ = some (.int .i64 n) from hc 1 _ rfl)
 have K2 := hide (show w3.cell? ⟨W.heap.size, 2, none⟩ = some (.bool f) from hc 2 _ rfl)
 have K3 := hide (show w3.cell? ⟨W.heap.size, 3, none⟩ = some (.slice A len cap) from hc 3 _ rfl)
 have T0 := hide (show w3.cell? ⟨W.heap.size + 1, 0, none⟩ = some (.int .i64 wd) from hd 0 _ rfl)
 have T1 := hide (show w3.cell? ⟨W.heap.size + 1, 1, none⟩ = some (.bool b) from hd 1 _ rfl)
 have Z0 := hide (show w3.cell? ⟨W.heap.size + 2, 0, none⟩ = some (.int .i64 0) from he 0 _ rfl)
 have Z1 := hide (show w3.cell? ⟨W.heap.size + 2, 1, none⟩ = some (.int .i64 0) from he 1 _ rfl)
 have kb : w3.heap[W.heap.size + 2]? = some (.cells #[.int .i64 0, .int .i64 0] 86 (0, 0)) := by
  have h9 := heap_alloc_new ((W.alloc (.cells #[.int .i64 3, .int .i64 n, .bool f, .slice A len cap] 24)).alloc (.cells #[.int .i64 wd, .bool b] 26)) (.cells #[.int .i64 0, .int .i64 0] 86)
  rw [hw3] at h9
  simpa using h9
 have Y0 := hide (frz_new (j := 0) kb)
 have Y1 := hide (frz_new (j := 1) kb)
 have KB := hide kb
 have HW3 := hide hw3
 have HQ3 := hide hq3
 clear h hv hqW hw3 hq3 hc hd he kb
 go_enter Try.func50, Try.ntmps50
 go_upto_region 1 with fail
 rw [HW3.out]
 have k0 := K0.out
 have t0 := T0.out
 have HVAL := hide (show roomR wd 3 n (packR (.mk 3 n f A len cap ps)) (ps.map (Lay.room wd)) = (wd, wd) from by unfold roomR; simp)
 obtain ⟨s0, s1⟩ := set2c (v0 := .int .i64 (wd)) (v1 := .int .i64 (wd)) Z0.out Z1.out
 have S0 := hide s0
 have S1 := hide s1
 have HQS := hide (((HQ3.out).set (p := ⟨W.heap.size + 2, 0, none⟩) (by simp) (.int .i64 (wd))).set (p := ⟨W.heap.size + 2, 1, none⟩) (by simp) (.int .i64 (wd)))
 have z0 := Z0.out
 have z1 := Z1.out
 have y0 := Y0.out
 have y1 := Y1.out
 clear s0 s1
 go_wp2_with fail
 have s0 := S0.out
 have s1 := S1.out
 refine bodyPost_ret (v := .agg #[.int .i64 (wd), .int .i64 (wd)]) (by simp [results, Try.results50, go_sem, s0, s1]) rfl ?_
 exact ⟨by rw [HRM.out, HVAL.out], HQS.out⟩
theorem plcP7 {w : World} {k n : Int} {f : Bool} {A : Option Addr} {len cap : Nat} {ps : List Lay} (h : LayR w (.mk k n f A len cap ps)) (hv : VL (.mk k n f A len cap ps)) (wd : Int) (b : Bool) (hw : wd = 2 ∨ wd = 4 ∨ wd = 8) (hk : k = 7) : ∀ W, Q w W → Calls Try.prog 50 #[(Lay.mk k n f A len cap ps).v, tgW wd b] W (R1 W (rmV ((Lay.mk k n f A len cap ps).room wd))) := by
 subst hk
 intro W hqW
 unfold R1
 have HRM := hide (room_mk wd 7 n f A len cap ps)
 have HLEN := hide hv.len
 have HKIND := hide hv.kind
 have HLR := hide h
 have HVL := hide hv
 have HQW := hide hqW
 show Calls _ _ #[.agg #[.int .i64 7, .int .i64 n, .bool f, .slice A len cap], .agg #[.int .i64 wd, .bool b]] W _
 obtain ⟨w3, hw3⟩ : ∃ w3, ((W.alloc (.cells #[.int .i64 7, .int .i64 n, .bool f, .slice A len cap] 24)).alloc (.cells #[.int .i64 wd, .bool b] 26)).alloc (.cells #[.int .i64 0, .int .i64 0] 86) = w3 := ⟨_, rfl⟩
 obtain ⟨hq3, hs3, hc, hd, he⟩ := box3 hw3
 have hs0 : W.heap.size < w3.heap.size := by omega
 have hs1 : W.heap.size + 1 < w3.heap.size := by omega
 have hs2 : W.heap.size + 2 < w3.heap.size := by omega
 have K0 := hide (show w3.cell? ⟨W.heap.size, 0, none⟩ = some (.int .i64 7) from hc 0 _ rfl)
 have K1 := hide (show w3.cell? ⟨W.heap.size, 1, none⟩ = some (.int .i64 n) from hc 1 _ rfl)
 have K2 := hide (show w3.cell? ⟨W.heap.size, 2, none⟩ = some (.bool f) from hc 2 _ rfl)
 have K3 := hide (show w3.cell? ⟨W.heap.size, 3, none⟩ = some (.slice A len cap) from hc 3 _ rfl)
 have T0 := hide (show w3.cell? ⟨W.heap.size + 1, 0, none⟩ = some (.int .i64 wd) from hd 0 _ rfl)
 have T1 := hide (show w3.cell? ⟨W.heap.size + 1, 1, none⟩ = some (.bool b) from hd 1 _ rfl)
 have Z0 := hide (show w3.cell? ⟨W.heap.size + 2, 0, none⟩ = some (.int .i64 0) from he 0 _ rfl)
 have Z1 := hide (show w3.cell? ⟨W.heap.size + 2, 1, none⟩ = some (.int .i64 0) from he 1 _ rfl)
 have kb : w3.heap[W.heap.size + 2]? = some (.cells #[.int .i64 0, .int .i64 0] 86 (0, 0)) := by
  have h9 := heap_alloc_new ((W.alloc (.cells #[.int .i64 7, .int .i64 n, .bool f, .slice A len cap] 24)).alloc (.cells #[.int .i64 wd, .bool b] 26)) (.cells #[.int .i64 0, .int .i64 0] 86)
  rw [hw3] at h9
  simpa using h9
 have Y0 := hide (frz_new (j := 0) kb)
 have Y1 := hide (frz_new (j := 1) kb)
 have KB := hide kb
 have HW3 := hide hw3
 have HQ3 := hide hq3
 clear h hv hqW hw3 hq3 hc hd he kb
 go_enter Try.func50, Try.ntmps50
 go_upto_region 1 with fail
 rw [HW3.out]
 have k0 := K0.out
 have t0 := T0.out
 have k1 := K1.out
 by_cases h256 : n ≤ 256
 ·have d1 : decide (n ≤ (256 : Int)) = true := by simp [h256]
  have HVAL := hide (show roomR wd 7 n (packR (.mk 7 n f A len cap ps)) (ps.map (Lay.room wd)) = (1, 1) from by unfold roomR; simp [h256])
  clear h256
  obtain ⟨s0, s1⟩ := set2c (v0 := .int .i64 (1)) (v1 := .int .i64 (1)) Z0.out Z1.out
  have S0 := hide s0
  have S1 := hide s1
  have HQS := hide (((HQ3.out).set (p := ⟨W.heap.size + 2, 0, none⟩) (by simp) (.int .i64 (1))).set (p := ⟨W.heap.size + 2, 1, none⟩) (by simp) (.int .i64 (1)))
  have z0 := Z0.out
  have z1 := Z1.out
  have y0 := Y0.out
  have y1 := Y1.out
  clear s0 s1
  go_wp2_with fail
  have s0 := S0.out
  have s1 := S1.out
  refine bodyPost_ret (v := .agg #[.int .i64 (1), .int .i64 (1)]) (by simp [results, Try.results50, go_sem, s0, s1]) rfl ?_
  exact ⟨by rw [HRM.out, HVAL.out], HQS.out⟩
 ·have d1 : decide (n ≤ (256 : Int)) = false := by simp [h256]
  have hm1 : (if wd < 2 then wd else (2 : Int)) = 2 := by rw [if_neg (by omega)]
  have hm2 : min 2 wd = 2 := by omega
  have HVAL := hide (show roomR wd 7 n (packR (.mk 7 n f A len cap ps)) (ps.map (Lay.room wd)) = (2, 2) from by unfold roomR; simp [h256, hm2])
  clear h256
  obtain ⟨s0, s1⟩ := set2c (v0 := .int .i64 (2)) (v1 := .int .i64 (2)) Z0.out Z1.out
  have S0 := hide s0
  have S1 := hide s1
  have HQS := hide (((HQ3.out).set (p := ⟨W.heap.size + 2, 0, none⟩) (by simp) (.int .i64 (2))).set (p := ⟨W.heap.size + 2, 1, none⟩) (by simp) (.int .i64 (2)))
  have z0 := Z0.out
  have z1 := Z1.out
  have y0 := Y0.out
  have y1 := Y1.out
  clear s0 s1
  go_wp2_with fail
  have s0 := S0.out
  have s1 := S1.out
  refine bodyPost_ret (v := .agg #[.int .i64 (2), .int .i64 (2)]) (by simp [results, Try.results50, go_sem, s0, s1]) rfl ?_
  exact ⟨by rw [HRM.out, HVAL.out], HQS.out⟩
theorem plcP2 {w : World} {k n : Int} {f : Bool} {A : Option Addr} {len cap : Nat} {ps : List Lay} (h : LayR w (.mk k n f A len cap ps)) (hv : VL (.mk k n f A len cap ps)) (wd : Int) (b : Bool) (hw : wd = 2 ∨ wd = 4 ∨ wd = 8) (hk : k = 2) : ∀ W, Q w W → Calls Try.prog 50 #[(Lay.mk k n f A len cap ps).v, tgW wd b] W (R1 W (rmV ((Lay.mk k n f A len cap ps).room wd))) := by
 subst hk
 intro W hqW
 unfold R1
 have HRM := hide (room_mk wd 2 n f A len cap ps)
 have HLEN := hide hv.len
 have HKIND := hide hv.kind
 have HLR := hide h
 have HVL := hide hv
 have HQW := hide hqW
 show Calls _ _ #[.agg #[.int .i64 2, .int .i64 n, .bool f, .slice A len cap], .agg #[.int .i64 wd, .bool b]] W _
 obtain ⟨w3, hw3⟩ : ∃ w3, ((W.alloc (.cells #[.int .i64 2, .int .i64 n, .bool f, .slice A len cap] 24)).alloc (.cells #[.int .i64 wd, .bool b] 26)).alloc (.cells #[.int .i64 0, .int .i64 0] 86) = w3 := ⟨_, rfl⟩
 obtain ⟨hq3, hs3, hc, hd, he⟩ := box3 hw3
 have hs0 : W.heap.size < w3.heap.size := by omega
 have hs1 : W.heap.size + 1 < w3.heap.size := by omega
 have hs2 : W.heap.size + 2 < w3.heap.size := by omega
 have K0 := hide (show w3.cell? ⟨W.heap.size, 0, none⟩ = some (.int .i64 2) from hc 0 _ rfl)
 have K1 := hide (show w3.cell? ⟨W.heap.size, 1, none⟩ = some (.int .i64 n) from hc 1 _ rfl)
 have K2 := hide (show w3.cell? ⟨W.heap.size, 2, none⟩ = some (.bool f) from hc 2 _ rfl)
 have K3 := hide (show w3.cell? ⟨W.heap.size, 3, none⟩ = some (.slice A len cap) from hc 3 _ rfl)
 have T0 := hide (show w3.cell? ⟨W.heap.size + 1, 0, none⟩ = some (.int .i64 wd) from hd 0 _ rfl)
 have T1 := hide (show w3.cell? ⟨W.heap.size + 1, 1, none⟩ = some (.bool b) from hd 1 _ rfl)
 have Z0 := hide (show w3.cell? ⟨W.heap.size + 2, 0, none⟩ = some (.int .i64 0) from he 0 _ rfl)
 have Z1 := hide (show w3.cell? ⟨W.heap.size + 2, 1, none⟩ = some (.int .i64 0) from he 1 _ rfl)
 have kb : w3.heap[W.heap.size + 2]? = some (.cells #[.int .i64 0, .int .i64 0] 86 (0, 0)) := by
  have h9 := heap_alloc_new ((W.alloc (.cells #[.int .i64 2, .int .i64 n, .bool f, .slice A len cap] 24)).alloc (.cells #[.int .i64 wd, .bool b] 26)) (.cells #[.int .i64 0, .int .i64 0] 86)
  rw [hw3] at h9
  simpa using h9
 have Y0 := hide (frz_new (j := 0) kb)
 have Y1 := hide (frz_new (j := 1) kb)
 have KB := hide kb
 have HW3 := hide hw3
 have HQ3 := hide hq3
 clear h hv hqW hw3 hq3 hc hd he kb
 go_enter Try.func50, Try.ntmps50
 go_upto_region 1 with fail
 rw [HW3.out]
 have k0 := K0.out
 have t0 := T0.out
 have k1 := K1.out
 have hn1 : 1 ≤ n := by
  have h9 := HKIND.out.2.2.2
  unfold restL at h9
  simpa using h9
 have hn2 : n ≤ 64 := HLEN.out.2.1 rfl
 obtain ⟨s, hs⟩ : ∃ s, whB n = s := ⟨_, rfl⟩
 have HWH := hide (fun W' => whole05_any n wd hw hn2 hn1 W')
 unfold R1 at HWH
 rw [hs] at HWH
 obtain ⟨mn, hmin⟩ : ∃ mn, min s wd = mn := ⟨_, rfl⟩
 rw [hmin] at HWH
 have HVAL := hide (show roomR wd 2 n (packR (.mk 2 n f A len cap ps)) (ps.map (Lay.room wd)) = (s, mn) from by unfold roomR; simp [hs, hmin])
 clear hs
 go_wp2_with fail
 refine (HWH.out _).mono ?_
 rintro e w5 ⟨rfl, hq5⟩
 have zz0 := (hq5.facts.1 _ 0 hs2).trans Z0.out
 have zz1 := (hq5.facts.1 _ 1 hs2).trans Z1.out
 have yy0 := (hq5.facts.2.1 _ 0 hs2).trans Y0.out
 have yy1 := (hq5.facts.2.1 _ 1 hs2).trans Y1.out
 have HQ5 := hide (HQ3.out.trans hq5)
 clear hq5 k0 k1 t0
 obtain ⟨s0, s1⟩ := set2c (v0 := .int .i64 (s)) (v1 := .int .i64 (mn)) (zz0) (zz1)
 have S0 := hide s0
 have S1 := hide s1
 have HQS := hide (((HQ5.out).set (p := ⟨W.heap.size + 2, 0, none⟩) (by simp) (.int .i64 (s))).set (p := ⟨W.heap.size + 2, 1, none⟩) (by simp) (.int .i64 (mn)))
 have z0 := zz0
 have z1 := zz1
 have y0 := yy0
 have y1 := yy1
 clear s0 s1
 go_wp2_with fail
 have s0 := S0.out
 have s1 := S1.out
 refine bodyPost_ret (v := .agg #[.int .i64 (s), .int .i64 (mn)]) (by simp [results, Try.results50, go_sem, s0, s1]) rfl ?_
 exact ⟨by rw [HRM.out, HVAL.out], HQS.out⟩
theorem plcP9 {w : World} {k n : Int} {f : Bool} {A : Option Addr} {len cap : Nat} {ps : List Lay} (h : LayR w (.mk k n f A len cap ps)) (hv : VL (.mk k n f A len cap ps)) (wd : Int) (b : Bool) (hw : wd = 2 ∨ wd = 4 ∨ wd = 8) (hk : k = 9) : ∀ W, Q w W → Calls Try.prog 50 #[(Lay.mk k n f A len cap ps).v, tgW wd b] W (R1 W (rmV ((Lay.mk k n f A len cap ps).room wd))) := by
 subst hk
 intro W hqW
 unfold R1
 have HRM := hide (room_mk wd 9 n f A len cap ps)
 have HLEN := hide hv.len
 have HKIND := hide hv.kind
 have HLR := hide h
 have HVL := hide hv
 have HQW := hide hqW
 show Calls _ _ #[.agg #[.int .i64 9, .int .i64 n, .bool f, .slice A len cap], .agg #[.int .i64 wd, .bool b]] W _
 obtain ⟨w3, hw3⟩ : ∃ w3, ((W.alloc (.cells #[.int .i64 9, .int .i64 n, .bool f, .slice A len cap] 24)).alloc (.cells #[.int .i64 wd, .bool b] 26)).alloc (.cells #[.int .i64 0, .int .i64 0] 86) = w3 := ⟨_, rfl⟩
 obtain ⟨hq3, hs3, hc, hd, he⟩ := box3 hw3
 have hs0 : W.heap.size < w3.heap.size := by omega
 have hs1 : W.heap.size + 1 < w3.heap.size := by omega
 have hs2 : W.heap.size + 2 < w3.heap.size := by omega
 have K0 := hide (show w3.cell? ⟨W.heap.size, 0, none⟩ = some (.int .i64 9) from hc 0 _ rfl)
 have K1 := hide (show w3.cell? ⟨W.heap.size, 1, none⟩ = some (.int .i64 n) from hc 1 _ rfl)
 have K2 := hide (show w3.cell? ⟨W.heap.size, 2, none⟩ = some (.bool f) from hc 2 _ rfl)
 have K3 := hide (show w3.cell? ⟨W.heap.size, 3, none⟩ = some (.slice A len cap) from hc 3 _ rfl)
 have T0 := hide (show w3.cell? ⟨W.heap.size + 1, 0, none⟩ = some (.int .i64 wd) from hd 0 _ rfl)
 have T1 := hide (show w3.cell? ⟨W.heap.size + 1, 1, none⟩ = some (.bool b) from hd 1 _ rfl)
 have Z0 := hide (show w3.cell? ⟨W.heap.size + 2, 0, none⟩ = some (.int .i64 0) from he 0 _ rfl)
 have Z1 := hide (show w3.cell? ⟨W.heap.size + 2, 1, none⟩ = some (.int .i64 0) from he 1 _ rfl)
 have kb : w3.heap[W.heap.size + 2]? = some (.cells #[.int .i64 0, .int .i64 0] 86 (0, 0)) := by
  have h9 := heap_alloc_new ((W.alloc (.cells #[.int .i64 9, .int .i64 n, .bool f, .slice A len cap] 24)).alloc (.cells #[.int .i64 wd, .bool b] 26)) (.cells #[.int .i64 0, .int .i64 0] 86)
  rw [hw3] at h9
  simpa using h9
 have Y0 := hide (frz_new (j := 0) kb)
 have Y1 := hide (frz_new (j := 1) kb)
 have KB := hide kb
 have HW3 := hide hw3
 have HQ3 := hide hq3
 clear h hv hqW hw3 hq3 hc hd he kb
 go_enter Try.func50, Try.ntmps50
 go_upto_region 1 with fail
 rw [HW3.out]
 have k0 := K0.out
 have k1 := K1.out
 have k2 := K2.out
 have k3 := K3.out
 have t0 := T0.out
 have hp64 := HLEN.out.2.2.2.2 rfl
 obtain ⟨pk, hpk⟩ : ∃ pk, packR (.mk 9 n f A len cap ps) = pk := ⟨_, rfl⟩
 have hpk0 : 0 ≤ pk := by rw [← hpk]; exact (pack_fold ps).1
 have HQB := hide (HQW.out.trans HQ3.out)
 have HPK := hide (fun W' hW' => packed_any HLR.out W' hW')
 unfold R1 at HPK
 rw [hpk] at HPK hp64
 have HPV : Hid ((Lay.mk 9 n f A len cap ps).v = .agg #[.int .i64 9, .int .i64 n, .bool f, .slice A len cap]) := hide rfl
 rw [HPV.out] at HPK
 have HP9 := hide hpk
 clear hpk
 go_wp2_with fail
 refine (HPK.out _ HQB.out).mono ?_
 rintro e w4 ⟨rfl, hq4⟩
 have HQ4 := hide hq4
 by_cases hz : pk = 0
 ·have dz : (pk == 0) = true := by simp [hz]
  have HVAL := hide (show roomR wd 9 n (packR (.mk 9 n f A len cap ps)) (ps.map (Lay.room wd)) = (0, 1) from by unfold roomR; simp [HP9.out, hz])
  have zz0 := (hq4.facts.1 _ 0 hs2).trans Z0.out
  have zz1 := (hq4.facts.1 _ 1 hs2).trans Z1.out
  have yy0 := (hq4.facts.2.1 _ 0 hs2).trans Y0.out
  have yy1 := (hq4.facts.2.1 _ 1 hs2).trans Y1.out
  have HQ5 := hide (HQ3.out.trans hq4)
  clear hz hq4 k0 k1 k2 k3 t0
  obtain ⟨s0, s1⟩ := set2c (v0 := .int .i64 (0)) (v1 := .int .i64 (1)) (zz0) (zz1)
  have S0 := hide s0
  have S1 := hide s1
  have HQS := hide (((HQ5.out).set (p := ⟨W.heap.size + 2, 0, none⟩) (by simp) (.int .i64 (0))).set (p := ⟨W.heap.size + 2, 1, none⟩) (by simp) (.int .i64 (1)))
  have z0 := zz0
  have z1 := zz1
  have y0 := yy0
  have y1 := yy1
  clear s0 s1
  go_wp2_with fail
  have s0 := S0.out
  have s1 := S1.out
  refine bodyPost_ret (v := .agg #[.int .i64 (0), .int .i64 (1)]) (by simp [results, Try.results50, go_sem, s0, s1]) rfl ?_
  exact ⟨by rw [HRM.out, HVAL.out], HQS.out⟩
 ·have dz : (pk == 0) = false := by simp [hz]
  obtain ⟨s, hs⟩ : ∃ s, whB pk = s := ⟨_, rfl⟩
  obtain ⟨mn, hmin⟩ : ∃ mn, min s wd = mn := ⟨_, rfl⟩
  have HVAL := hide (show roomR wd 9 n (packR (.mk 9 n f A len cap ps)) (ps.map (Lay.room wd)) = (s, mn) from by unfold roomR; simp [HP9.out, hz, hs, hmin])
  have HWH := hide (fun W' => whole05_any pk wd hw hp64 (by omega) W')
  unfold R1 at HWH
  rw [hs, hmin] at HWH
  have HQ4B := hide (HQB.out.trans hq4)
  have k0 := (hq4.facts.1 _ 0 hs0).trans k0
  have k1 := (hq4.facts.1 _ 1 hs0).trans k1
  have k2 := (hq4.facts.1 _ 2 hs0).trans k2
  have k3 := (hq4.facts.1 _ 3 hs0).trans k3
  have t0 := (hq4.facts.1 _ 0 hs1).trans t0
  have kbc := (hq4.below.block _ hs2).trans KB.out
  have hs0c : W.heap.size < w4.heap.size := Nat.lt_of_lt_of_le hs0 hq4.size
  have hs1c : W.heap.size + 1 < w4.heap.size := Nat.lt_of_lt_of_le hs1 hq4.size
  have hs2c : W.heap.size + 2 < w4.heap.size := Nat.lt_of_lt_of_le hs2 hq4.size
  have HQ34 := hide (HQ3.out.trans hq4)
  have KBC := hide kbc
  clear hz hs hmin hq4
  go_upto_region 33 with fail
  refine Ri.made_last (Ri.phi [Ri.isV (.agg #[.int .i64 9, .int .i64 n, .bool f, .slice A len cap]), Ri.isV (.int .i64 pk), Ri.isV (.pointer (some ⟨W.heap.size + 1, 0, none⟩)), Ri.isV (.int .i64 wd), Ri.isV (rmV (s, mn))]) (by kernel_rfl) (by kernel_rfl) rfl (by kernel_rfl) rfl (Ri.phi_mono ?_) ?_ ?_
  ·repeat' first | exact trivial | exact fun _ _ _ h _ => h | refine ⟨?_, ?_⟩
  ·refine Ri.All.cons ?_ (.cons ?_ (.cons ?_ (.cons ?_ (.cons ?_ (Ri.All.nil)))))
   ·refine ⟨rfl, fun f9 W9 hq hf A9 hA hB hO => ?_⟩
    have e1 := (hB 2).trans (show _ = .pointer (some ⟨W.heap.size, 0, none⟩) by simp [Act.eval])
    exact Ri.wp_value _ (Ri.run_ldagg (cs := [.int .i64 9, .int .i64 n, .bool f, .slice A len cap]) rfl e1 (c4L ((hq.facts.1 _ 0 hs0c).trans k0) ((hq.facts.1 _ 1 hs0c).trans k1) ((hq.facts.1 _ 2 hs0c).trans k2) ((hq.facts.1 _ 3 hs0c).trans k3)) Try.underlying24 rfl (by kernel_rfl)) rfl
   ·refine ⟨rfl, fun f9 W9 hq hf A9 hA hB hO => ?_⟩
    have e1 := (hA 128 0).trans (hf 0)
    refine Ri.wp_call #[.agg #[.int .i64 9, .int .i64 n, .bool f, .slice A len cap]] rfl (by simp [e1]) Try.func80 (by kernel_rfl) (by kernel_rfl) ((HPK.out W9 (HQ4B.out.trans ((Q.refl _).drew.trans hq))).mono ?_)
    rintro e w9 ⟨rfl, h1⟩
    exact ⟨_, rfl, h1, rfl⟩
   ·refine ⟨rfl, fun f9 W9 hq hf A9 hA hB hO => ?_⟩
    have e1 := (hB 3).trans (show _ = .pointer (some ⟨W.heap.size + 1, 0, none⟩) by simp [Act.eval])
    exact Ri.wp_value _ (Ri.run_fld (f := _) rfl e1 Try.underlying26 rfl (sz := 0) (by kernel_rfl)) rfl
   ·refine ⟨rfl, fun f9 W9 hq hf A9 hA hB hO => ?_⟩
    have e1 := (hA 130 2).trans (hf 2)
    exact Ri.wp_value _ (Ri.run_ld1 rfl e1 Try.underlying3 rfl ((hq.facts.1 _ 0 hs1c).trans t0)) rfl
   ·refine ⟨rfl, fun f9 W9 hq hf A9 hA hB hO => ?_⟩
    have e1 := (hA 129 1).trans (hf 1)
    have e2 := (hA 131 3).trans (hf 3)
    refine Ri.wp_call #[.int .i64 pk, .int .i64 wd] rfl (by simp [e1, e2]) Try.func77 (by kernel_rfl) (by kernel_rfl) ((HWH.out W9).mono ?_)
    rintro e w9 ⟨rfl, h1⟩
    exact ⟨_, rfl, h1, rfl⟩
  ·intro f9 W2 hq hf A9 hAe hA hB
   have e1 := (hB 4).trans (show _ = .pointer (some ⟨W.heap.size + 2, 0, none⟩) by simp [Act.eval])
   have e2 := (hA 132 4).trans (hf 4)
   refine wp_store_row _ _ _ rfl _ _ e1 e2 _ _ ((hq.below.block _ hs2c).trans kbc) (by kernel_rfl) rfl (by simp [Value.oneCell']) ⟨undef, rfl, ?_⟩
   rw [hAe]
   simp only [Ri.acts, Act.put, List.setIfInBounds_toArray, List.set_cons_zero, List.set_cons_succ, Nat.zero_add, Nat.reduceAdd]
   have HXW := hide hq
   clear hA hB hAe e1 e2 hf hq
   clear k0 k1 k2 k3 t0 kbc
   have HGR := hide ((HXW.out.below.block _ hs2c).trans KBC.out)
   have HQS := hide ((HQ34.out.trans HXW.out).setRow (g := W.heap.size + 2) (by omega) #[.int .i64 (s), .int .i64 (mn)])
   have s0 : (W2.setRow (W.heap.size + 2) #[.int .i64 (s), .int .i64 (mn)]).cell? ⟨W.heap.size + 2, 0, none⟩ = some (.int .i64 (s)) := (cell_setRow_same _ _ 0 _ _ _ _ HGR.out).trans rfl
   have s1 : (W2.setRow (W.heap.size + 2) #[.int .i64 (s), .int .i64 (mn)]).cell? ⟨W.heap.size + 2, 1, none⟩ = some (.int .i64 (mn)) := (cell_setRow_same _ _ 1 _ _ _ _ HGR.out).trans rfl
   go_wp2_with fail
   refine bodyPost_ret (v := .agg #[.int .i64 (s), .int .i64 (mn)]) (by simp [results, Try.results50, go_sem, s0, s1]) rfl ?_
   exact ⟨by rw [HRM.out, HVAL.out], HQS.out⟩
theorem plcP4 {w : World} {k n : Int} {f : Bool} {A : Option Addr} {len cap : Nat} {ps : List Lay} (h : LayR w (.mk k n f A len cap ps)) (hv : VL (.mk k n f A len cap ps)) (wd : Int) (b : Bool) (hw : wd = 2 ∨ wd = 4 ∨ wd = 8) (hp : ∀ p ∈ ps, ∀ W, Q w W → Calls Try.prog 50 #[p.v, tgW wd b] W (R1 W (rmV (p.room wd)))) (hr : ∀ p ∈ ps, isA (p.room wd).2 ∧ 0 ≤ (p.room wd).1 ∧ (p.room wd).1 ≤ 1088000000000) (hz : ((Lay.mk k n f A len cap ps).room wd).1 ≤ 1088000000000) (hk : k = 4) : ∀ W, Q w W → Calls Try.prog 50 #[(Lay.mk k n f A len cap ps).v, tgW wd b] W (R1 W (rmV ((Lay.mk k n f A len cap ps).room wd))) := by
 subst hk
 intro W hqW
 unfold R1
 have HRM := hide (room_mk wd 4 n f A len cap ps)
 have HLEN := hide hv.len
 have HKIND := hide hv.kind
 have HSL : Hid (Sl 4 encL w A len cap ps) := by cases h with | @mk _ _ _ _ _ _ _ hk hn hsl hnil hcap hall => exact hide hsl
 have HPP := hide hp
 have HRR := hide hr
 have HZZ := hide hz
 have HVL := hide hv
 have HQW := hide hqW
 show Calls _ _ #[.agg #[.int .i64 4, .int .i64 n, .bool f, .slice A len cap], .agg #[.int .i64 wd, .bool b]] W _
 obtain ⟨w3, hw3⟩ : ∃ w3, ((W.alloc (.cells #[.int .i64 4, .int .i64 n, .bool f, .slice A len cap] 24)).alloc (.cells #[.int .i64 wd, .bool b] 26)).alloc (.cells #[.int .i64 0, .int .i64 0] 86) = w3 := ⟨_, rfl⟩
 obtain ⟨hq3, hs3, hc, hd, he⟩ := box3 hw3
 have hs0 : W.heap.size < w3.heap.size := by omega
 have hs1 : W.heap.size + 1 < w3.heap.size := by omega
 have hs2 : W.heap.size + 2 < w3.heap.size := by omega
 have K0 := hide (show w3.cell? ⟨W.heap.size, 0, none⟩ = some (.int .i64 4) from hc 0 _ rfl)
 have K1 := hide (show w3.cell? ⟨W.heap.size, 1, none⟩ = some (.int .i64 n) from hc 1 _ rfl)
 have K2 := hide (show w3.cell? ⟨W.heap.size, 2, none⟩ = some (.bool f) from hc 2 _ rfl)
 have K3 := hide (show w3.cell? ⟨W.heap.size, 3, none⟩ = some (.slice A len cap) from hc 3 _ rfl)
 have T0 := hide (show w3.cell? ⟨W.heap.size + 1, 0, none⟩ = some (.int .i64 wd) from hd 0 _ rfl)
 have T1 := hide (show w3.cell? ⟨W.heap.size + 1, 1, none⟩ = some (.bool b) from hd 1 _ rfl)
 have Z0 := hide (show w3.cell? ⟨W.heap.size + 2, 0, none⟩ = some (.int .i64 0) from he 0 _ rfl)
 have Z1 := hide (show w3.cell? ⟨W.heap.size + 2, 1, none⟩ = some (.int .i64 0) from he 1 _ rfl)
 have kb : w3.heap[W.heap.size + 2]? = some (.cells #[.int .i64 0, .int .i64 0] 86 (0, 0)) := by
  have h9 := heap_alloc_new ((W.alloc (.cells #[.int .i64 4, .int .i64 n, .bool f, .slice A len cap] 24)).alloc (.cells #[.int .i64 wd, .bool b] 26)) (.cells #[.int .i64 0, .int .i64 0] 86)
  rw [hw3] at h9
  simpa using h9
 have Y0 := hide (frz_new (j := 0) kb)
 have Y1 := hide (frz_new (j := 1) kb)
 have KB := hide kb
 have HW3 := hide hw3
 have HQ3 := hide hq3
 have HQB := hide (hqW.trans hq3)
 clear h hv hp hr hz hqW hw3 hq3 hc hd he kb
 go_enter Try.func50, Try.ntmps50
 go_upto_region 1 with fail
 rw [HW3.out]
 have k0 := K0.out
 have k3 := K3.out
 have t0 := T0.out
 have t1 := T1.out
 have hlen1 : len = 1 := by
  have h9 := HKIND.out.2.2.1
  unfold numL at h9
  rw [if_pos (by omega), decide_eq_true_eq] at h9
  have := HSL.out.len
  omega
 obtain ⟨g, o, m', x', y', B, l', d', qs, e, hb, hx, z0, z1, z2, z3⟩ := lay_at HSL.out (show 0 < len by omega)
 cases e
 obtain ⟨p, hpe⟩ : ∃ p, Lay.mk m' x' y' B l' d' qs = p := ⟨_, rfl⟩
 have hpv : p.v = .agg #[.int .i64 m', .int .i64 x', .bool y', .slice B l' d'] := by rw [← hpe]; rfl
 rw [hpe] at hx
 have hpm := List.mem_of_getElem? hx
 obtain ⟨sz, hsz⟩ : ∃ sz, (p.room wd).1 = sz := ⟨_, rfl⟩
 obtain ⟨al, hal⟩ : ∃ al, (p.room wd).2 = al := ⟨_, rfl⟩
 have hrm : p.room wd = (sz, al) := by rw [← hsz, ← hal]
 have hhd : (ps.map (Lay.room wd)).headD (0, 1) = (sz, al) := by
  cases ps with
  | nil => simp at hx
  | cons a r =>
   injection hx with hx
   subst hx
   simpa using hrm
 have HC := hide (HPP.out p hpm)
 rw [hpv, hrm] at HC
 have hro := HRR.out p hpm
 rw [hsz, hal] at hro
 obtain ⟨haA, hs0z, hsCap⟩ := hro
 have HBQ := hide hb
 have HL1 := hide hlen1
 have HZ0 := hide z0
 have HZ1 := hide z1
 have HZ2 := hide z2
 have HZ3 := hide z3
 clear hx hpe hpv hpm hsz hal hrm z0 z1 z2 z3 hlen1
 obtain ⟨u, hu⟩ : ∃ u, upI (sz + 1) al = u := ⟨_, rfl⟩
 have HVAL := hide (show roomR wd 4 n (packR (.mk 4 n f (some ⟨g, o, none⟩) len cap ps)) (ps.map (Lay.room wd)) = (u, al) from by
  unfold roomR
  rw [if_neg (by decide), if_neg (by decide), if_neg (by decide), if_pos rfl, hhd]
  simp [hu])
 clear hhd
 go_upto_region 11 with fail
 refine Ri.made_last (Ri.phi [Ri.isV (.pointer (some ⟨W.heap.size, 3, none⟩)), Ri.isV (.slice (some ⟨g, o, none⟩) len cap), Ri.isV (.pointer (some ⟨g, o + 0 * 4, none⟩)), Ri.isV (.agg #[.int .i64 m', .int .i64 x', .bool y', .slice B l' d']), Ri.isV (tgW wd b), Ri.isV (rmV (sz, al)), (NewP w3.heap.size)]) (by kernel_rfl) (by kernel_rfl) rfl (by kernel_rfl) rfl (Ri.phi_mono ?_) ?_ ?_
 ·repeat' first | exact trivial | exact fun _ _ _ h _ => h | exact newP_q _ | refine ⟨?_, ?_⟩
 ·refine Ri.All.cons ?_ (.cons ?_ (.cons ?_ (.cons ?_ (.cons ?_ (.cons ?_ (.cons ?_ (Ri.All.nil)))))))
  ·refine ⟨rfl, fun f9 W9 hq hf A9 hA hB hO => ?_⟩
   have e1 := (hB 2).trans (show _ = .pointer (some ⟨W.heap.size, 0, none⟩) by simp [Act.eval])
   exact Ri.wp_value _ (Ri.run_fld (f := _) rfl e1 Try.underlying24 rfl (sz := 0) (by kernel_rfl)) rfl
  ·refine ⟨rfl, fun f9 W9 hq hf A9 hA hB hO => ?_⟩
   have e1 := (hA 36 0).trans (hf 0)
   exact Ri.wp_value _ (Ri.run_ld1 rfl e1 Try.underlying22 rfl ((hq.facts.1 _ 3 hs0).trans k3)) rfl
  ·refine ⟨rfl, fun f9 W9 hq hf A9 hA hB hO => ?_⟩
   have e1 := (hA 37 1).trans (hf 1)
   have e2 : A9.eval (.const (.int .i64 0)) = .int .i64 ((0 : Nat) : Int) := rfl
   exact Ri.wp_value _ (Ri.run_idx rfl e1 e2 Try.underlying22 (sz := 4) (by kernel_rfl) (by have := HL1.out; omega)) rfl
  ·refine ⟨rfl, fun f9 W9 hq hf A9 hA hB hO => ?_⟩
   have e1 := (hA 38 2).trans (hf 2)
   have hqw := HQB.out.trans ((Q.refl _).drew.trans hq)
   exact Ri.wp_value _ (Ri.run_ldagg (cs := [.int .i64 m', .int .i64 x', .bool y', .slice B l' d']) rfl e1 (c4G ((hqw.facts.1 _ _ HBQ.out).trans HZ0.out) ((hqw.facts.1 _ _ HBQ.out).trans HZ1.out) ((hqw.facts.1 _ _ HBQ.out).trans HZ2.out) ((hqw.facts.1 _ _ HBQ.out).trans HZ3.out)) Try.underlying24 rfl (by kernel_rfl)) rfl
  ·refine ⟨rfl, fun f9 W9 hq hf A9 hA hB hO => ?_⟩
   have e1 := (hB 3).trans (show _ = .pointer (some ⟨W.heap.size + 1, 0, none⟩) by simp [Act.eval])
   exact Ri.wp_value _ (Ri.run_ldagg (cs := [.int .i64 wd, .bool b]) rfl e1 (c2L ((hq.facts.1 _ 0 hs1).trans t0) ((hq.facts.1 _ 1 hs1).trans t1)) Try.underlying26 rfl (by kernel_rfl)) rfl
  ·refine ⟨rfl, fun f9 W9 hq hf A9 hA hB hO => ?_⟩
   have e1 := (hA 39 3).trans (hf 3)
   have e2 := (hA 40 4).trans (hf 4)
   refine Ri.wp_call #[.agg #[.int .i64 m', .int .i64 x', .bool y', .slice B l' d'], tgW wd b] rfl (by simp [e1, e2]) Try.func50 (by kernel_rfl) (by kernel_rfl) ((HC.out W9 (HQB.out.trans ((Q.refl _).drew.trans hq))).mono ?_)
   rintro e w9 ⟨rfl, h1⟩
   exact ⟨_, rfl, h1, rfl⟩
  ·refine ⟨rfl, fun f9 W9 hq hf A9 hA hB hO => ?_⟩
   exact Ri.wp_val _ (Ri.run_allocP rfl) ((Q.refl W9).alloc _) ⟨_, rfl, hq.size, by simp, heap_alloc_new W9 _⟩
 ·intro f9 W2 hq hf A9 hAe hA hB
  obtain ⟨q, hqe, hqb, hql, hqh⟩ : NewP w3.heap.size (f9 6) W2 := hf 6 (by simp)
  have e1 := (hA 5 6).trans hqe
  have e2 := (hA 41 5).trans (hf 5)
  refine wp_store_row _ _ _ rfl _ _ e1 e2 _ _ (hqh) (by kernel_rfl) rfl (by simp [Value.oneCell']) ⟨undef, rfl, ?_⟩
  rw [hAe]
  simp only [Ri.acts, Act.put, List.setIfInBounds_toArray, List.set_cons_zero, List.set_cons_succ, Nat.zero_add, Nat.reduceAdd]
  have HXW := hide hq
  have HQH := hide hqh
  have HQBB := hide hqb
  rw [hqe]
  clear hA hB hAe e1 e2 hf hq hqh hqe hqb
  have hqs0 : q < W2.heap.size := (Array.getElem?_eq_some_iff.1 HQH.out).1
  have hqne : W.heap.size + 2 ≠ q := by have := HQBB.out; omega
  obtain ⟨wr, hwr⟩ : ∃ wr, W2.setRow q #[.int .i64 sz, .int .i64 al] = wr := ⟨_, rfl⟩
  have hqs : q < wr.heap.size := by rw [← hwr]; simpa using hqs0
  have q0 : wr.cell? ⟨q, 0, none⟩ = some (.int .i64 sz) := by rw [← hwr]; exact (cell_setRow_same _ _ 0 _ _ _ _ HQH.out).trans rfl
  have q1 : wr.cell? ⟨q, 1, none⟩ = some (.int .i64 al) := by rw [← hwr]; exact (cell_setRow_same _ _ 1 _ _ _ _ HQH.out).trans rfl
  have kbr : wr.heap[W.heap.size + 2]? = some (.cells #[.int .i64 0, .int .i64 0] 86 (0, 0)) := by
   rw [← hwr, setRow_other _ _ _ _ hqne]
   exact (HXW.out.below.block _ hs2).trans KB.out
  have hs2r : W.heap.size + 2 < wr.heap.size := by
   rw [← hwr]
   have := HXW.out.size
   simp
   omega
  have HQR := hide (show Q W wr by rw [← hwr]; exact (HQ3.out.trans HXW.out).setRow (by have := HQBB.out; omega) _)
  have HQ3R := hide (show Q w3 wr by rw [← hwr]; exact (HXW.out).setRow (by have := HQBB.out; omega) _)
  have k1r := (HQ3R.out.facts.1 _ 1 hs0).trans K1.out
  have HWR := hide hwr
  clear k0 k3 t0 t1 hwr
  go_upto_region 12 with fail
  rw [HWR.out]
  refine Ri.made_last (Ri.phi [Ri.isV (.pointer (some ⟨q, 0, none⟩)), Ri.isV (.int .i64 sz), Ri.isV (.int .i64 (sz + 1)), Ri.isV (.pointer (some ⟨q, 1, none⟩)), Ri.isV (.int .i64 al), Ri.isV (.int .i64 u), Ri.isV (.pointer (some ⟨q, 1, none⟩)), Ri.isV (.int .i64 al), Ri.isV (.agg #[.int .i64 u, .int .i64 al])]) (by kernel_rfl) (by kernel_rfl) rfl (by kernel_rfl) rfl (Ri.phi_mono ?_) ?_ ?_
  ·repeat' first | exact trivial | exact fun _ _ _ h _ => h | refine ⟨?_, ?_⟩
  ·refine Ri.All.cons ?_ (.cons ?_ (.cons ?_ (.cons ?_ (.cons ?_ (.cons ?_ (.cons ?_ (.cons ?_ (.cons ?_ (Ri.All.nil)))))))))
   ·refine ⟨rfl, fun f9 W9 hq hf A9 hA hB hO => ?_⟩
    have e1 := (hB 5).trans (show _ = .pointer (some ⟨q, 0, none⟩) by simp [Act.eval])
    exact Ri.wp_value _ (Ri.run_fld (f := _) rfl e1 Try.underlying86 rfl (sz := 0) (by kernel_rfl)) rfl
   ·refine ⟨rfl, fun f9 W9 hq hf A9 hA hB hO => ?_⟩
    have e1 := (hA 42 0).trans (hf 0)
    exact Ri.wp_value _ (Ri.run_ld1 rfl e1 Try.underlying3 rfl ((hq.facts.1 _ 0 hqs).trans q0)) rfl
   ·refine ⟨rfl, fun f9 W9 hq hf A9 hA hB hO => ?_⟩
    have e1 := (hA 43 1).trans (hf 1)
    have e2 : A9.eval (.const (.int .i64 1)) = .int .i64 1 := rfl
    exact Ri.wp_value _ (Ri.run_add rfl e1 e2 Try.underlying3 (by omega) (by omega)) rfl
   ·refine ⟨rfl, fun f9 W9 hq hf A9 hA hB hO => ?_⟩
    have e1 := (hB 5).trans (show _ = .pointer (some ⟨q, 0, none⟩) by simp [Act.eval])
    exact Ri.wp_value _ (Ri.run_fld (f := _) rfl e1 Try.underlying86 rfl (sz := 0) (by kernel_rfl)) rfl
   ·refine ⟨rfl, fun f9 W9 hq hf A9 hA hB hO => ?_⟩
    have e1 := (hA 45 3).trans (hf 3)
    exact Ri.wp_value _ (Ri.run_ld1 rfl e1 Try.underlying3 rfl ((hq.facts.1 _ 1 hqs).trans q1)) rfl
   ·refine ⟨rfl, fun f9 W9 hq hf A9 hA hB hO => ?_⟩
    have e1 := (hA 44 2).trans (hf 2)
    have e2 := (hA 46 4).trans (hf 4)
    have h9 := up05_any (sz + 1) al haA (by omega) (by omega) W9
    rw [hu] at h9
    refine Ri.wp_call #[.int .i64 (sz + 1), .int .i64 al] rfl (by simp [e1, e2]) Try.func78 (by kernel_rfl) (by kernel_rfl) (h9.mono ?_)
    rintro e w9 ⟨rfl, h1⟩
    exact ⟨_, rfl, h1, rfl⟩
   ·refine ⟨rfl, fun f9 W9 hq hf A9 hA hB hO => ?_⟩
    have e1 := (hB 5).trans (show _ = .pointer (some ⟨q, 0, none⟩) by simp [Act.eval])
    exact Ri.wp_value _ (Ri.run_fld (f := _) rfl e1 Try.underlying86 rfl (sz := 0) (by kernel_rfl)) rfl
   ·refine ⟨rfl, fun f9 W9 hq hf A9 hA hB hO => ?_⟩
    have e1 := (hA 48 6).trans (hf 6)
    exact Ri.wp_value _ (Ri.run_ld1 rfl e1 Try.underlying3 rfl ((hq.facts.1 _ 1 hqs).trans q1)) rfl
   ·refine ⟨rfl, fun f9 W9 hq hf A9 hA hB hO => ?_⟩
    have e1 := (hA 47 5).trans (hf 5)
    have e2 := (hA 49 7).trans (hf 7)
    exact Ri.wp_struct rfl [(0, .int .i64 u), (1, .int .i64 al)] (by simp [e1, e2]) (by kernel_rfl) rfl
  ·intro f9 W5 hq hf A9 hAe hA hB
   have e1 := (hB 4).trans (show _ = .pointer (some ⟨W.heap.size + 2, 0, none⟩) by simp [Act.eval])
   have e2 := (hA 50 8).trans (hf 8)
   refine wp_store_row _ _ _ rfl _ _ e1 e2 _ _ ((hq.below.block _ hs2r).trans kbr) (by kernel_rfl) rfl (by simp [Value.oneCell']) ⟨undef, rfl, ?_⟩
   rw [hAe]
   simp only [Ri.acts, Act.put, List.setIfInBounds_toArray, List.set_cons_zero, List.set_cons_succ, Nat.zero_add, Nat.reduceAdd]
   have HXW2 := hide hq
   clear hA hB hAe e1 e2 hf hq
   have HGR := hide ((HXW2.out.below.block _ hs2r).trans kbr)
   have HQS := hide ((HQR.out.trans HXW2.out).setRow (g := W.heap.size + 2) (by omega) #[.int .i64 (u), .int .i64 (al)])
   have s0 : (W5.setRow (W.heap.size + 2) #[.int .i64 (u), .int .i64 (al)]).cell? ⟨W.heap.size + 2, 0, none⟩ = some (.int .i64 (u)) := (cell_setRow_same _ _ 0 _ _ _ _ HGR.out).trans rfl
   have s1 : (W5.setRow (W.heap.size + 2) #[.int .i64 (u), .int .i64 (al)]).cell? ⟨W.heap.size + 2, 1, none⟩ = some (.int .i64 (al)) := (cell_setRow_same _ _ 1 _ _ _ _ HGR.out).trans rfl
   clear q0 q1 kbr
   go_wp2_with fail
   refine bodyPost_ret (v := .agg #[.int .i64 (u), .int .i64 (al)]) (by simp [results, Try.results50, go_sem, s0, s1]) rfl ?_
   exact ⟨by rw [HRM.out, HVAL.out], HQS.out⟩
theorem plcP5 {w : World} {k n : Int} {f : Bool} {A : Option Addr} {len cap : Nat} {ps : List Lay} (h : LayR w (.mk k n f A len cap ps)) (hv : VL (.mk k n f A len cap ps)) (wd : Int) (b : Bool) (hw : wd = 2 ∨ wd = 4 ∨ wd = 8) (hp : ∀ p ∈ ps, ∀ W, Q w W → Calls Try.prog 50 #[p.v, tgW wd b] W (R1 W (rmV (p.room wd)))) (hr : ∀ p ∈ ps, isA (p.room wd).2 ∧ 0 ≤ (p.room wd).1 ∧ (p.room wd).1 ≤ 1088000000000) (hz : ((Lay.mk k n f A len cap ps).room wd).1 ≤ 1088000000000) (hk : k = 5) : ∀ W, Q w W → Calls Try.prog 50 #[(Lay.mk k n f A len cap ps).v, tgW wd b] W (R1 W (rmV ((Lay.mk k n f A len cap ps).room wd))) := by
 subst hk
 intro W hqW
 unfold R1
 have HRM := hide (room_mk wd 5 n f A len cap ps)
 have HLEN := hide hv.len
 have HKIND := hide hv.kind
 have HSL : Hid (Sl 4 encL w A len cap ps) := by cases h with | @mk _ _ _ _ _ _ _ hk hn hsl hnil hcap hall => exact hide hsl
 have HPP := hide hp
 have HRR := hide hr
 have HZZ := hide hz
 have HVL := hide hv
 have HQW := hide hqW
 show Calls _ _ #[.agg #[.int .i64 5, .int .i64 n, .bool f, .slice A len cap], .agg #[.int .i64 wd, .bool b]] W _
 obtain ⟨w3, hw3⟩ : ∃ w3, ((W.alloc (.cells #[.int .i64 5, .int .i64 n, .bool f, .slice A len cap] 24)).alloc (.cells #[.int .i64 wd, .bool b] 26)).alloc (.cells #[.int .i64 0, .int .i64 0] 86) = w3 := ⟨_, rfl⟩
 obtain ⟨hq3, hs3, hc, hd, he⟩ := box3 hw3
 have hs0 : W.heap.size < w3.heap.size := by omega
 have hs1 : W.heap.size + 1 < w3.heap.size := by omega
 have hs2 : W.heap.size + 2 < w3.heap.size := by omega
 have K0 := hide (show w3.cell? ⟨W.heap.size, 0, none⟩ = some (.int .i64 5) from hc 0 _ rfl)
 have K1 := hide (show w3.cell? ⟨W.heap.size, 1, none⟩ = some (.int .i64 n) from hc 1 _ rfl)
 have K2 := hide (show w3.cell? ⟨W.heap.size, 2, none⟩ = some (.bool f) from hc 2 _ rfl)
 have K3 := hide (show w3.cell? ⟨W.heap.size, 3, none⟩ = some (.slice A len cap) from hc 3 _ rfl)
 have T0 := hide (show w3.cell? ⟨W.heap.size + 1, 0, none⟩ = some (.int .i64 wd) from hd 0 _ rfl)
 have T1 := hide (show w3.cell? ⟨W.heap.size + 1, 1, none⟩ = some (.bool b) from hd 1 _ rfl)
 have Z0 := hide (show w3.cell? ⟨W.heap.size + 2, 0, none⟩ = some (.int .i64 0) from he 0 _ rfl)
 have Z1 := hide (show w3.cell? ⟨W.heap.size + 2, 1, none⟩ = some (.int .i64 0) from he 1 _ rfl)
 have kb : w3.heap[W.heap.size + 2]? = some (.cells #[.int .i64 0, .int .i64 0] 86 (0, 0)) := by
  have h9 := heap_alloc_new ((W.alloc (.cells #[.int .i64 5, .int .i64 n, .bool f, .slice A len cap] 24)).alloc (.cells #[.int .i64 wd, .bool b] 26)) (.cells #[.int .i64 0, .int .i64 0] 86)
  rw [hw3] at h9
  simpa using h9
 have Y0 := hide (frz_new (j := 0) kb)
 have Y1 := hide (frz_new (j := 1) kb)
 have KB := hide kb
 have HW3 := hide hw3
 have HQ3 := hide hq3
 have HQB := hide (hqW.trans hq3)
 clear h hv hp hr hz hqW hw3 hq3 hc hd he kb
 go_enter Try.func50, Try.ntmps50
 go_upto_region 1 with fail
 rw [HW3.out]
 have k0 := K0.out
 have k3 := K3.out
 have t0 := T0.out
 have t1 := T1.out
 have hlen1 : len = 1 := by
  have h9 := HKIND.out.2.2.1
  unfold numL at h9
  rw [if_pos (by omega), decide_eq_true_eq] at h9
  have := HSL.out.len
  omega
 obtain ⟨g, o, m', x', y', B, l', d', qs, e, hb, hx, z0, z1, z2, z3⟩ := lay_at HSL.out (show 0 < len by omega)
 cases e
 obtain ⟨p, hpe⟩ : ∃ p, Lay.mk m' x' y' B l' d' qs = p := ⟨_, rfl⟩
 have hpv : p.v = .agg #[.int .i64 m', .int .i64 x', .bool y', .slice B l' d'] := by rw [← hpe]; rfl
 rw [hpe] at hx
 have hpm := List.mem_of_getElem? hx
 obtain ⟨sz, hsz⟩ : ∃ sz, (p.room wd).1 = sz := ⟨_, rfl⟩
 obtain ⟨al, hal⟩ : ∃ al, (p.room wd).2 = al := ⟨_, rfl⟩
 have hrm : p.room wd = (sz, al) := by rw [← hsz, ← hal]
 have hhd : (ps.map (Lay.room wd)).headD (0, 1) = (sz, al) := by
  cases ps with
  | nil => simp at hx
  | cons a r =>
   injection hx with hx
   subst hx
   simpa using hrm
 have HC := hide (HPP.out p hpm)
 rw [hpv, hrm] at HC
 have hro := HRR.out p hpm
 rw [hsz, hal] at hro
 obtain ⟨haA, hs0z, hsCap⟩ := hro
 have HBQ := hide hb
 have HL1 := hide hlen1
 have HZ0 := hide z0
 have HZ1 := hide z1
 have HZ2 := hide z2
 have HZ3 := hide z3
 clear hx hpe hpv hpm hsz hal hrm z0 z1 z2 z3 hlen1
 have hn0 : 0 ≤ n := by
  have h9 := HKIND.out.2.2.2
  unfold restL at h9
  rw [if_neg (by omega), if_pos rfl, decide_eq_true_eq] at h9
  exact h9
 have hn1 : n ≤ 1000 := HLEN.out.2.2.1 rfl
 obtain ⟨pr, hpr⟩ : ∃ pr, n * sz = pr := ⟨_, rfl⟩
 have hpr0 : 0 ≤ pr := by rw [← hpr]; exact Int.mul_nonneg hn0 hs0z
 have HVAL := hide (show roomR wd 5 n (packR (.mk 5 n f (some ⟨g, o, none⟩) len cap ps)) (ps.map (Lay.room wd)) = (pr, al) from by
  unfold roomR
  rw [if_neg (by decide), if_neg (by decide), if_neg (by decide), if_neg (by decide), if_pos rfl, hhd]
  simp [hpr])
 have hprC : pr ≤ 1088000000000 := by
  have h9 := HZZ.out
  rw [HRM.out, HVAL.out] at h9
  exact h9
 have hw1 : IntKind.i64.wrap (n * sz) = pr := by rw [hpr, IntKind.wrap_i64]; omega
 clear hhd hpr
 go_upto_region 14 with fail
 refine Ri.made_last (Ri.phi [Ri.isV (.pointer (some ⟨W.heap.size, 3, none⟩)), Ri.isV (.slice (some ⟨g, o, none⟩) len cap), Ri.isV (.pointer (some ⟨g, o + 0 * 4, none⟩)), Ri.isV (.agg #[.int .i64 m', .int .i64 x', .bool y', .slice B l' d']), Ri.isV (tgW wd b), Ri.isV (rmV (sz, al)), (NewP w3.heap.size)]) (by kernel_rfl) (by kernel_rfl) rfl (by kernel_rfl) rfl (Ri.phi_mono ?_) ?_ ?_
 ·repeat' first | exact trivial | exact fun _ _ _ h _ => h | exact newP_q _ | refine ⟨?_, ?_⟩
 ·refine Ri.All.cons ?_ (.cons ?_ (.cons ?_ (.cons ?_ (.cons ?_ (.cons ?_ (.cons ?_ (Ri.All.nil)))))))
  ·refine ⟨rfl, fun f9 W9 hq hf A9 hA hB hO => ?_⟩
   have e1 := (hB 2).trans (show _ = .pointer (some ⟨W.heap.size, 0, none⟩) by simp [Act.eval])
   exact Ri.wp_value _ (Ri.run_fld (f := _) rfl e1 Try.underlying24 rfl (sz := 0) (by kernel_rfl)) rfl
  ·refine ⟨rfl, fun f9 W9 hq hf A9 hA hB hO => ?_⟩
   have e1 := (hA 53 0).trans (hf 0)
   exact Ri.wp_value _ (Ri.run_ld1 rfl e1 Try.underlying22 rfl ((hq.facts.1 _ 3 hs0).trans k3)) rfl
  ·refine ⟨rfl, fun f9 W9 hq hf A9 hA hB hO => ?_⟩
   have e1 := (hA 54 1).trans (hf 1)
   have e2 : A9.eval (.const (.int .i64 0)) = .int .i64 ((0 : Nat) : Int) := rfl
   exact Ri.wp_value _ (Ri.run_idx rfl e1 e2 Try.underlying22 (sz := 4) (by kernel_rfl) (by have := HL1.out; omega)) rfl
  ·refine ⟨rfl, fun f9 W9 hq hf A9 hA hB hO => ?_⟩
   have e1 := (hA 55 2).trans (hf 2)
   have hqw := HQB.out.trans ((Q.refl _).drew.trans hq)
   exact Ri.wp_value _ (Ri.run_ldagg (cs := [.int .i64 m', .int .i64 x', .bool y', .slice B l' d']) rfl e1 (c4G ((hqw.facts.1 _ _ HBQ.out).trans HZ0.out) ((hqw.facts.1 _ _ HBQ.out).trans HZ1.out) ((hqw.facts.1 _ _ HBQ.out).trans HZ2.out) ((hqw.facts.1 _ _ HBQ.out).trans HZ3.out)) Try.underlying24 rfl (by kernel_rfl)) rfl
  ·refine ⟨rfl, fun f9 W9 hq hf A9 hA hB hO => ?_⟩
   have e1 := (hB 3).trans (show _ = .pointer (some ⟨W.heap.size + 1, 0, none⟩) by simp [Act.eval])
   exact Ri.wp_value _ (Ri.run_ldagg (cs := [.int .i64 wd, .bool b]) rfl e1 (c2L ((hq.facts.1 _ 0 hs1).trans t0) ((hq.facts.1 _ 1 hs1).trans t1)) Try.underlying26 rfl (by kernel_rfl)) rfl
  ·refine ⟨rfl, fun f9 W9 hq hf A9 hA hB hO => ?_⟩
   have e1 := (hA 56 3).trans (hf 3)
   have e2 := (hA 57 4).trans (hf 4)
   refine Ri.wp_call #[.agg #[.int .i64 m', .int .i64 x', .bool y', .slice B l' d'], tgW wd b] rfl (by simp [e1, e2]) Try.func50 (by kernel_rfl) (by kernel_rfl) ((HC.out W9 (HQB.out.trans ((Q.refl _).drew.trans hq))).mono ?_)
   rintro e w9 ⟨rfl, h1⟩
   exact ⟨_, rfl, h1, rfl⟩
  ·refine ⟨rfl, fun f9 W9 hq hf A9 hA hB hO => ?_⟩
   exact Ri.wp_val _ (Ri.run_allocP rfl) ((Q.refl W9).alloc _) ⟨_, rfl, hq.size, by simp, heap_alloc_new W9 _⟩
 ·intro f9 W2 hq hf A9 hAe hA hB
  obtain ⟨q, hqe, hqb, hql, hqh⟩ : NewP w3.heap.size (f9 6) W2 := hf 6 (by simp)
  have e1 := (hA 6 6).trans hqe
  have e2 := (hA 58 5).trans (hf 5)
  refine wp_store_row _ _ _ rfl _ _ e1 e2 _ _ (hqh) (by kernel_rfl) rfl (by simp [Value.oneCell']) ⟨undef, rfl, ?_⟩
  rw [hAe]
  simp only [Ri.acts, Act.put, List.setIfInBounds_toArray, List.set_cons_zero, List.set_cons_succ, Nat.zero_add, Nat.reduceAdd]
  have HXW := hide hq
  have HQH := hide hqh
  have HQBB := hide hqb
  rw [hqe]
  clear hA hB hAe e1 e2 hf hq hqh hqe hqb
  have hqs0 : q < W2.heap.size := (Array.getElem?_eq_some_iff.1 HQH.out).1
  have hqne : W.heap.size + 2 ≠ q := by have := HQBB.out; omega
  obtain ⟨wr, hwr⟩ : ∃ wr, W2.setRow q #[.int .i64 sz, .int .i64 al] = wr := ⟨_, rfl⟩
  have hqs : q < wr.heap.size := by rw [← hwr]; simpa using hqs0
  have q0 : wr.cell? ⟨q, 0, none⟩ = some (.int .i64 sz) := by rw [← hwr]; exact (cell_setRow_same _ _ 0 _ _ _ _ HQH.out).trans rfl
  have q1 : wr.cell? ⟨q, 1, none⟩ = some (.int .i64 al) := by rw [← hwr]; exact (cell_setRow_same _ _ 1 _ _ _ _ HQH.out).trans rfl
  have kbr : wr.heap[W.heap.size + 2]? = some (.cells #[.int .i64 0, .int .i64 0] 86 (0, 0)) := by
   rw [← hwr, setRow_other _ _ _ _ hqne]
   exact (HXW.out.below.block _ hs2).trans KB.out
  have hs2r : W.heap.size + 2 < wr.heap.size := by
   rw [← hwr]
   have := HXW.out.size
   simp
   omega
  have HQR := hide (show Q W wr by rw [← hwr]; exact (HQ3.out.trans HXW.out).setRow (by have := HQBB.out; omega) _)
  have HQ3R := hide (show Q w3 wr by rw [← hwr]; exact (HXW.out).setRow (by have := HQBB.out; omega) _)
  have k1r := (HQ3R.out.facts.1 _ 1 hs0).trans K1.out
  have HWR := hide hwr
  clear k0 k3 t0 t1 hwr
  have zz0 := cell_blkJ (j := 0) kbr rfl
  have zz1 := cell_blkJ (j := 1) kbr rfl
  have yy0 := frz_new (j := 0) kbr
  have yy1 := frz_new (j := 1) kbr
  clear kbr
  go_upto_region 15 with fail
  rw [HWR.out]
  obtain ⟨s0, s1⟩ := set2c (v0 := .int .i64 (pr)) (v1 := .int .i64 (al)) (zz0) (zz1)
  have S0 := hide s0
  have S1 := hide s1
  have HQS := hide (((HQR.out).set (p := ⟨W.heap.size + 2, 0, none⟩) (by simp) (.int .i64 (pr))).set (p := ⟨W.heap.size + 2, 1, none⟩) (by simp) (.int .i64 (al)))
  have z0 := zz0
  have z1 := zz1
  have y0 := yy0
  have y1 := yy1
  clear s0 s1
  go_wp2_with fail
  have s0 := S0.out
  have s1 := S1.out
  refine bodyPost_ret (v := .agg #[.int .i64 (pr), .int .i64 (al)]) (by simp [results, Try.results50, go_sem, s0, s1]) rfl ?_
  exact ⟨by rw [HRM.out, HVAL.out], HQS.out⟩
end Go.Proofs.Ytbgbalfhbficaaa
