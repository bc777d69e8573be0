/- Stand of the reference; Of at structs and unions, and of any layout. The errors of a layout on a target: plain. Sizes of any layout on any target, of both. open of the program; sized, structure, Offsets of the reference. Conditions: as each theorem says. -/
import Derived.Test.YtbgbalfhbficaaaCz8
namespace Go.Proofs.Ytbgbalfhbficaaa
set_option maxRecDepth 100000
set_option maxHeartbeats 2000000
open Go.RowKit
set_option linter.unusedVariables false
set_option linter.unusedSimpArgs false
theorem Stand_any {w : World} {A : Option Addr} {len cap : Nat} {ps : List Lay} (hsl : Sl 4 encL w A len cap ps) (hv : ps.length ≤ 12) (wd : Int) (b : Bool) (hp : ∀ p ∈ ps, ∀ W, Q w W → Calls Try.prog 50 #[p.v, tgW wd b] W (R1 W (rmV (p.room wd)))) (hr : ∀ p ∈ ps, isA (p.room wd).2 ∧ 0 ≤ (p.room wd).1 ∧ (p.room wd).1 ≤ 1088000000000) (hz : (standR (ps.map (Lay.room wd))).1 ≤ 1088000000000) : ∀ W, Q w W → Calls Try.prog 79 #[.slice A len cap, tgW wd b] W fun e w' => ∃ v, e = .returned (.tuple #[v, rmV (upI (standR (ps.map (Lay.room wd))).1 (standR (ps.map (Lay.room wd))).2, (standR (ps.map (Lay.room wd))).2)]) ∧ w'.ownsRow W.heap.size 3 1 v len ((offsTo (ps.map (Lay.room wd)) len).map (Value.int .i64)) ∧ Q W w' := by
 intro W hqW
 have hlen := hsl.len
 have HST := hide (stand_pre (rs := ps.map (Lay.room wd)) (C := 1088000000000) (fun r h => by
  obtain ⟨p, hpm, rfl⟩ := List.mem_map.1 h
  exact ⟨(hr p hpm).1, (hr p hpm).2.1⟩) hz)
 have HTK := hide (List.take_of_length_le (l := ps.map (Lay.room wd)) (i := len) (by simp [hlen]))
 have HSL := hide hsl
 have HPL := hide hlen
 have HPP := hide hp
 have HRR := hide hr
 have HRS : Hid (∀ (j : Nat) (p : Lay), ps[j]? = some p → (ps.map (Lay.room wd))[j]? = some (p.room wd)) := hide fun j p h => by rw [List.getElem?_map, h]; rfl
 have hl12 : len ≤ 12 := by omega
 show Calls _ _ #[.slice A len cap, .agg #[.int .i64 wd, .bool b]] W _
 obtain ⟨w3, hw3⟩ : ∃ w3, (W.alloc (.cells #[.int .i64 wd, .bool b] 26)).alloc (.cells #[.int .i64 0, .int .i64 0] 86) = w3 := ⟨_, rfl⟩
 obtain ⟨hq3, hs3, hd, he⟩ := box2 hw3
 have hs0 : W.heap.size < w3.heap.size := by omega
 have hs1 : W.heap.size + 1 < w3.heap.size := by omega
 have T0 := hide (show w3.cell? ⟨W.heap.size, 0, none⟩ = some (.int .i64 wd) from hd 0 _ rfl)
 have T1 := hide (show w3.cell? ⟨W.heap.size, 1, none⟩ = some (.bool b) from hd 1 _ rfl)
 have Z0 := hide (show w3.cell? ⟨W.heap.size + 1, 0, none⟩ = some (.int .i64 0) from he 0 _ rfl)
 have Z1 := hide (show w3.cell? ⟨W.heap.size + 1, 1, none⟩ = some (.int .i64 0) from he 1 _ rfl)
 have kb : w3.heap[W.heap.size + 1]? = some (.cells #[.int .i64 0, .int .i64 0] 86 (0, 0)) := by
  have h9 := heap_alloc_new (W.alloc (.cells #[.int .i64 wd, .bool b] 26)) (.cells #[.int .i64 0, .int .i64 0] 86)
  rw [hw3] at h9
  simpa using h9
 have Y0 := hide (frz_new (j := 0) kb)
 have Y1 := hide (frz_new (j := 1) kb)
 have KB := hide kb
 have HW3 := hide hw3
 have HQ3 := hide hq3
 have HQB := hide (hqW.trans hq3)
 clear hsl hv hp hr hz hqW hw3 hq3 hd he kb hlen
 obtain ⟨rs, hrs⟩ : ∃ rs, ps.map (Lay.room wd) = rs := ⟨_, rfl⟩
 rw [hrs] at HST HTK HRS ⊢
 clear hrs
 go_enter Try.func79, Try.ntmps79
 go_upto_region 1 with fail
 rw [HW3.out]
 go_wp2_with fail
 go_loopw [6, 7, 8, 9] (fun v6 v7 v8 v16 wr => ∃ j : Nat, j ≤ len ∧ v16 = .int .i64 j ∧ wr.ownsRow w3.heap.size 3 1 v6 j ((offsTo rs j).map (Value.int .i64)) ∧ v7 = .int .i64 (standR (rs.take j)).1 ∧ v8 = .int .i64 (standR (rs.take j)).2 ∧ Q w3 wr) (fun _ _ _ v16 _ => len - (intOf v16).toNat)
 case atStart => exact ⟨0, by omega, by go_num, World.ownsRow_nil _ _ _ _, rfl, rfl, Q.refl _⟩
 case round =>
  obtain ⟨j, hj, rfl, hown, rfl, rfl, hq⟩ := hrel
  obtain ⟨hcaA, hce0, hceC⟩ := HST.out j
  have HQ := hide hq
  by_cases hlt9 : j < len
  ·have hd1 : decide ((j : Int) < (len : Int)) = true := by simp; omega
   have hd0 : decide (j < len) = true := by simp; omega
   have hlti : (j : Int) < (len : Int) := by omega
   obtain ⟨g, o, m', x', y', B, l', d', qs, e, hb, hx, z0, z1, z2, z3⟩ := lay_at (HSL.out.up (HQB.out.trans hq)) hlt9
   cases e
   obtain ⟨p, hpe⟩ : ∃ p, Lay.mk m' x' y' B l' d' qs = p := ⟨_, rfl⟩
   have hpv : p.v = .agg #[.int .i64 m', .int .i64 x', .bool y', .slice B l' d'] := by rw [← hpe]; rfl
   rw [hpe] at hx
   have hpm := List.mem_of_getElem? hx
   have hxr := HRS.out j p hx
   obtain ⟨sz, hsz⟩ : ∃ sz, (p.room wd).1 = sz := ⟨_, rfl⟩
   obtain ⟨al, hal⟩ : ∃ al, (p.room wd).2 = al := ⟨_, rfl⟩
   have hrm : p.room wd = (sz, al) := by rw [← hsz, ← hal]
   rw [hrm] at hxr
   have hro := HRR.out p hpm
   rw [hsz, hal] at hro
   obtain ⟨haA, hs0z, hsCap⟩ := hro
   have hnx := stand_succ hxr
   have hof := offs_succ hxr
   obtain ⟨-, hne0, hneC⟩ := HST.out (j + 1)
   obtain ⟨ce, hce⟩ : ∃ ce, (standR (rs.take j)).1 = ce := ⟨_, rfl⟩
   obtain ⟨ca, hca⟩ : ∃ ca, (standR (rs.take j)).2 = ca := ⟨_, rfl⟩
   unfold stepS at hnx
   rw [hce, hca] at hnx
   rw [hce] at hof hce0 hceC
   rw [hca] at hcaA
   obtain ⟨hu1, hu2, hu3⟩ := haA.up hce0
   obtain ⟨pl, hpl⟩ : ∃ pl, upI ce al = pl := ⟨_, rfl⟩
   obtain ⟨na, hna⟩ : ∃ na, max ca al = na := ⟨_, rfl⟩
   dsimp only at hnx
   rw [hpl] at hnx hof hu1 hu2 hu3
   rw [hna] at hnx
   rw [hnx] at hne0 hneC
   dsimp only at hne0 hneC
   obtain ⟨en, hen⟩ : ∃ en, pl + sz = en := ⟨_, rfl⟩
   rw [hen] at hnx hne0 hneC
   have hpl0 := hu3
   have HSUM := hide (show min (pl + sz) 1099511627776 = en by omega)
   have HNA := hide hna
   have HPLU := hide hpl
   have HNX := hide hnx
   have HOF := hide hof
   have HOW := hide hown
   have hb := hb
   have u0 := (HQ.out.facts.1 _ 0 hs0).trans T0.out
   have u1 := (HQ.out.facts.1 _ 1 hs0).trans T1.out
   have hs0r : W.heap.size < wr.heap.size := Nat.lt_of_lt_of_le hs0 HQ.out.size
   have HC := hide (HPP.out p hpm)
   rw [hpv, hrm] at HC
   have HQBR := hide (HQB.out.trans HQ.out)
   have HLT := hide hlt9
   have hli : (len : Int) ≤ 12 := by omega
   rw [hce, hca]
   clear hx hpe hpv hpm hxr hsz hal hrm hnx hof hu1 hu2 hpl hna hen hq hown hce hca
   go_upto_region 6 with fail
   refine Ri.made_last (Ri.phi [Ri.isV (.slice (some ⟨g, o, none⟩) len cap), Ri.isV (.int .i64 ((j : Nat) : Int)), Ri.isV (.pointer (some ⟨g, o + j * 4, none⟩)), Ri.isV (.agg #[.int .i64 m', .int .i64 x', .bool y', .slice B l' d']), Ri.isV (tgW wd b), Ri.isV (rmV (sz, al)), (NewP wr.heap.size)]) (by kernel_rfl) (by kernel_rfl) rfl (by kernel_rfl) rfl (Ri.phi_mono ?_) ?_ ?_
   ·repeat' first | exact trivial | exact fun _ _ _ h _ => h | exact newP_q _ | refine ⟨?_, ?_⟩
   ·refine Ri.All.cons ?_ (.cons ?_ (.cons ?_ (.cons ?_ (.cons ?_ (.cons ?_ (.cons ?_ (Ri.All.nil)))))))
    ·refine ⟨rfl, fun f9 W9 hq hf A9 hA hB hO => ?_⟩
     have e1 := (hB 0).trans (show _ = .slice (some ⟨g, o, none⟩) len cap by simp [Act.eval])
     exact Ri.wp_value _ (Ri.run_mv rfl e1) rfl
    ·refine ⟨rfl, fun f9 W9 hq hf A9 hA hB hO => ?_⟩
     have e1 := (hB 9).trans (show _ = .int .i64 (j : Nat) by simp [Act.eval])
     exact Ri.wp_value _ (Ri.run_mv rfl e1) rfl
    ·refine ⟨rfl, fun f9 W9 hq hf A9 hA hB hO => ?_⟩
     have e1 := (hA 18 0).trans (hf 0)
     have e2 := (hA 19 1).trans (hf 1)
     exact Ri.wp_value _ (Ri.run_idx rfl e1 e2 Try.underlying22 (sz := 4) (by kernel_rfl) HLT.out) rfl
    ·refine ⟨rfl, fun f9 W9 hq hf A9 hA hB hO => ?_⟩
     have e1 := (hA 20 2).trans (hf 2)
     exact Ri.wp_value _ (Ri.run_ldagg (cs := [.int .i64 m', .int .i64 x', .bool y', .slice B l' d']) rfl e1 (c4G ((hq.facts.1 _ _ hb).trans z0) ((hq.facts.1 _ _ hb).trans z1) ((hq.facts.1 _ _ hb).trans z2) ((hq.facts.1 _ _ hb).trans z3)) Try.underlying24 rfl (by kernel_rfl)) rfl
    ·refine ⟨rfl, fun f9 W9 hq hf A9 hA hB hO => ?_⟩
     have e1 := (hB 3).trans (show _ = .pointer (some ⟨W.heap.size, 0, none⟩) by simp [Act.eval])
     exact Ri.wp_value _ (Ri.run_ldagg (cs := [.int .i64 wd, .bool b]) rfl e1 (c2L ((hq.facts.1 _ 0 hs0r).trans u0) ((hq.facts.1 _ 1 hs0r).trans u1)) Try.underlying26 rfl (by kernel_rfl)) rfl
    ·refine ⟨rfl, fun f9 W9 hq hf A9 hA hB hO => ?_⟩
     have e1 := (hA 21 3).trans (hf 3)
     have e2 := (hA 22 4).trans (hf 4)
     refine Ri.wp_call #[.agg #[.int .i64 m', .int .i64 x', .bool y', .slice B l' d'], tgW wd b] rfl (by simp [e1, e2]) Try.func50 (by kernel_rfl) (by kernel_rfl) ((HC.out W9 (HQBR.out.trans ((Q.refl _).drew.trans hq))).mono ?_)
     rintro e w9 ⟨rfl, h1⟩
     exact ⟨_, rfl, h1, rfl⟩
    ·refine ⟨rfl, fun f9 W9 hq hf A9 hA hB hO => ?_⟩
     exact Ri.wp_val _ (Ri.run_allocP rfl) ((Q.refl W9).alloc _) ⟨_, rfl, hq.size, by simp, heap_alloc_new W9 _⟩
   ·intro f9 W2 hq hf A9 hAe hA hB
    obtain ⟨wb, hqe, hqb, hql, hqh⟩ : NewP wr.heap.size (f9 6) W2 := hf 6 (by simp)
    have e1 := (hA 10 6).trans hqe
    have e2 := (hA 23 5).trans (hf 5)
    refine wp_store_row _ _ _ rfl _ _ e1 e2 _ _ (hqh) (by kernel_rfl) rfl (by simp [Value.oneCell']) ⟨undef, rfl, ?_⟩
    rw [hAe]
    simp only [Ri.acts, Act.put, List.setIfInBounds_toArray, List.set_cons_zero, List.set_cons_succ, Nat.zero_add, Nat.reduceAdd]
    have HXW := hide hq
    have HQH := hide hqh
    have HQBB := hide hqb
    rw [hqe]
    clear hA hB hAe e1 e2 hf hq hqh hqe hqb
    obtain ⟨w6, hw6⟩ : ∃ w6, W2.setRow wb #[.int .i64 sz, .int .i64 al] = w6 := ⟨_, rfl⟩
    have hbl6 : wb < w6.heap.size := by rw [← hw6]; simpa using hql
    have r0 : w6.cell? ⟨wb, 0, none⟩ = some (.int .i64 sz) := by rw [← hw6]; exact (cell_setRow_same _ _ 0 _ _ _ _ HQH.out).trans rfl
    have r1 : w6.cell? ⟨wb, 1, none⟩ = some (.int .i64 al) := by rw [← hw6]; exact (cell_setRow_same _ _ 1 _ _ _ _ HQH.out).trans rfl
    have hb6 : w6.heap[wb]? = some (.cells #[.int .i64 sz, .int .i64 al] 86 (0, 0)) := by rw [← hw6]; exact setRow_heap _ _ _ _ _ _ HQH.out
    have HB6 := hide hb6
    have HQR6 := hide (show Q wr w6 by rw [← hw6]; exact (HXW.out).setRow (by have := HQBB.out; omega) _)
    have HW6 := hide hw6
    clear hw6 hql hb6
    clear z0 z1 z2 z3 u0 u1
    have HQ6 := hide (HQ.out.trans HQR6.out)
    have hs36 := HQ6.out.size
    have HOW6 := hide (own_q HOW.out HQR6.out)
    have R0 := hide r0
    have R1' := hide r1
    have HUP := hide (up05_any ce al haA hce0 (by omega) w6)
    rw [HPLU.out] at HUP
    unfold R1 at HUP
    go_upto_region 7 with fail
    rw [HW6.out]
    go_wp2_with fail
    refine HUP.out.mono ?_
    rintro e w7 ⟨rfl, hq7⟩
    have HQ7 := hide (HQ6.out.trans hq7)
    have hs37 := HQ7.out.size
    have HOW7 := hide (own_q HOW6.out hq7)
    have hbl7 : wb < w7.heap.size := by have := hq7.size; omega
    have HB7 := hide ((hq7.below.block _ hbl6).trans HB6.out)
    clear hq7 r0 r1
    go_upto_region 9 with (at_builtin; refine wpList_app1g rfl El_int _ _ rfl rfl HOW7.out (by simp) rfl rfl ?_ ?_ ?_ ?_; (focus (simp [Value.oneCell'])); (focus omega); (focus omega); intro v8 w8 hown8 hg8; have HOW8 := hide hown8; have HG8 := hide hg8; clear hown8 hg8)
    have HQ8 := hide (q_grown HQ7.out HG8.out (fun k e => (HOW7.out.lt k e).1))
    have hb8 : w8.heap[wb]? = some (.cells #[.int .i64 sz, .int .i64 al] 86 (0, 0)) := (HG8.out.block wb hbl7 (fun e => by obtain ⟨cs, h9⟩ := own_blk HOW7.out e.symm; rw [HB7.out] at h9; cases h9)).trans HB7.out
    have r0 : w8.cell? ⟨wb, 0, none⟩ = some (.int .i64 sz) := cell_blkJ (j := 0) hb8 rfl
    have r1 : w8.cell? ⟨wb, 1, none⟩ = some (.int .i64 al) := cell_blkJ (j := 1) hb8 rfl
    have hwp : IntKind.i64.wrap (pl + sz) = en := by
     have h9 := HSUM.out
     rw [IntKind.wrap_i64]
     omega
    have hna := HNA.out
    clear hb8
    go_wp2_with fail
    go_roundw
    case rel => exact ⟨j + 1, by omega, by go_num, by rw [HOF.out, List.map_append]; exact HOW8.out, by rw [HNX.out], by rw [HNX.out], HQ8.out⟩
    case measure => simp [intOf] <;> omega
  ·have hd1 : decide ((j : Int) < (len : Int)) = false := by simp; omega
   have hd0 : decide (j < len) = false := by simp; omega
   obtain rfl : j = len := by omega
   have HOW := hide hown
   have htk : rs.take j = rs := HTK.out
   rw [htk] at hcaA hce0 hceC ⊢
   obtain ⟨ce, hce⟩ : ∃ ce, (standR rs).1 = ce := ⟨_, rfl⟩
   obtain ⟨ca, hca⟩ : ∃ ca, (standR rs).2 = ca := ⟨_, rfl⟩
   obtain ⟨fi, hfi⟩ : ∃ fi, upI ce ca = fi := ⟨_, rfl⟩
   rw [hce] at hce0 hceC
   rw [hca] at hcaA
   have HRES := hide (show (rmV (upI (standR rs).1 (standR rs).2, (standR rs).2)) = .agg #[.int .i64 fi, .int .i64 ca] by rw [hce, hca, hfi])
   have HUP := hide (fun W' => up05_any ce ca hcaA hce0 (by omega) W')
   rw [hfi] at HUP
   unfold R1 at HUP
   rw [hce, hca]
   clear htk hce hca hfi hown hq
   go_wp2_with fail
   refine (HUP.out _).mono ?_
   rintro e w5 ⟨rfl, hq5⟩
   have HQ5 := hide (HQ.out.trans hq5)
   have zz0 := (HQ5.out.facts.1 _ 0 hs1).trans Z0.out
   have zz1 := (HQ5.out.facts.1 _ 1 hs1).trans Z1.out
   have yy0 := (HQ5.out.facts.2.1 _ 0 hs1).trans Y0.out
   have yy1 := (HQ5.out.facts.2.1 _ 1 hs1).trans Y1.out
   obtain ⟨s0, s1⟩ := set2c (v0 := .int .i64 fi) (v1 := .int .i64 ca) zz0 zz1
   have S0 := hide s0
   have S1 := hide s1
   have HQS := hide (((HQ3.out.trans HQ5.out).set (p := ⟨W.heap.size + 1, 0, none⟩) (by simp) (.int .i64 fi)).set (p := ⟨W.heap.size + 1, 1, none⟩) (by simp) (.int .i64 ca))
   have HOW5 := hide (own_q HOW.out hq5)
   clear s0 s1 hq5
   go_wp2_with fail
   have s0 := S0.out
   have s1 := S1.out
   refine bodyPost_ret (v := .tuple #[u6, .agg #[.int .i64 fi, .int .i64 ca]]) (by simp [results, Try.results79, go_sem, s0, s1]) rfl ?_
   exact ⟨_, by rw [HRES.out], own_lower (own_set_low (own_set_low HOW5.out (by omega) _ _) (by omega) _ _) (by omega), HQS.out⟩
theorem plcP6 {w : World} {k n : Int} {f : Bool} {A : Option Addr} {len cap : Nat} {ps : List Lay} (h : LayR w (.mk k n f A len cap ps)) (hv : VL (.mk k n f A len cap ps)) (wd : Int) (b : Bool) (hw : wd = 2 ∨ wd = 4 ∨ wd = 8) (hp : ∀ p ∈ ps, ∀ W, Q w W → Calls Try.prog 50 #[p.v, tgW wd b] W (R1 W (rmV (p.room wd)))) (hr : ∀ p ∈ ps, isA (p.room wd).2 ∧ 0 ≤ (p.room wd).1 ∧ (p.room wd).1 ≤ 1088000000000) (hz : ((Lay.mk k n f A len cap ps).room wd).1 ≤ 1088000000000) (hk : k = 6) : ∀ W, Q w W → Calls Try.prog 50 #[(Lay.mk k n f A len cap ps).v, tgW wd b] W (R1 W (rmV ((Lay.mk k n f A len cap ps).room wd))) := by
 subst hk
 intro W hqW
 unfold R1
 have HRM := hide (room_mk wd 6 n f A len cap ps)
 have HLEN := hide hv.len
 have HKIND := hide hv.kind
 have HSL : Hid (Sl 4 encL w A len cap ps) := by cases h with | @mk _ _ _ _ _ _ _ hk hn hsl hnil hcap hall => exact hide hsl
 have HPP := hide hp
 have HRR := hide hr
 have HZZ := hide hz
 have HVL := hide hv
 have HQW := hide hqW
 show Calls _ _ #[.agg #[.int .i64 6, .int .i64 n, .bool f, .slice A len cap], .agg #[.int .i64 wd, .bool b]] W _
 obtain ⟨w3, hw3⟩ : ∃ w3, ((W.alloc (.cells #[.int .i64 6, .int .i64 n, .bool f, .slice A len cap] 24)).alloc (.cells #[.int .i64 wd, .bool b] 26)).alloc (.cells #[.int .i64 0, .int .i64 0] 86) = w3 := ⟨_, rfl⟩
 obtain ⟨hq3, hs3, hc, hd, he⟩ := box3 hw3
 have hs0 : W.heap.size < w3.heap.size := by omega
 have hs1 : W.heap.size + 1 < w3.heap.size := by omega
 have hs2 : W.heap.size + 2 < w3.heap.size := by omega
 have K0 := hide (show w3.cell? ⟨W.heap.size, 0, none⟩ = some (.int .i64 6) from hc 0 _ rfl)
 have K1 := hide (show w3.cell? ⟨W.heap.size, 1, none⟩ = some (.int .i64 n) from hc 1 _ rfl)
 have K2 := hide (show w3.cell? ⟨W.heap.size, 2, none⟩ = some (.bool f) from hc 2 _ rfl)
 have K3 := hide (show w3.cell? ⟨W.heap.size, 3, none⟩ = some (.slice A len cap) from hc 3 _ rfl)
 have T0 := hide (show w3.cell? ⟨W.heap.size + 1, 0, none⟩ = some (.int .i64 wd) from hd 0 _ rfl)
 have T1 := hide (show w3.cell? ⟨W.heap.size + 1, 1, none⟩ = some (.bool b) from hd 1 _ rfl)
 have Z0 := hide (show w3.cell? ⟨W.heap.size + 2, 0, none⟩ = some (.int .i64 0) from he 0 _ rfl)
 have Z1 := hide (show w3.cell? ⟨W.heap.size + 2, 1, none⟩ = some (.int .i64 0) from he 1 _ rfl)
 have kb : w3.heap[W.heap.size + 2]? = some (.cells #[.int .i64 0, .int .i64 0] 86 (0, 0)) := by
  have h9 := heap_alloc_new ((W.alloc (.cells #[.int .i64 6, .int .i64 n, .bool f, .slice A len cap] 24)).alloc (.cells #[.int .i64 wd, .bool b] 26)) (.cells #[.int .i64 0, .int .i64 0] 86)
  rw [hw3] at h9
  simpa using h9
 have Y0 := hide (frz_new (j := 0) kb)
 have Y1 := hide (frz_new (j := 1) kb)
 have KB := hide kb
 have HW3 := hide hw3
 have HQ3 := hide hq3
 have HQB := hide (hqW.trans hq3)
 clear h hv hp hr hz hqW hw3 hq3 hc hd he kb
 go_enter Try.func50, Try.ntmps50
 go_upto_region 1 with fail
 rw [HW3.out]
 have k0 := K0.out
 have k3 := K3.out
 have t0 := T0.out
 have t1 := T1.out
 obtain ⟨fi, hfi⟩ : ∃ fi, upI (standR (ps.map (Lay.room wd))).1 (standR (ps.map (Lay.room wd))).2 = fi := ⟨_, rfl⟩
 obtain ⟨ca, hca⟩ : ∃ ca, (standR (ps.map (Lay.room wd))).2 = ca := ⟨_, rfl⟩
 have HVAL := hide (show roomR wd 6 n (packR (.mk 6 n f A len cap ps)) (ps.map (Lay.room wd)) = (fi, ca) from by
  unfold roomR
  rw [if_neg (by decide), if_neg (by decide), if_neg (by decide), if_neg (by decide), if_neg (by decide), if_pos rfl, hfi, hca])
 have hst : (standR (ps.map (Lay.room wd))).1 ≤ 1088000000000 := by
  have h9 := HZZ.out
  rw [HRM.out, HVAL.out] at h9
  have h8 := stand_mono (ps.map (Lay.room wd)) (0, 1) (fun r h => by
   obtain ⟨p, hpm, rfl⟩ := List.mem_map.1 h
   exact ⟨(HRR.out p hpm).1, (HRR.out p hpm).2.1⟩) isA.one (by simp)
  have h7 := h8.2.1.up h8.2.2
  have h6 : upI ((ps.map (Lay.room wd)).foldl stepS (0, 1)).1 ((ps.map (Lay.room wd)).foldl stepS (0, 1)).2 = fi := hfi
  rw [h6] at h7
  exact Int.le_trans h7.1 h9
 have HPL := hide (Stand_any HSL.out HLEN.out.1 wd b HPP.out HRR.out hst w3 HQB.out)
 rw [hfi, hca] at HPL
 clear hfi hca hst
 go_wp2_with fail
 refine HPL.out.mono ?_
 rintro e w5 ⟨v, rfl, hown, hq5⟩
 clear k0 k3 t0 t1
 obtain ⟨w6, hw6⟩ : ∃ w6, w5.alloc (.cells #[.int .i64 fi, .int .i64 ca] 86) = w6 := ⟨_, rfl⟩
 obtain ⟨hq6, hs6, hc6⟩ := box1 hw6
 have r0 := hc6 0 _ rfl
 have r1 := hc6 1 _ rfl
 have hq36 := hq5.trans hq6
 have zz0 := (hq36.facts.1 _ 0 hs2).trans Z0.out
 have zz1 := (hq36.facts.1 _ 1 hs2).trans Z1.out
 have yy0 := (hq36.facts.2.1 _ 0 hs2).trans Y0.out
 have yy1 := (hq36.facts.2.1 _ 1 hs2).trans Y1.out
 have HQ6 := hide (HQ3.out.trans hq36)
 have HW6 := hide hw6
 clear hq5 hq6 hw6 hc6 hq36 hown
 go_upto_region 18 with fail
 rw [HW6.out]
 obtain ⟨s0, s1⟩ := set2c (v0 := .int .i64 (fi)) (v1 := .int .i64 (ca)) (zz0) (zz1)
 have S0 := hide s0
 have S1 := hide s1
 have HQS := hide (((HQ6.out).set (p := ⟨W.heap.size + 2, 0, none⟩) (by simp) (.int .i64 (fi))).set (p := ⟨W.heap.size + 2, 1, none⟩) (by simp) (.int .i64 (ca)))
 have z0 := zz0
 have z1 := zz1
 have y0 := yy0
 have y1 := yy1
 clear s0 s1
 go_wp2_with fail
 have s0 := S0.out
 have s1 := S1.out
 refine bodyPost_ret (v := .agg #[.int .i64 (fi), .int .i64 (ca)]) (by simp [results, Try.results50, go_sem, s0, s1]) rfl ?_
 exact ⟨by rw [HRM.out, HVAL.out], HQS.out⟩
theorem plcP8 {w : World} {k n : Int} {f : Bool} {A : Option Addr} {len cap : Nat} {ps : List Lay} (h : LayR w (.mk k n f A len cap ps)) (hv : VL (.mk k n f A len cap ps)) (wd : Int) (b : Bool) (hw : wd = 2 ∨ wd = 4 ∨ wd = 8) (hp : ∀ p ∈ ps, ∀ W, Q w W → Calls Try.prog 50 #[p.v, tgW wd b] W (R1 W (rmV (p.room wd)))) (hr : ∀ p ∈ ps, isA (p.room wd).2 ∧ 0 ≤ (p.room wd).1 ∧ (p.room wd).1 ≤ 1088000000000) (hz : ((Lay.mk k n f A len cap ps).room wd).1 ≤ 1088000000000) (hk : k = 8) : ∀ W, Q w W → Calls Try.prog 50 #[(Lay.mk k n f A len cap ps).v, tgW wd b] W (R1 W (rmV ((Lay.mk k n f A len cap ps).room wd))) := by
 subst hk
 intro W hqW
 unfold R1
 have HRM := hide (room_mk wd 8 n f A len cap ps)
 have HLEN := hide hv.len
 have HKIND := hide hv.kind
 have HSL : Hid (Sl 4 encL w A len cap ps) := by cases h with | @mk _ _ _ _ _ _ _ hk hn hsl hnil hcap hall => exact hide hsl
 have HPP := hide hp
 have HRR := hide hr
 have HZZ := hide hz
 have HVL := hide hv
 have HQW := hide hqW
 show Calls _ _ #[.agg #[.int .i64 8, .int .i64 n, .bool f, .slice A len cap], .agg #[.int .i64 wd, .bool b]] W _
 obtain ⟨w3, hw3⟩ : ∃ w3, ((W.alloc (.cells #[.int .i64 8, .int .i64 n, .bool f, .slice A len cap] 24)).alloc (.cells #[.int .i64 wd, .bool b] 26)).alloc (.cells #[.int .i64 0, .int .i64 0] 86) = w3 := ⟨_, rfl⟩
 obtain ⟨hq3, hs3, hc, hd, he⟩ := box3 hw3
 have hs0 : W.heap.size < w3.heap.size := by omega
 have hs1 : W.heap.size + 1 < w3.heap.size := by omega
 have hs2 : W.heap.size + 2 < w3.heap.size := by omega
 have K0 := hide (show w3.cell? ⟨W.heap.size, 0, none⟩ = some (.int .i64 8) from hc 0 _ rfl)
 have K1 := hide (show w3.cell? ⟨W.heap.size, 1, none⟩ = some (.int .i64 n) from hc 1 _ rfl)
 have K2 := hide (show w3.cell? ⟨W.heap.size, 2, none⟩ = some (.bool f) from hc 2 _ rfl)
 have K3 := hide (show w3.cell? ⟨W.heap.size, 3, none⟩ = some (.slice A len cap) from hc 3 _ rfl)
 have T0 := hide (show w3.cell? ⟨W.heap.size + 1, 0, none⟩ = some (.int .i64 wd) from hd 0 _ rfl)
 have T1 := hide (show w3.cell? ⟨W.heap.size + 1, 1, none⟩ = some (.bool b) from hd 1 _ rfl)
 have Z0 := hide (show w3.cell? ⟨W.heap.size + 2, 0, none⟩ = some (.int .i64 0) from he 0 _ rfl)
 have Z1 := hide (show w3.cell? ⟨W.heap.size + 2, 1, none⟩ = some (.int .i64 0) from he 1 _ rfl)
 have kb : w3.heap[W.heap.size + 2]? = some (.cells #[.int .i64 0, .int .i64 0] 86 (0, 0)) := by
  have h9 := heap_alloc_new ((W.alloc (.cells #[.int .i64 8, .int .i64 n, .bool f, .slice A len cap] 24)).alloc (.cells #[.int .i64 wd, .bool b] 26)) (.cells #[.int .i64 0, .int .i64 0] 86)
  rw [hw3] at h9
  simpa using h9
 have Y0 := hide (frz_new (j := 0) kb)
 have Y1 := hide (frz_new (j := 1) kb)
 have KB := hide kb
 have HW3 := hide hw3
 have HQ3 := hide hq3
 have HQB := hide (hqW.trans hq3)
 clear h hv hp hr hz hqW hw3 hq3 hc hd he kb
 go_enter Try.func50, Try.ntmps50
 go_upto_region 1 with fail
 rw [HW3.out]
 have k0 := K0.out
 have k3 := K3.out
 obtain ⟨w4, hw4⟩ : ∃ w4, w3.alloc (.cells #[.int .i64 0, .int .i64 1] 86) = w4 := ⟨_, rfl⟩
 obtain ⟨hq4, hs4, hc4⟩ := box1 hw4
 have hb4 : w4.heap[W.heap.size + 3]? = some (.cells #[.int .i64 0, .int .i64 1] 86 (0, 0)) := by rw [← hw4, ← hs3]; exact heap_alloc_new w3 _
 have HB4 := hide hb4
 have HQ4 := hide hq4
 have HW4 := hide hw4
 have HPL := hide HSL.out.len
 have HUN := hide (fun j => union_pre (C := 1088000000000) ((ps.map (Lay.room wd)).take j) (0, 1) (fun r h => by
  obtain ⟨p, hpm, rfl⟩ := List.mem_map.1 (List.mem_of_mem_take h)
  exact HRR.out p hpm) isA.one (by simp) (by simp))
 have HRS : Hid (∀ (j : Nat) (p : Lay), ps[j]? = some p → (ps.map (Lay.room wd))[j]? = some (p.room wd)) := hide fun j p h => by rw [List.getElem?_map, h]; rfl
 have HTK := hide (List.take_of_length_le (l := ps.map (Lay.room wd)) (i := len) (by simp [HPL.out]))
 have HVAL : Hid (∀ s : Rm, (ps.map (Lay.room wd)).foldl stepU (0, 1) = s → roomR wd 8 n (packR (.mk 8 n f A len cap ps)) (ps.map (Lay.room wd)) = (upI (s.1 + 1) s.2, s.2)) := hide fun s hs => by
  unfold roomR
  rw [if_neg (by decide), if_neg (by decide), if_neg (by decide), if_neg (by decide), if_neg (by decide), if_neg (by decide), if_neg (by decide), if_pos rfl, hs]
 have HVAL8 := HVAL
 clear HVAL
 obtain ⟨rs, hrs⟩ : ∃ rs, ps.map (Lay.room wd) = rs := ⟨_, rfl⟩
 have HRM8 := HRM
 clear HRM
 rw [hrs] at HUN HRS HTK HVAL8 HRM8
 have hl12 : len ≤ 12 := by have := HPL.out; have := HLEN.out.1; omega
 clear hw4 hq4 hc4 hb4 hrs
 go_upto_region 25 with fail
 rw [HW4.out]
 clear k3
 go_wp2_with fail
 go_loopw [10] (fun v100 wr => ∃ j : Nat, j ≤ len ∧ v100 = .int .i64 j ∧ wr.heap[W.heap.size + 3]? = some (.cells #[.int .i64 ((rs.take j).foldl stepU (0, 1)).1, .int .i64 ((rs.take j).foldl stepU (0, 1)).2] 86 (0, 0)) ∧ Q w3 wr) (fun v100 _ => len - (intOf v100).toNat)
 case atStart => exact ⟨0, by omega, by go_num, HB4.out, HQ4.out⟩
 case round =>
  obtain ⟨j, hj, rfl, hbr, hq⟩ := hrel
  obtain ⟨hcaA, hce0, hceC⟩ := HUN.out j
  have k3 := (hq.facts.1 _ 3 hs0).trans K3.out
  have HQ := hide hq
  have HBR := hide hbr
  by_cases hlt9 : j < len
  ·have hd1 : decide ((j : Int) < (len : Int)) = true := by simp; omega
   have hd0 : decide (j < len) = true := by simp; omega
   have hlti : (j : Int) < (len : Int) := by omega
   obtain ⟨g, o, m', x', y', B, l', d', qs, e, hb, hx, z0, z1, z2, z3⟩ := lay_at (HSL.out.up (HQB.out.trans hq)) hlt9
   cases e
   obtain ⟨p, hpe⟩ : ∃ p, Lay.mk m' x' y' B l' d' qs = p := ⟨_, rfl⟩
   have hpv : p.v = .agg #[.int .i64 m', .int .i64 x', .bool y', .slice B l' d'] := by rw [← hpe]; rfl
   rw [hpe] at hx
   have hpm := List.mem_of_getElem? hx
   have hxr := HRS.out j p hx
   obtain ⟨sz, hsz⟩ : ∃ sz, (p.room wd).1 = sz := ⟨_, rfl⟩
   obtain ⟨al, hal⟩ : ∃ al, (p.room wd).2 = al := ⟨_, rfl⟩
   have hrm : p.room wd = (sz, al) := by rw [← hsz, ← hal]
   rw [hrm] at hxr
   have hnx := union_succ hxr
   obtain ⟨ce, hce⟩ : ∃ ce, ((rs.take j).foldl stepU (0, 1)).1 = ce := ⟨_, rfl⟩
   obtain ⟨ca, hca⟩ : ∃ ca, ((rs.take j).foldl stepU (0, 1)).2 = ca := ⟨_, rfl⟩
   unfold stepU at hnx
   rw [show List.foldl (fun s r => (max s.fst r.fst, max s.snd r.snd)) (0, 1) (List.take j rs) = (rs.take j).foldl stepU (0, 1) from rfl, show List.foldl (fun s r => (max s.fst r.fst, max s.snd r.snd)) (0, 1) (List.take (j + 1) rs) = (rs.take (j + 1)).foldl stepU (0, 1) from rfl, hce, hca] at hnx
   rw [hce, hca] at HBR
   dsimp only at hnx
   obtain ⟨na, hna⟩ : ∃ na, max ca al = na := ⟨_, rfl⟩
   obtain ⟨ne, hne⟩ : ∃ ne, max ce sz = ne := ⟨_, rfl⟩
   rw [hna, hne] at hnx
   have HNX := hide hnx
   have HNA := hide hna
   have HNE := hide hne
   have hb := hb
   have k3r := (HQ.out.facts.1 _ 3 hs0).trans K3.out
   have u0 := (HQ.out.facts.1 _ 0 hs1).trans T0.out
   have u1 := (HQ.out.facts.1 _ 1 hs1).trans T1.out
   have hs0r : W.heap.size < wr.heap.size := Nat.lt_of_lt_of_le hs0 HQ.out.size
   have hs1r : W.heap.size + 1 < wr.heap.size := Nat.lt_of_lt_of_le hs1 HQ.out.size
   have HC := hide (HPP.out p hpm)
   rw [hpv, hrm] at HC
   have HQBR := hide (HQB.out.trans HQ.out)
   have HLT := hide hlt9
   clear hx hpe hpv hpm hxr hsz hal hrm hnx hna hne hq hce hca hbr hcaA hce0 hceC
   go_upto_region 28 with fail
   refine Ri.made_last (Ri.phi [Ri.isV (.pointer (some ⟨W.heap.size, 3, none⟩)), Ri.isV (.slice (some ⟨g, o, none⟩) len cap), Ri.isV (.int .i64 ((j : Nat) : Int)), Ri.isV (.pointer (some ⟨g, o + j * 4, none⟩)), Ri.isV (.agg #[.int .i64 m', .int .i64 x', .bool y', .slice B l' d']), Ri.isV (tgW wd b), Ri.isV (rmV (sz, al)), (NewP wr.heap.size)]) (by kernel_rfl) (by kernel_rfl) rfl (by kernel_rfl) rfl (Ri.phi_mono ?_) ?_ ?_
   ·repeat' first | exact trivial | exact fun _ _ _ h _ => h | exact newP_q _ | refine ⟨?_, ?_⟩
   ·refine Ri.All.cons ?_ (.cons ?_ (.cons ?_ (.cons ?_ (.cons ?_ (.cons ?_ (.cons ?_ (.cons ?_ (Ri.All.nil))))))))
    ·refine ⟨rfl, fun f9 W9 hq hf A9 hA hB hO => ?_⟩
     have e1 := (hB 2).trans (show _ = .pointer (some ⟨W.heap.size, 0, none⟩) by simp [Act.eval])
     exact Ri.wp_value _ (Ri.run_fld (f := _) rfl e1 Try.underlying24 rfl (sz := 0) (by kernel_rfl)) rfl
    ·refine ⟨rfl, fun f9 W9 hq hf A9 hA hB hO => ?_⟩
     have e1 := (hA 97 0).trans (hf 0)
     exact Ri.wp_value _ (Ri.run_ld1 rfl e1 Try.underlying22 rfl ((hq.facts.1 _ 3 hs0r).trans k3r)) rfl
    ·refine ⟨rfl, fun f9 W9 hq hf A9 hA hB hO => ?_⟩
     have e1 := (hB 10).trans (show _ = .int .i64 (j : Nat) by simp [Act.eval])
     exact Ri.wp_value _ (Ri.run_mv rfl e1) rfl
    ·refine ⟨rfl, fun f9 W9 hq hf A9 hA hB hO => ?_⟩
     have e1 := (hA 98 1).trans (hf 1)
     have e2 := (hA 99 2).trans (hf 2)
     exact Ri.wp_value _ (Ri.run_idx rfl e1 e2 Try.underlying22 (sz := 4) (by kernel_rfl) HLT.out) rfl
    ·refine ⟨rfl, fun f9 W9 hq hf A9 hA hB hO => ?_⟩
     have e1 := (hA 100 3).trans (hf 3)
     exact Ri.wp_value _ (Ri.run_ldagg (cs := [.int .i64 m', .int .i64 x', .bool y', .slice B l' d']) rfl e1 (c4G ((hq.facts.1 _ _ hb).trans z0) ((hq.facts.1 _ _ hb).trans z1) ((hq.facts.1 _ _ hb).trans z2) ((hq.facts.1 _ _ hb).trans z3)) Try.underlying24 rfl (by kernel_rfl)) rfl
    ·refine ⟨rfl, fun f9 W9 hq hf A9 hA hB hO => ?_⟩
     have e1 := (hB 3).trans (show _ = .pointer (some ⟨W.heap.size + 1, 0, none⟩) by simp [Act.eval])
     exact Ri.wp_value _ (Ri.run_ldagg (cs := [.int .i64 wd, .bool b]) rfl e1 (c2L ((hq.facts.1 _ 0 hs1r).trans u0) ((hq.facts.1 _ 1 hs1r).trans u1)) Try.underlying26 rfl (by kernel_rfl)) rfl
    ·refine ⟨rfl, fun f9 W9 hq hf A9 hA hB hO => ?_⟩
     have e1 := (hA 101 4).trans (hf 4)
     have e2 := (hA 102 5).trans (hf 5)
     refine Ri.wp_call #[.agg #[.int .i64 m', .int .i64 x', .bool y', .slice B l' d'], tgW wd b] rfl (by simp [e1, e2]) Try.func50 (by kernel_rfl) (by kernel_rfl) ((HC.out W9 (HQBR.out.trans ((Q.refl _).drew.trans hq))).mono ?_)
     rintro e w9 ⟨rfl, h1⟩
     exact ⟨_, rfl, h1, rfl⟩
    ·refine ⟨rfl, fun f9 W9 hq hf A9 hA hB hO => ?_⟩
     exact Ri.wp_val _ (Ri.run_allocP rfl) ((Q.refl W9).alloc _) ⟨_, rfl, hq.size, by simp, heap_alloc_new W9 _⟩
   ·intro f9 W2 hq hf A9 hAe hA hB
    obtain ⟨wb, hqe, hqb, hql, hqh⟩ : NewP wr.heap.size (f9 7) W2 := hf 7 (by simp)
    have e1 := (hA 11 7).trans hqe
    have e2 := (hA 103 6).trans (hf 6)
    refine wp_store_row _ _ _ rfl _ _ e1 e2 _ _ (hqh) (by kernel_rfl) rfl (by simp [Value.oneCell']) ⟨undef, rfl, ?_⟩
    rw [hAe]
    simp only [Ri.acts, Act.put, List.setIfInBounds_toArray, List.set_cons_zero, List.set_cons_succ, Nat.zero_add, Nat.reduceAdd]
    have HXW := hide hq
    have HQH := hide hqh
    have HQBB := hide hqb
    rw [hqe]
    clear hA hB hAe e1 e2 hf hq hqh hqe hqb
    obtain ⟨w6, hw6⟩ : ∃ w6, W2.setRow wb #[.int .i64 sz, .int .i64 al] = w6 := ⟨_, rfl⟩
    have hbl6 : wb < w6.heap.size := by rw [← hw6]; simpa using hql
    have r0 : w6.cell? ⟨wb, 0, none⟩ = some (.int .i64 sz) := by rw [← hw6]; exact (cell_setRow_same _ _ 0 _ _ _ _ HQH.out).trans rfl
    have r1 : w6.cell? ⟨wb, 1, none⟩ = some (.int .i64 al) := by rw [← hw6]; exact (cell_setRow_same _ _ 1 _ _ _ _ HQH.out).trans rfl
    have hb6 : w6.heap[wb]? = some (.cells #[.int .i64 sz, .int .i64 al] 86 (0, 0)) := by rw [← hw6]; exact setRow_heap _ _ _ _ _ _ HQH.out
    have HB6 := hide hb6
    have HQR6 := hide (show Q wr w6 by rw [← hw6]; exact (HXW.out).setRow (by have := HQBB.out; omega) _)
    have HW6 := hide hw6
    clear hw6 hql hb6
    clear z0 z1 z2 z3 u0 u1 k3r
    have hqlt : W.heap.size + 3 < wr.heap.size := (Array.getElem?_eq_some_iff.1 HBR.out).1
    have hbq := (HQR6.out.below.block _ hqlt).trans HBR.out
    have q0 : w6.cell? ⟨W.heap.size + 3, 0, none⟩ = some (.int .i64 ce) := cell_blkJ (j := 0) hbq rfl
    have q1 : w6.cell? ⟨W.heap.size + 3, 1, none⟩ = some (.int .i64 ca) := cell_blkJ (j := 1) hbq rfl
    have f0 := frz_new (j := 0) hbq
    have f1 := frz_new (j := 1) hbq
    have HB9 := hide (show ((w6.setCell ⟨W.heap.size + 3, 0, none⟩ (.int .i64 ne)).setCell ⟨W.heap.size + 3, 1, none⟩ (.int .i64 na)).heap[W.heap.size + 3]? = some (.cells #[.int .i64 ne, .int .i64 na] 86 (0, 0)) from (blk_set (blk_set hbq _) _).trans rfl)
    have HQ6 := hide (((HQ.out.trans HQR6.out).set (p := ⟨W.heap.size + 3, 0, none⟩) (by dsimp only; omega) (.int .i64 ne)).set (p := ⟨W.heap.size + 3, 1, none⟩) (by dsimp only; omega) (.int .i64 na))
    have hna := HNA.out
    have hne := HNE.out
    clear hbq hqlt
    go_upto_region 29 with fail
    rw [HW6.out]
    go_wp2_with fail
    go_roundw
    case rel => exact ⟨j + 1, by omega, by go_num, by rw [HNX.out]; exact HB9.out, HQ6.out⟩
    case measure => simp [intOf] <;> omega
  ·have hd1 : decide ((j : Int) < (len : Int)) = false := by simp; omega
   have hd0 : decide (j < len) = false := by simp; omega
   obtain rfl : j = len := by omega
   obtain ⟨sz, hsz⟩ : ∃ sz, (rs.foldl stepU (0, 1)).1 = sz := ⟨_, rfl⟩
   obtain ⟨al, hal⟩ : ∃ al, (rs.foldl stepU (0, 1)).2 = al := ⟨_, rfl⟩
   rw [HTK.out, hsz, hal] at HBR
   rw [HTK.out, hsz] at hce0 hceC
   rw [HTK.out, hal] at hcaA
   have haA := hcaA
   obtain ⟨u, hu⟩ : ∃ u, upI (sz + 1) al = u := ⟨_, rfl⟩
   have HVAL := hide (HVAL8.out (sz, al) (by rw [← hsz, ← hal]))
   dsimp only at HVAL
   rw [hu] at HVAL
   have HRM := HRM8
   have hqs : W.heap.size + 3 < wr.heap.size := (Array.getElem?_eq_some_iff.1 HBR.out).1
   have q0 : wr.cell? ⟨W.heap.size + 3, 0, none⟩ = some (.int .i64 sz) := cell_blkJ (j := 0) HBR.out rfl
   have q1 : wr.cell? ⟨W.heap.size + 3, 1, none⟩ = some (.int .i64 al) := cell_blkJ (j := 1) HBR.out rfl
   have kbr := (HQ.out.below.block _ hs2).trans KB.out
   have hs2r : W.heap.size + 2 < wr.heap.size := by have := HQ.out.size; omega
   have HQR := hide (HQ3.out.trans HQ.out)
   clear hq hbr hsz hal hcaA
   go_upto_region 30 with fail
   refine Ri.made_last (Ri.phi [Ri.isV (.pointer (some ⟨W.heap.size + 3, 0, none⟩)), Ri.isV (.int .i64 sz), Ri.isV (.int .i64 (sz + 1)), Ri.isV (.pointer (some ⟨W.heap.size + 3, 1, none⟩)), Ri.isV (.int .i64 al), Ri.isV (.int .i64 u), Ri.isV (.pointer (some ⟨W.heap.size + 3, 1, none⟩)), Ri.isV (.int .i64 al), Ri.isV (.agg #[.int .i64 u, .int .i64 al])]) (by kernel_rfl) (by kernel_rfl) rfl (by kernel_rfl) rfl (Ri.phi_mono ?_) ?_ ?_
   ·repeat' first | exact trivial | exact fun _ _ _ h _ => h | refine ⟨?_, ?_⟩
   ·refine Ri.All.cons ?_ (.cons ?_ (.cons ?_ (.cons ?_ (.cons ?_ (.cons ?_ (.cons ?_ (.cons ?_ (.cons ?_ (Ri.All.nil)))))))))
    ·refine ⟨rfl, fun f9 W9 hq hf A9 hA hB hO => ?_⟩
     have e1 := (hB 9).trans (show _ = .pointer (some ⟨W.heap.size + 3, 0, none⟩) by simp [Act.eval])
     exact Ri.wp_value _ (Ri.run_fld (f := _) rfl e1 Try.underlying86 rfl (sz := 0) (by kernel_rfl)) rfl
    ·refine ⟨rfl, fun f9 W9 hq hf A9 hA hB hO => ?_⟩
     have e1 := (hA 115 0).trans (hf 0)
     exact Ri.wp_value _ (Ri.run_ld1 rfl e1 Try.underlying3 rfl ((hq.facts.1 _ 0 hqs).trans q0)) rfl
    ·refine ⟨rfl, fun f9 W9 hq hf A9 hA hB hO => ?_⟩
     have e1 := (hA 116 1).trans (hf 1)
     have e2 : A9.eval (.const (.int .i64 1)) = .int .i64 1 := rfl
     exact Ri.wp_value _ (Ri.run_add rfl e1 e2 Try.underlying3 (by omega) (by omega)) rfl
    ·refine ⟨rfl, fun f9 W9 hq hf A9 hA hB hO => ?_⟩
     have e1 := (hB 9).trans (show _ = .pointer (some ⟨W.heap.size + 3, 0, none⟩) by simp [Act.eval])
     exact Ri.wp_value _ (Ri.run_fld (f := _) rfl e1 Try.underlying86 rfl (sz := 0) (by kernel_rfl)) rfl
    ·refine ⟨rfl, fun f9 W9 hq hf A9 hA hB hO => ?_⟩
     have e1 := (hA 118 3).trans (hf 3)
     exact Ri.wp_value _ (Ri.run_ld1 rfl e1 Try.underlying3 rfl ((hq.facts.1 _ 1 hqs).trans q1)) rfl
    ·refine ⟨rfl, fun f9 W9 hq hf A9 hA hB hO => ?_⟩
     have e1 := (hA 117 2).trans (hf 2)
     have e2 := (hA 119 4).trans (hf 4)
     have h9 := up05_any (sz + 1) al haA (by omega) (by omega) W9
     rw [hu] at h9
     refine Ri.wp_call #[.int .i64 (sz + 1), .int .i64 al] rfl (by simp [e1, e2]) Try.func78 (by kernel_rfl) (by kernel_rfl) (h9.mono ?_)
     rintro e w9 ⟨rfl, h1⟩
     exact ⟨_, rfl, h1, rfl⟩
    ·refine ⟨rfl, fun f9 W9 hq hf A9 hA hB hO => ?_⟩
     have e1 := (hB 9).trans (show _ = .pointer (some ⟨W.heap.size + 3, 0, none⟩) by simp [Act.eval])
     exact Ri.wp_value _ (Ri.run_fld (f := _) rfl e1 Try.underlying86 rfl (sz := 0) (by kernel_rfl)) rfl
    ·refine ⟨rfl, fun f9 W9 hq hf A9 hA hB hO => ?_⟩
     have e1 := (hA 121 6).trans (hf 6)
     exact Ri.wp_value _ (Ri.run_ld1 rfl e1 Try.underlying3 rfl ((hq.facts.1 _ 1 hqs).trans q1)) rfl
    ·refine ⟨rfl, fun f9 W9 hq hf A9 hA hB hO => ?_⟩
     have e1 := (hA 120 5).trans (hf 5)
     have e2 := (hA 122 7).trans (hf 7)
     exact Ri.wp_struct rfl [(0, .int .i64 u), (1, .int .i64 al)] (by simp [e1, e2]) (by kernel_rfl) rfl
   ·intro f9 W5 hq hf A9 hAe hA hB
    have e1 := (hB 4).trans (show _ = .pointer (some ⟨W.heap.size + 2, 0, none⟩) by simp [Act.eval])
    have e2 := (hA 123 8).trans (hf 8)
    refine wp_store_row _ _ _ rfl _ _ e1 e2 _ _ ((hq.below.block _ hs2r).trans kbr) (by kernel_rfl) rfl (by simp [Value.oneCell']) ⟨undef, rfl, ?_⟩
    rw [hAe]
    simp only [Ri.acts, Act.put, List.setIfInBounds_toArray, List.set_cons_zero, List.set_cons_succ, Nat.zero_add, Nat.reduceAdd]
    have HXW2 := hide hq
    clear hA hB hAe e1 e2 hf hq
    have HGR := hide ((HXW2.out.below.block _ hs2r).trans kbr)
    have HQS := hide ((HQR.out.trans HXW2.out).setRow (g := W.heap.size + 2) (by omega) #[.int .i64 (u), .int .i64 (al)])
    have s0 : (W5.setRow (W.heap.size + 2) #[.int .i64 (u), .int .i64 (al)]).cell? ⟨W.heap.size + 2, 0, none⟩ = some (.int .i64 (u)) := (cell_setRow_same _ _ 0 _ _ _ _ HGR.out).trans rfl
    have s1 : (W5.setRow (W.heap.size + 2) #[.int .i64 (u), .int .i64 (al)]).cell? ⟨W.heap.size + 2, 1, none⟩ = some (.int .i64 (al)) := (cell_setRow_same _ _ 1 _ _ _ _ HGR.out).trans rfl
    clear q0 q1 kbr
    go_wp2_with fail
    refine bodyPost_ret (v := .agg #[.int .i64 (u), .int .i64 (al)]) (by simp [results, Try.results50, go_sem, s0, s1]) rfl ?_
    exact ⟨by rw [HRM.out, HVAL.out], HQS.out⟩
theorem Of_any {w : World} {l : Lay} (h : LayR w l) (wd : Int) (b : Bool) (hw : wd = 2 ∨ wd = 4 ∨ wd = 8) : VL l → Fr l → ∀ W, Q w W → Calls Try.prog 50 #[l.v, tgW wd b] W (R1 W (rmV (l.room wd))) := by
 induction h with
 | @mk k n f A len cap ps a1 a2 a3 a4 a5 a6 ih =>
  intro hv hf
  have hL : LayR w (.mk k n f A len cap ps) := .mk a1 a2 a3 a4 a5 a6
  have hp : ∀ p ∈ ps, ∀ W, Q w W → Calls Try.prog 50 #[p.v, tgW wd b] W (R1 W (rmV (p.room wd))) := fun p hm => ih p hm (hv.part (l := .mk k n f A len cap ps) hm) (hf.part (l := .mk k n f A len cap ps) hm)
  have hr : ∀ p ∈ ps, isA (p.room wd).2 ∧ 0 ≤ (p.room wd).1 ∧ (p.room wd).1 ≤ 1088000000000 := fun p hm => fr_cap (a6 p hm) (hv.part (l := .mk k n f A len cap ps) hm) (hf.part (l := .mk k n f A len cap ps) hm) wd hw
  have hz := (fr_cap hL hv hf wd hw).2.2
  obtain ⟨h0, h9, -, -⟩ := hv.kind
  have hk : k = 0 ∨ k = 1 ∨ k = 2 ∨ k = 3 ∨ k = 4 ∨ k = 5 ∨ k = 6 ∨ k = 7 ∨ k = 8 ∨ k = 9 := by omega
  rcases hk with hk | hk | hk | hk | hk | hk | hk | hk | hk | hk
  ·exact plcP0 hL hv wd b hw hk
  ·exact plcP1 hL hv wd b hw hk
  ·exact plcP2 hL hv wd b hw hk
  ·exact plcP3 hL hv wd b hw hk
  ·exact plcP4 hL hv wd b hw hp hr hz hk
  ·exact plcP5 hL hv wd b hw hp hr hz hk
  ·exact plcP6 hL hv wd b hw hp hr hz hk
  ·exact plcP7 hL hv wd b hw hk
  ·exact plcP8 hL hv wd b hw hp hr hz hk
  ·exact plcP9 hL hv wd b hw hk
def okW (wd : Int) : Prop := wd = 2 ∨ wd = 4 ∨ wd = 8
instance (wd : Int) : Decidable (okW wd) := by unfold okW; infer_instance
def tgE (wd : Int) : Int := if okW wd then 0 else 1
def eL (wd : Int) (l : Lay) : Int := if validL l ≠ 0 then validL l else if tgE wd ≠ 0 then tgE wd else if 4096 < (l.room wd).1 then 3 else 0
def szL (wd : Int) (l : Lay) : Int := if eL wd l = 0 then (l.room wd).1 else 0
def alL (wd : Int) (l : Lay) : Int := if eL wd l = 0 then (l.room wd).2 else 0
theorem part_deep {l p : Lay} (h : p ∈ l.parts) : p.deep + 1 ≤ l.deep := by
 cases l with
 | mk k n f A len cap ps =>
  rw [deep_mk]
  have : p.deep ≤ (ps.map Lay.deep).foldl max 0 := le_foldl_max (List.mem_map_of_mem h)
  omega
theorem deep_pos (l : Lay) : 1 ≤ l.deep := by
 cases l with
 | mk k n f A len cap ps => rw [deep_mk]; omega
theorem flat_part {l x : Lay} (h : x ∈ l.flat) : x = l ∨ ∃ p ∈ l.parts, x ∈ p.flat := by
 cases l with
 | mk k n f A len cap ps =>
  rw [flat_mk] at h
  rcases List.mem_cons.1 h with h | h
  ·exact .inl h
  ·obtain ⟨p, hp, hx⟩ := List.mem_flatMap.1 h
   exact .inr ⟨p, hp, hx⟩
theorem flat_le {w : World} {l : Lay} (h : LayR w l) : ∀ x ∈ l.flat, x.deep ≤ l.deep ∧ x.count ≤ l.count := by
 induction h with
 | @mk k n f A len cap ps a1 a2 a3 a4 a5 a6 ih =>
  intro x hx
  rcases flat_part hx with rfl | ⟨p, hp, hx⟩
  ·exact ⟨Nat.le_refl _, Nat.le_refl _⟩
  ·have h1 := ih p hp x hx
   have h2 := part_deep (l := .mk k n f A len cap ps) hp
   have h3 := count_part (l := .mk k n f A len cap ps) hp
   omega
theorem sum_bound {C : Int} : ∀ (ts : List Int) (cs : List Nat), ts.length = cs.length → (∀ (i : Nat) (t : Int) (c : Nat), ts[i]? = some t → cs[i]? = some c → t ≤ c * C) → ts.sum ≤ (cs.sum : Nat) * C
 | [], [], _, _ => by simp
 | [], _ :: _, h, _ => by simp at h
 | _ :: _, [], h, _ => by simp at h
 | t :: ts, c :: cs, h, hr => by
  have h1 := hr 0 t c rfl rfl
  have h2 := sum_bound ts cs (by simpa using h) (fun i u v hu hv => hr (i + 1) u v (by simpa using hu) (by simpa using hv))
  rw [List.sum_cons, List.sum_cons]
  have h3 : (((c + cs.sum : Nat) : Int)) * C = (c : Int) * C + (cs.sum : Nat) * C := by
   rw [Int.natCast_add, Int.add_mul]
  omega
theorem tc_bound {w : World} {l : Lay} (h : LayR w l) : VL l → ∀ d : Nat, l.deep ≤ d + 1 → l.tc ≤ (l.count : Nat) * (1000 ^ d : Int) := by
 induction h with
 | @mk k n f A len cap ps a1 a2 a3 a4 a5 a6 ih =>
  intro hv d hd
  have hn5 := hv.len.2.2.1
  have hcn : ((Lay.mk k n f A len cap ps).count : Int) = 1 + ((ps.map Lay.count).sum : Nat) := by rw [count_mk]; omega
  rw [tc_mk, hcn]
  have h1' : (0 : Int) < 1000 ^ d := Int.pow_pos (by decide)
  have h1 : (1 : Int) ≤ 1000 ^ d := by omega
  cases d with
  | zero =>
   have : ps = [] := by
    cases ps with
    | nil => rfl
    | cons p r =>
     have h2 := part_deep (l := .mk k n f A len cap (p :: r)) (p := p) (List.mem_cons_self ..)
     have := deep_pos p
     omega
   subst this
   simp
  | succ d =>
   have hs : (ps.map Lay.tc).sum ≤ ((ps.map Lay.count).sum : Nat) * (1000 ^ d : Int) := sum_bound _ _ (by simp) (fun i t c ht hc => by
    rw [List.getElem?_map] at ht hc
    cases hp : ps[i]? with
    | none => rw [hp] at ht; cases ht
    | some p =>
     rw [hp] at ht hc
     cases ht
     cases hc
     have hm := List.mem_of_getElem? hp
     exact ih p hm (hv.part (l := .mk k n f A len cap ps) hm) d (by have := part_deep (l := .mk k n f A len cap ps) hm; omega))
   have h0 : 0 ≤ (ps.map Lay.tc).sum := sum_nn fun x hx => by
    obtain ⟨p, hp, rfl⟩ := List.mem_map.1 hx
    have := tc_nn (a6 p hp)
    omega
   have hpw : (1000 : Int) ^ (d + 1) = 1000 * 1000 ^ d := by rw [Int.pow_succ, Int.mul_comm]
   obtain ⟨S, hS⟩ : ∃ S, (ps.map Lay.tc).sum = S := ⟨_, rfl⟩
   obtain ⟨T, hT⟩ : ∃ T : Int, (((ps.map Lay.count).sum : Nat) : Int) = T := ⟨_, rfl⟩
   obtain ⟨P, hP⟩ : ∃ P : Int, (1000 : Int) ^ d = P := ⟨_, rfl⟩
   rw [hS, hP, hT] at hs
   rw [hS] at h0
   rw [hpw, hP] at h1
   rw [hpw, hS, hP, hT]
   have e : (1 + T) * (1000 * P) = 1000 * P + 1000 * (T * P) := by rw [Int.add_mul, Int.one_mul, Int.mul_left_comm]
   rw [e]
   split
   ·rename_i h5
    have hn := hn5 h5
    have h6 : max 0 n * S ≤ 1000 * S := Int.mul_le_mul_of_nonneg_right (by omega) h0
    omega
   ·omega
theorem fr_valid {w : World} {l : Lay} (h : LayR w l) (hv : validL l = 0) : Fr l := by
 obtain ⟨hV, hc, hd, hcl⟩ := valid_VL hv
 intro x hx
 rcases flat_part hx with rfl | ⟨p, hp, hx⟩
 ·have := cells_tc h
  omega
 ·have hlp : LayR w p := by
   cases h with
   | mk a1 a2 a3 a4 a5 a6 => exact a6 p hp
  have h1 := flat_le hlp x hx
  have h2 := part_deep hp
  have h3 := count_part hp
  have hVp := hV.part hp
  have hVx : VL x := by
   obtain ⟨r, b⟩ := hVp
   rw [List.all_eq_true] at r
   rw [List.any_eq_false] at b
   have hsub : ∀ y ∈ x.flat, y ∈ p.flat := fun y hy => flat_trans hx hy
   exact ⟨List.all_eq_true.2 fun y hy => r y (hsub y hy), List.any_eq_false.2 fun y hy => b y (hsub y hy)⟩
  have h4 := tc_bound (flat_all hlp x hx) hVx 3 (by omega)
  have h5 : ((x.count : Nat) : Int) ≤ 60 := by omega
  have h6 : ((x.count : Nat) : Int) * (1000 ^ 3 : Int) ≤ 60 * 1000 ^ 3 := Int.mul_le_mul_of_nonneg_right h5 (by decide)
  have h7 : (60 : Int) * 1000 ^ 3 = 60000000000 := by decide
  omega
where
 flat_trans {l x y : Lay} (hx : x ∈ l.flat) (hy : y ∈ x.flat) : y ∈ l.flat := by
  rcases flat_part hx with rfl | ⟨p, hp, hx'⟩
  ·exact hy
  ·have : SizeOf.sizeOf p < SizeOf.sizeOf l := by
    cases l with
    | mk k n f A len cap ps =>
     have := List.sizeOf_lt_of_mem (show p ∈ ps from hp)
     simp
     omega
   exact part_flat hp (flat_trans hx' hy)
 termination_by SizeOf.sizeOf l
structure Okw (wd : Int) (l : Lay) : Prop where
 valid : validL l = 0
 word : okW wd
 small : (l.room wd).1 ≤ 4096
theorem eL_zero {wd : Int} {l : Lay} : eL wd l = 0 ↔ Okw wd l := by
 unfold eL tgE
 constructor
 ·intro h
  by_cases h1 : validL l = 0
  ·by_cases hw : okW wd
   ·by_cases h3 : 4096 < (l.room wd).1
    ·simp [h1, hw, h3] at h
    ·exact ⟨h1, hw, by omega⟩
   ·simp [h1, hw] at h
  ·simp [h1] at h
 ·rintro ⟨h1, h2, h3⟩
  simp [h1, h2, show ¬ 4096 < (l.room wd).1 by omega]
theorem Okw.sz {wd : Int} {l : Lay} (h : Okw wd l) : szL wd l = (l.room wd).1 := by unfold szL; rw [if_pos (eL_zero.2 h)]
theorem Okw.vl {wd : Int} {l : Lay} (h : Okw wd l) : VL l := (valid_VL h.valid).1
theorem stand_part : ∀ (rs : List Rm) (s : Rm) (r : Rm), (∀ r ∈ rs, isA r.2 ∧ 0 ≤ r.1) → isA s.2 → 0 ≤ s.1 → r ∈ rs → r.1 ≤ (rs.foldl stepS s).1
 | [], _, _, _, _, _, h => by simp at h
 | q :: rs, s, r, hr, h1, h2, h => by
  obtain ⟨a1, a2⟩ := hr q (List.mem_cons_self ..)
  obtain ⟨b1, b2, b3⟩ := a1.up h2
  rw [List.foldl_cons]
  have hA : isA (stepS s q).2 := h1.max a1
  have hN : 0 ≤ (stepS s q).1 := by unfold stepS; dsimp only; omega
  rcases List.mem_cons.1 h with rfl | h
  ·have h3 := (stand_mono rs (stepS s r) (fun q hq => hr q (List.mem_cons_of_mem _ hq)) hA hN).1
   have h4 : r.1 ≤ (stepS s r).1 := by unfold stepS; dsimp only; omega
   omega
  ·exact stand_part rs (stepS s q) r (fun q hq => hr q (List.mem_cons_of_mem _ hq)) hA hN h
theorem union_mono : ∀ (rs : List Rm) (s : Rm), s.1 ≤ (rs.foldl stepU s).1
 | [], s => Int.le_refl _
 | r :: rs, s => by
  rw [List.foldl_cons]
  have := union_mono rs (stepU s r)
  have h4 : s.1 ≤ (stepU s r).1 := by unfold stepU; dsimp only; omega
  omega
theorem union_part : ∀ (rs : List Rm) (s : Rm) (r : Rm), r ∈ rs → r.1 ≤ (rs.foldl stepU s).1
 | [], _, _, h => by simp at h
 | q :: rs, s, r, h => by
  rw [List.foldl_cons]
  rcases List.mem_cons.1 h with rfl | h
  ·have h3 := union_mono rs (stepU s r)
   have h4 : r.1 ≤ (stepU s r).1 := by unfold stepU; dsimp only; omega
   omega
  ·exact union_part rs (stepU s q) r h
theorem room_part {w : World} {l p : Lay} (h : LayR w l) (hv : VL l) {wd : Int} (hw : okW wd) (hp : p ∈ l.parts) (hn : l.k = 5 → 0 < l.n) (h9 : l.k ≠ 9) : (p.room wd).1 ≤ (l.room wd).1 := by
 cases h with
 | @mk k n f A len cap ps a1 a2 a3 a4 a5 a6 =>
  obtain ⟨h0, h9', hnum, hrest⟩ := hv.kind
  have hrm : ∀ r ∈ ps.map (Lay.room wd), isA r.2 ∧ 0 ≤ r.1 := fun r hr => by
   obtain ⟨q, hq, rfl⟩ := List.mem_map.1 hr
   have := room_ok (a6 q hq) wd hw (hv.part (l := .mk k n f A len cap ps) hq)
   exact ⟨this.al, this.lo⟩
  have hpr : p.room wd ∈ ps.map (Lay.room wd) := List.mem_map_of_mem hp
  have hone : k = 4 ∨ k = 5 → ps = [p] := fun h => by
   unfold numL at hnum
   rw [if_pos h, decide_eq_true_eq, List.length_eq_one_iff] at hnum
   obtain ⟨q, rfl⟩ := hnum
   simp [Lay.parts] at hp
   rw [hp]
  have hnone : ¬ (k = 4 ∨ k = 5) → ¬ (k = 6 ∨ k = 9) → k ≠ 8 → False := fun b1 b2 b3 => by
   unfold numL at hnum
   rw [if_neg b1, if_neg b2, if_neg b3, decide_eq_true_eq, List.length_eq_zero_iff] at hnum
   subst hnum
   simp [Lay.parts] at hp
  have h9'' : k ≠ 9 := h9
  have hn' : k = 5 → 0 < n := hn
  rw [room_mk]
  unfold roomR
  by_cases e4 : k = 4
  ·subst e4
   obtain rfl := hone (.inl rfl)
   obtain ⟨a1, a2⟩ := hrm _ hpr
   rw [if_neg (by decide), if_neg (by decide), if_neg (by decide), if_pos rfl]
   simp only [List.map_cons, List.map_nil, List.headD_cons]
   have := (a1.up (n := (p.room wd).1 + 1) (by omega)).1
   omega
  by_cases e5 : k = 5
  ·subst e5
   obtain rfl := hone (.inr rfl)
   obtain ⟨a1, a2⟩ := hrm _ hpr
   rw [if_neg (by decide), if_neg (by decide), if_neg (by decide), if_neg (by decide), if_pos rfl]
   simp only [List.map_cons, List.map_nil, List.headD_cons]
   have h1 := hn' rfl
   have h2 : 1 * (p.room wd).1 ≤ n * (p.room wd).1 := Int.mul_le_mul_of_nonneg_right (by omega) a2
   omega
  by_cases e6 : k = 6
  ·subst e6
   rw [if_neg (by decide), if_neg (by decide), if_neg (by decide), if_neg (by decide), if_neg (by decide), if_pos rfl]
   have h1 := stand_part _ (0, 1) _ hrm isA.one (by simp) hpr
   have h2 := stand_mono (ps.map (Lay.room wd)) (0, 1) hrm isA.one (by simp)
   have h3 := (h2.2.1.up h2.2.2).1
   exact Int.le_trans h1 h3
  by_cases e8 : k = 8
  ·subst e8
   rw [if_neg (by decide), if_neg (by decide), if_neg (by decide), if_neg (by decide), if_neg (by decide), if_neg (by decide), if_neg (by decide), if_pos rfl]
   have h1 := union_part _ (0, 1) _ hpr
   have h2 : isA ((ps.map (Lay.room wd)).foldl stepU (0, 1)).2 ∧ 0 ≤ ((ps.map (Lay.room wd)).foldl stepU (0, 1)).1 := by
    have h3 := union_ok (ps.map (Lay.room wd)) (ps.map Lay.tc) (0, 1) 0 (by simp) (fun i r x hr hx => by
     rw [List.getElem?_map] at hr hx
     cases hq : ps[i]? with
     | none => rw [hq] at hr; cases hr
     | some q =>
      rw [hq] at hr hx
      cases hr
      cases hx
      have hm := List.mem_of_getElem? hq
      exact room_ok (a6 q hm) wd hw (hv.part (l := .mk 8 n f A len cap ps) hm)) isA.one (by simp) (by simp) (by simp) (fun x hx => by
     obtain ⟨q, hq, rfl⟩ := List.mem_map.1 hx
     have := tc_nn (a6 q hq)
     omega)
    exact ⟨h3.1, h3.2.1⟩
   have h3 := (h2.1.up (n := ((ps.map (Lay.room wd)).foldl stepU (0, 1)).1 + 1) (by omega)).1
   dsimp only
   omega
  exact absurd (hnone (by omega) (by omega) e8) id
theorem le_sum_of_mem {xs : List Int} (hn : ∀ x ∈ xs, 0 ≤ x) : ∀ {x : Int}, x ∈ xs → x ≤ xs.sum := by
 induction xs with
 | nil => intro x h; simp at h
 | cons a r ih =>
  intro x h
  rw [List.sum_cons]
  have h0 := sum_nn (l := r) fun y hy => hn y (List.mem_cons_of_mem _ hy)
  have ha := hn a (List.mem_cons_self ..)
  rcases List.mem_cons.1 h with rfl | h
  ·omega
  ·have := ih (fun y hy => hn y (List.mem_cons_of_mem _ hy)) h
   omega
theorem Okw.part {w : World} {l p : Lay} (h : LayR w l) {wd : Int} (ho : Okw wd l) (hp : p ∈ l.parts) (hn : l.k = 5 → 0 < l.n) (h9 : l.k ≠ 9) : Okw wd p := by
 obtain ⟨hV, hc, hd, hcl⟩ := valid_VL ho.valid
 have hlp : LayR w p := by
  cases h with
  | mk a1 a2 a3 a4 a5 a6 => exact a6 p hp
 have hrp := room_part h hV ho.word hp hn h9
 refine ⟨?_, ho.word, by have := ho.small; omega⟩
 have hVp := hV.part hp
 have h2 := part_deep hp
 have h3 := count_part hp
 have htc : p.tc ≤ l.tc := by
  cases h with
  | @mk k n f A len cap ps a1 a2 a3 a4 a5 a6 =>
   rw [tc_mk]
   have hnn : ∀ x ∈ ps.map Lay.tc, 0 ≤ x := fun x hx => by
    obtain ⟨q, hq, rfl⟩ := List.mem_map.1 hx
    have := tc_nn (a6 q hq)
    omega
   have h4 := le_sum_of_mem hnn (List.mem_map_of_mem (f := Lay.tc) hp)
   have h5 := sum_nn hnn
   split
   ·rename_i e5
    have h6 : 0 < n := hn e5
    have h7 : 1 * (ps.map Lay.tc).sum ≤ max 0 n * (ps.map Lay.tc).sum := Int.mul_le_mul_of_nonneg_right (by omega) h5
    omega
   ·omega
 have h8 := cells_tc h
 have h9 := cells_tc hlp
 unfold validL
 rw [if_neg (by omega), if_neg (by rw [hVp.big]; decide), if_pos hVp.right]
def rmX (wd : Int) (l : Lay) : Rm := if 4096 < (l.room wd).1 then (0, 0) else l.room wd
def lgX (wd : Int) (l : Lay) : Int := if 4096 < (l.room wd).1 then 3 else 0
theorem lgX_pos {wd : Int} {l : Lay} (h : 4096 < (l.room wd).1) : rmX wd l = (0, 0) ∧ lgX wd l = 3 := ⟨if_pos h, if_pos h⟩
theorem lgX_neg {wd : Int} {l : Lay} (h : ¬ 4096 < (l.room wd).1) : rmX wd l = l.room wd ∧ lgX wd l = 0 := ⟨if_neg h, if_neg h⟩
def aL (wd : Int) (l : Lay) : Int := if validL l ≠ 0 then validL l else tgE wd
theorem eL_asked (wd : Int) (l : Lay) : eL wd l = if aL wd l ≠ 0 then aL wd l else if 4096 < (l.room wd).1 then 3 else 0 := by
 unfold eL aL
 by_cases h1 : validL l = 0 <;> simp [h1]
theorem aL_zero {wd : Int} {l : Lay} (h : aL wd l = 0) : validL l = 0 ∧ okW wd := by
 unfold aL tgE at h
 by_cases h1 : validL l = 0
 ·by_cases hw : okW wd
  ·exact ⟨h1, hw⟩
  ·simp [h1, hw] at h
 ·simp [h1] at h
theorem eL_bad {wd : Int} {l : Lay} (h : aL wd l ≠ 0) : eL wd l = aL wd l ∧ szL wd l = 0 ∧ alL wd l = 0 := by
 have h1 : eL wd l = aL wd l := by rw [eL_asked, if_pos h]
 refine ⟨h1, ?_, ?_⟩
 ·unfold szL; rw [if_neg (by omega)]
 ·unfold alL; rw [if_neg (by omega)]
theorem eL_large {wd : Int} {l : Lay} (h : aL wd l = 0) (h4 : 4096 < (l.room wd).1) : eL wd l = 3 ∧ szL wd l = 0 ∧ alL wd l = 0 := by
 have h1 : eL wd l = 3 := by rw [eL_asked, if_neg (by omega), if_pos h4]
 refine ⟨h1, ?_, ?_⟩
 ·unfold szL; rw [if_neg (by omega)]
 ·unfold alL; rw [if_neg (by omega)]
theorem eL_good {wd : Int} {l : Lay} (h : aL wd l = 0) (h4 : ¬ 4096 < (l.room wd).1) : eL wd l = 0 ∧ szL wd l = (l.room wd).1 ∧ alL wd l = (l.room wd).2 := by
 have h1 : eL wd l = 0 := by rw [eL_asked, if_neg (by omega), if_neg h4]
 refine ⟨h1, ?_, ?_⟩
 ·unfold szL; rw [if_pos h1]
 ·unfold alL; rw [if_pos h1]
theorem tgt_any (wd : Int) (b : Bool) (w : World) : Calls Try.prog 37 #[tgW wd b] w (R1 w (.int .i64 (tgE wd))) := by
 unfold R1
 obtain ⟨w1, hw1⟩ : ∃ w1, w.alloc (.cells #[.int .i64 wd, .bool b] 26) = w1 := ⟨_, rfl⟩
 obtain ⟨hq1, hs1, hc⟩ := box1 hw1
 have k0 := hc 0 _ rfl
 have HW1 := hide hw1
 have d2 : (wd != 2) = !decide (wd = 2) := by by_cases h : wd = 2 <;> simp [h]
 have d4 : (wd != 4) = !decide (wd = 4) := by by_cases h : wd = 4 <;> simp [h]
 have d8 : (wd != 8) = !decide (wd = 8) := by by_cases h : wd = 8 <;> simp [h]
 have HR : Hid (tgE wd = if (decide (wd = 2) || (decide (wd = 4) || decide (wd = 8))) = true then 0 else 1) := hide (by unfold tgE okW; simp)
 have D2 := hide d2
 have D4 := hide d4
 have D8 := hide d8
 clear hw1 hc d2 d4 d8
 obtain ⟨a2, h2⟩ : ∃ a, decide (wd = 2) = a := ⟨_, rfl⟩
 obtain ⟨a4, h4⟩ : ∃ a, decide (wd = 4) = a := ⟨_, rfl⟩
 obtain ⟨a8, h8⟩ : ∃ a, decide (wd = 8) = a := ⟨_, rfl⟩
 rw [h2] at D2 HR
 rw [h4] at D4 HR
 rw [h8] at D8 HR
 have d2 := D2.out
 have d4 := D4.out
 have d8 := D8.out
 clear h2 h4 h8
 cases a2
 ·cases a4
  ·cases a8
   ·go_enter Try.func37, Try.ntmps37
    go_upto_region 1 with fail
    rw [HW1.out]
    go_wp2_with fail
    go_ret
    exact ⟨by rw [HR.out]; rfl, hq1⟩
   ·go_enter Try.func37, Try.ntmps37
    go_upto_region 1 with fail
    rw [HW1.out]
    go_wp2_with fail
    go_ret
    exact ⟨by rw [HR.out]; rfl, hq1⟩
  ·go_enter Try.func37, Try.ntmps37
   go_upto_region 1 with fail
   rw [HW1.out]
   go_wp2_with fail
   go_ret
   exact ⟨by rw [HR.out]; rfl, hq1⟩
 ·go_enter Try.func37, Try.ntmps37
  go_upto_region 1 with fail
  rw [HW1.out]
  go_wp2_with fail
  go_ret
  exact ⟨by rw [HR.out]; rfl, hq1⟩
theorem tgt05_any (wd : Int) (b : Bool) (w : World) : Calls Try.prog 73 #[tgW wd b] w (R1 w (.int .i64 (tgE wd))) := by
 unfold R1
 obtain ⟨w1, hw1⟩ : ∃ w1, w.alloc (.cells #[.int .i64 wd, .bool b] 26) = w1 := ⟨_, rfl⟩
 obtain ⟨hq1, hs1, hc⟩ := box1 hw1
 have k0 := hc 0 _ rfl
 have HW1 := hide hw1
 have d2 : (wd != 2) = !decide (wd = 2) := by by_cases h : wd = 2 <;> simp [h]
 have d4 : (wd != 4) = !decide (wd = 4) := by by_cases h : wd = 4 <;> simp [h]
 have d8 : (wd != 8) = !decide (wd = 8) := by by_cases h : wd = 8 <;> simp [h]
 have HR : Hid (tgE wd = if (decide (wd = 2) || (decide (wd = 4) || decide (wd = 8))) = true then 0 else 1) := hide (by unfold tgE okW; simp)
 have D2 := hide d2
 have D4 := hide d4
 have D8 := hide d8
 clear hw1 hc d2 d4 d8
 obtain ⟨a2, h2⟩ : ∃ a, decide (wd = 2) = a := ⟨_, rfl⟩
 obtain ⟨a4, h4⟩ : ∃ a, decide (wd = 4) = a := ⟨_, rfl⟩
 obtain ⟨a8, h8⟩ : ∃ a, decide (wd = 8) = a := ⟨_, rfl⟩
 rw [h2] at D2 HR
 rw [h4] at D4 HR
 rw [h8] at D8 HR
 have d2 := D2.out
 have d4 := D4.out
 have d8 := D8.out
 clear h2 h4 h8
 cases a2
 ·cases a4
  ·cases a8
   ·go_enter Try.func73, Try.ntmps73
    go_upto_region 1 with fail
    rw [HW1.out]
    go_wp2_with fail
    go_ret
    exact ⟨by rw [HR.out]; rfl, hq1⟩
   ·go_enter Try.func73, Try.ntmps73
    go_upto_region 1 with fail
    rw [HW1.out]
    go_wp2_with fail
    go_ret
    exact ⟨by rw [HR.out]; rfl, hq1⟩
  ·go_enter Try.func73, Try.ntmps73
   go_upto_region 1 with fail
   rw [HW1.out]
   go_wp2_with fail
   go_ret
   exact ⟨by rw [HR.out]; rfl, hq1⟩
 ·go_enter Try.func73, Try.ntmps73
  go_upto_region 1 with fail
  rw [HW1.out]
  go_wp2_with fail
  go_ret
  exact ⟨by rw [HR.out]; rfl, hq1⟩
theorem asked_any {w : World} {l : Lay} (h : LayR w l) (hc : l.count ≤ 1048576) (wd : Int) (b : Bool) : ∀ W, Q w W → Calls Try.prog 32 #[l.v, tgW wd b] W (R1 W (.int .i64 (aL wd l))) := by
 intro W hqW
 unfold R1
 obtain ⟨k, n, f, A, len, cap, hlv⟩ : ∃ k n f A len cap, l.v = .agg #[.int .i64 k, .int .i64 n, .bool f, .slice A len cap] := by cases l; exact ⟨_, _, _, _, _, _, rfl⟩
 have HLV := hide hlv
 rw [hlv]
 clear hlv
 obtain ⟨w2, hw2⟩ : ∃ w2, (W.alloc (.cells #[.int .i64 k, .int .i64 n, .bool f, .slice A len cap] 24)).alloc (.cells #[.int .i64 wd, .bool b] 26) = w2 := ⟨_, rfl⟩
 obtain ⟨hq2, hs2, hc2, hd2⟩ := box2 hw2
 have hb0 : W.heap.size < w2.heap.size := by omega
 have hb1 : W.heap.size + 1 < w2.heap.size := by omega
 have KA := hide fun X (hX : Q w2 X) => (cs42 hX hb0 hc2 hb1 hd2 : Cs42 X W.heap.size (.int .i64 k) (.int .i64 n) (.bool f) (.slice A len cap) (W.heap.size + 1) (.int .i64 wd) (.bool b))
 have HW2 := hide hw2
 have HWQ := hide (hqW.trans hq2)
 have HQ2 := hide hq2
 have H := hide h
 clear h hw2 hq2 hqW hc2 hd2
 obtain ⟨ve, hve⟩ : ∃ ve, validL l = ve := ⟨_, rfl⟩
 have HRES : Hid (aL wd l = if ve ≠ 0 then ve else tgE wd) := hide (by unfold aL; rw [hve])
 have HVE := hide hve
 clear hve
 have Q22 := hide (Q.refl w2)
 obtain ⟨k0, k1, k2, k3, t0, t1⟩ := KA.out w2 Q22.out
 go_enter Try.func32, Try.ntmps32
 go_upto_region 1 with fail
 rw [HW2.out]
 have HC3 := hide (Validate_any H.out hc w2 (HWQ.out.trans Q22.out))
 rw [HLV.out] at HC3
 unfold R1 at HC3
 go_wp2_with fail
 refine HC3.out.mono ?_
 rintro e w3 ⟨rfl, hq3⟩
 have Q23 := hide (Q22.out.trans hq3)
 clear hq3 k0 k1 k2 k3 t0 t1
 obtain ⟨k0, k1, k2, k3, t0, t1⟩ := KA.out w3 Q23.out
 rw [HVE.out]
 by_cases hz : ve = 0
 ·have dz : (ve != 0) = false := by simp [hz]
  have HZ := hide hz
  clear hz
  have HC4 := hide (tgt_any wd b w3)
  unfold R1 at HC4
  go_wp2_with fail
  refine HC4.out.mono ?_
  rintro e w4 ⟨rfl, hq4⟩
  have Q24 := hide (Q23.out.trans hq4)
  clear hq4 k0 k1 k2 k3 t0 t1
  obtain ⟨k0, k1, k2, k3, t0, t1⟩ := KA.out w4 Q24.out
  go_wp2_with fail
  go_ret
  exact ⟨by rw [HRES.out, if_neg (by have := HZ.out; omega)] <;> rfl, HQ2.out.trans Q24.out⟩
 ·have dz : (ve != 0) = true := by simp [hz]
  have HZ := hide hz
  clear hz
  go_wp2_with fail
  go_ret
  exact ⟨by rw [HRES.out, if_pos HZ.out] <;> rfl, HQ2.out.trans Q23.out⟩
theorem Both_any {w : World} {l : Lay} (h : LayR w l) (hc : l.count ≤ 1048576) (wd : Int) (b : Bool) : ∀ W, Q w W → Calls Try.prog 75 #[l.v, tgW wd b] W (R1 W (.int .i64 (aL wd l))) := by
 intro W hqW
 unfold R1
 obtain ⟨k, n, f, A, len, cap, hlv⟩ : ∃ k n f A len cap, l.v = .agg #[.int .i64 k, .int .i64 n, .bool f, .slice A len cap] := by cases l; exact ⟨_, _, _, _, _, _, rfl⟩
 have HLV := hide hlv
 rw [hlv]
 clear hlv
 obtain ⟨w2, hw2⟩ : ∃ w2, (W.alloc (.cells #[.int .i64 k, .int .i64 n, .bool f, .slice A len cap] 24)).alloc (.cells #[.int .i64 wd, .bool b] 26) = w2 := ⟨_, rfl⟩
 obtain ⟨hq2, hs2, hc2, hd2⟩ := box2 hw2
 have hb0 : W.heap.size < w2.heap.size := by omega
 have hb1 : W.heap.size + 1 < w2.heap.size := by omega
 have KA := hide fun X (hX : Q w2 X) => (cs42 hX hb0 hc2 hb1 hd2 : Cs42 X W.heap.size (.int .i64 k) (.int .i64 n) (.bool f) (.slice A len cap) (W.heap.size + 1) (.int .i64 wd) (.bool b))
 have HW2 := hide hw2
 have HWQ := hide (hqW.trans hq2)
 have HQ2 := hide hq2
 have H := hide h
 clear h hw2 hq2 hqW hc2 hd2
 obtain ⟨ve, hve⟩ : ∃ ve, validL l = ve := ⟨_, rfl⟩
 have HRES : Hid (aL wd l = if ve ≠ 0 then ve else tgE wd) := hide (by unfold aL; rw [hve])
 have HVE := hide hve
 clear hve
 have Q22 := hide (Q.refl w2)
 obtain ⟨k0, k1, k2, k3, t0, t1⟩ := KA.out w2 Q22.out
 go_enter Try.func75, Try.ntmps75
 go_upto_region 1 with fail
 rw [HW2.out]
 have HC3 := hide (Validate05_any H.out hc w2 (HWQ.out.trans Q22.out))
 rw [HLV.out] at HC3
 unfold R1 at HC3
 go_wp2_with fail
 refine HC3.out.mono ?_
 rintro e w3 ⟨rfl, hq3⟩
 have Q23 := hide (Q22.out.trans hq3)
 clear hq3 k0 k1 k2 k3 t0 t1
 obtain ⟨k0, k1, k2, k3, t0, t1⟩ := KA.out w3 Q23.out
 rw [HVE.out]
 by_cases hz : ve = 0
 ·have dz : (ve != 0) = false := by simp [hz]
  have HZ := hide hz
  clear hz
  have HC4 := hide (tgt05_any wd b w3)
  unfold R1 at HC4
  go_wp2_with fail
  refine HC4.out.mono ?_
  rintro e w4 ⟨rfl, hq4⟩
  have Q24 := hide (Q23.out.trans hq4)
  clear hq4 k0 k1 k2 k3 t0 t1
  obtain ⟨k0, k1, k2, k3, t0, t1⟩ := KA.out w4 Q24.out
  go_wp2_with fail
  go_ret
  exact ⟨by rw [HRES.out, if_neg (by have := HZ.out; omega)] <;> rfl, HQ2.out.trans Q24.out⟩
 ·have dz : (ve != 0) = true := by simp [hz]
  have HZ := hide hz
  clear hz
  go_wp2_with fail
  go_ret
  exact ⟨by rw [HRES.out, if_pos HZ.out] <;> rfl, HQ2.out.trans Q23.out⟩
theorem fld86_0 (a c : Int) (X : World) : Sem.run Try.prog (Instr.field 86 (.agg #[.int .i64 a, .int .i64 c]) 0) X = .ok (.int .i64 a) X := by kernel_rfl
theorem fld86_1 (a c : Int) (X : World) : Sem.run Try.prog (Instr.field 86 (.agg #[.int .i64 a, .int .i64 c]) 1) X = .ok (.int .i64 c) X := by kernel_rfl
theorem sized_any {w : World} {l : Lay} (h : LayR w l) (hc : l.count ≤ 1048576) (wd : Int) (b : Bool) (hv : validL l = 0) (hw : okW wd) : ∀ W, Q w W → Calls Try.prog 33 #[l.v, tgW wd b] W (R1 W (.tuple #[rmV (rmX wd l), .int .i64 (lgX wd l)])) := by
 intro W hqW
 unfold R1
 have hfr := fr_valid h hv
 have hvl := (valid_VL hv).1
 obtain ⟨k, n, f, A, len, cap, hlv⟩ : ∃ k n f A len cap, l.v = .agg #[.int .i64 k, .int .i64 n, .bool f, .slice A len cap] := by cases l; exact ⟨_, _, _, _, _, _, rfl⟩
 have HLV := hide hlv
 rw [hlv]
 clear hlv
 obtain ⟨w2, hw2⟩ : ∃ w2, ((W.alloc (.cells #[.int .i64 k, .int .i64 n, .bool f, .slice A len cap] 24)).alloc (.cells #[.int .i64 wd, .bool b] 26)).alloc (.cells #[.int .i64 0, .int .i64 0] 65) = w2 := ⟨_, rfl⟩
 obtain ⟨hq2, hs2, hc2, hd2, he2⟩ := box3 hw2
 have hb0 : W.heap.size < w2.heap.size := by omega
 have hb1 : W.heap.size + 1 < w2.heap.size := by omega
 have hb2 : W.heap.size + 2 < w2.heap.size := by omega
 have KA := hide fun X (hX : Q w2 X) => (cs42 hX hb0 hc2 hb1 hd2 : Cs42 X W.heap.size (.int .i64 k) (.int .i64 n) (.bool f) (.slice A len cap) (W.heap.size + 1) (.int .i64 wd) (.bool b))
 have Z0 := hide (he2 0 _ rfl)
 have Z1 := hide (he2 1 _ rfl)
 have kb : w2.heap[W.heap.size + 2]? = some (.cells #[.int .i64 0, .int .i64 0] 65 (0, 0)) := by
  have h9 := heap_alloc_new ((W.alloc (.cells #[.int .i64 k, .int .i64 n, .bool f, .slice A len cap] 24)).alloc (.cells #[.int .i64 wd, .bool b] 26)) (.cells #[.int .i64 0, .int .i64 0] 65)
  rw [hw2] at h9
  simpa using h9
 have Y0 := hide (frz_new (j := 0) kb)
 have Y1 := hide (frz_new (j := 1) kb)
 clear kb
 have HW2 := hide hw2
 have HWQ := hide (hqW.trans hq2)
 have HQ2 := hide hq2
 have H := hide h
 clear h hw2 hq2 hqW hc2 hd2 he2
 obtain ⟨sz, hsz⟩ : ∃ sz, (l.room wd).1 = sz := ⟨_, rfl⟩
 obtain ⟨al, hal⟩ : ∃ al, (l.room wd).2 = al := ⟨_, rfl⟩
 have hrm : l.room wd = (sz, al) := by rw [← hsz, ← hal]
 have HRM := hide hrm
 have HRO := hide (fun W' hW' => roomOf_any H.out wd b hw hvl hfr W' hW')
 have HSZ := hide hsz
 rw [hrm] at HRO
 clear hsz hal hrm
 have Q22 := hide (Q.refl w2)
 obtain ⟨k0, k1, k2, k3, t0, t1⟩ := KA.out w2 Q22.out
 go_enter Try.func33, Try.ntmps33
 go_upto_region 1 with fail
 rw [HW2.out]
 have HC3 := hide (HRO.out w2 (HWQ.out.trans Q22.out))
 rw [HLV.out] at HC3
 unfold R1 at HC3
 go_wp2_with fail
 refine HC3.out.mono ?_
 rintro e w3 ⟨rfl, hq3⟩
 have Q23 := hide (Q22.out.trans hq3)
 clear hq3 k0 k1 k2 k3 t0 t1
 obtain ⟨k0, k1, k2, k3, t0, t1⟩ := KA.out w3 Q23.out
 have ff0 := fld86_0 sz al
 have ff1 := fld86_1 sz al
 obtain ⟨w4, hw4⟩ : ∃ w4, w3.alloc (.cells #[.int .i64 sz, .int .i64 al] 65) = w4 := ⟨_, rfl⟩
 obtain ⟨hq4, hs4, hc4⟩ := box1 hw4
 have r0 := hc4 0 _ rfl
 have r1 := hc4 1 _ rfl
 have Q24 := hide (Q23.out.trans hq4)
 have HW4 := hide hw4
 clear hw4 hc4 hq4 k0 k1 k2 k3 t0 t1
 by_cases hz : 4096 < sz
 ·have dz : decide (4096 < sz) = true := by simp [hz]
  have RX := hide (lgX_pos (wd := wd) (l := l) (by rw [HSZ.out]; exact hz))
  clear hz
  have z0 := (Q24.out.facts.1 _ 0 hb2).trans Z0.out
  have z1 := (Q24.out.facts.1 _ 1 hb2).trans Z1.out
  have y0 := (Q24.out.facts.2.1 _ 0 hb2).trans Y0.out
  have y1 := (Q24.out.facts.2.1 _ 1 hb2).trans Y1.out
  obtain ⟨s0, s1⟩ := set2c (v0 := .int .i64 0) (v1 := .int .i64 0) z0 z1
  have S0 := hide s0
  have S1 := hide s1
  have HQS := hide (((HQ2.out.trans Q24.out).set (p := ⟨W.heap.size + 2, 0, none⟩) (by simp) (.int .i64 0)).set (p := ⟨W.heap.size + 2, 1, none⟩) (by simp) (.int .i64 0))
  clear s0 s1
  go_upto_region 2 with fail
  rw [HW4.out]
  go_wp2_with fail
  have s0 := S0.out
  have s1 := S1.out
  refine bodyPost_ret (v := .tuple #[rmV (0, 0), .int .i64 3]) (by simp [results, Try.results33, go_sem, s0, s1]) rfl ?_
  exact ⟨by rw [RX.out.1, RX.out.2] <;> rfl, HQS.out⟩
 ·have dz : decide (4096 < sz) = false := by simp [hz]
  have RX := hide (lgX_neg (wd := wd) (l := l) (by rw [HSZ.out]; exact hz))
  clear hz
  have z0 := (Q24.out.facts.1 _ 0 hb2).trans Z0.out
  have z1 := (Q24.out.facts.1 _ 1 hb2).trans Z1.out
  have y0 := (Q24.out.facts.2.1 _ 0 hb2).trans Y0.out
  have y1 := (Q24.out.facts.2.1 _ 1 hb2).trans Y1.out
  obtain ⟨s0, s1⟩ := set2c (v0 := .int .i64 sz) (v1 := .int .i64 al) z0 z1
  have S0 := hide s0
  have S1 := hide s1
  have HQS := hide (((HQ2.out.trans Q24.out).set (p := ⟨W.heap.size + 2, 0, none⟩) (by simp) (.int .i64 sz)).set (p := ⟨W.heap.size + 2, 1, none⟩) (by simp) (.int .i64 al))
  clear s0 s1
  go_upto_region 2 with fail
  rw [HW4.out]
  go_wp2_with fail
  have s0 := S0.out
  have s1 := S1.out
  refine bodyPost_ret (v := .tuple #[rmV (sz, al), .int .i64 0]) (by simp [results, Try.results33, go_sem, s0, s1]) rfl ?_
  exact ⟨by rw [RX.out.1, RX.out.2, HRM.out] <;> rfl, HQS.out⟩
theorem Size_any {w : World} {l : Lay} (h : LayR w l) (hc : l.count ≤ 1048576) (wd : Int) (b : Bool) : ∀ W, Q w W → Calls Try.prog 10 #[l.v, tgW wd b] W (R1 W (.tuple #[.int .i64 (szL wd l), .int .i64 (eL wd l)])) := by
 intro W hqW
 unfold R1
 obtain ⟨k, n, f, A, len, cap, hlv⟩ : ∃ k n f A len cap, l.v = .agg #[.int .i64 k, .int .i64 n, .bool f, .slice A len cap] := by cases l; exact ⟨_, _, _, _, _, _, rfl⟩
 have HLV := hide hlv
 rw [hlv]
 clear hlv
 obtain ⟨w2, hw2⟩ : ∃ w2, (W.alloc (.cells #[.int .i64 k, .int .i64 n, .bool f, .slice A len cap] 24)).alloc (.cells #[.int .i64 wd, .bool b] 26) = w2 := ⟨_, rfl⟩
 obtain ⟨hq2, hs2, hc2, hd2⟩ := box2 hw2
 have hb0 : W.heap.size < w2.heap.size := by omega
 have hb1 : W.heap.size + 1 < w2.heap.size := by omega
 have KA := hide fun X (hX : Q w2 X) => (cs42 hX hb0 hc2 hb1 hd2 : Cs42 X W.heap.size (.int .i64 k) (.int .i64 n) (.bool f) (.slice A len cap) (W.heap.size + 1) (.int .i64 wd) (.bool b))
 have HW2 := hide hw2
 have HWQ := hide (hqW.trans hq2)
 have HQ2 := hide hq2
 have H := hide h
 clear h hw2 hq2 hqW hc2 hd2
 have HAE := hide (rfl : aL wd l = aL wd l)
 have Q22 := hide (Q.refl w2)
 obtain ⟨k0, k1, k2, k3, t0, t1⟩ := KA.out w2 Q22.out
 go_enter Try.func10, Try.ntmps10
 go_upto_region 1 with fail
 rw [HW2.out]
 have HC3 := hide (asked_any H.out hc wd b w2 (HWQ.out.trans Q22.out))
 rw [HLV.out] at HC3
 unfold R1 at HC3
 go_wp2_with fail
 refine HC3.out.mono ?_
 rintro e w3 ⟨rfl, hq3⟩
 have Q23 := hide (Q22.out.trans hq3)
 clear hq3 k0 k1 k2 k3 t0 t1
 obtain ⟨k0, k1, k2, k3, t0, t1⟩ := KA.out w3 Q23.out
 by_cases hz : aL wd l = 0
 ·obtain ⟨hval, hw⟩ := aL_zero hz
  have HZ := hide hz
  rw [hz]
  clear hz
  have HC4 := hide (sized_any H.out hc wd b hval hw w3 (HWQ.out.trans Q23.out))
  rw [HLV.out] at HC4
  unfold R1 at HC4
  go_wp2_with fail
  refine HC4.out.mono ?_
  rintro e w4 ⟨rfl, hq4⟩
  have Q24 := hide (Q23.out.trans hq4)
  clear hq4 k0 k1 k2 k3 t0 t1
  obtain ⟨k0, k1, k2, k3, t0, t1⟩ := KA.out w4 Q24.out
  by_cases h4 : 4096 < (l.room wd).1
  ·obtain ⟨x1, x2⟩ := lgX_pos h4
   rw [x1, x2]
   obtain ⟨r1, r2, -⟩ := eL_large HZ.out h4
   have RES := hide (show eL wd l = 3 ∧ szL wd l = 0 from ⟨r1, r2⟩)
   clear r1 r2 h4 x1 x2
   obtain ⟨w5, hw5⟩ : ∃ w5, w4.alloc (.cells #[.int .i64 0, .int .i64 0] 65) = w5 := ⟨_, rfl⟩
   obtain ⟨hq5, hs5, hc5⟩ := box1 hw5
   have r0 := hc5 0 _ rfl
   have HW5 := hide hw5
   have Q25 := hide (Q24.out.trans hq5)
   clear hw5 hc5 hq5
   go_upto_region 5 with fail
   rw [HW5.out]
   go_wp2_with fail
   go_ret2
   exact ⟨by rw [RES.out.1, RES.out.2] <;> rfl, HQ2.out.trans Q25.out⟩
  ·obtain ⟨x1, x2⟩ := lgX_neg h4
   rw [x1, x2]
   obtain ⟨r1, r2, -⟩ := eL_good HZ.out h4
   obtain ⟨sz, hsz⟩ : ∃ sz, (l.room wd).1 = sz := ⟨_, rfl⟩
   obtain ⟨al, hal⟩ : ∃ al, (l.room wd).2 = al := ⟨_, rfl⟩
   rw [show l.room wd = (sz, al) by rw [← hsz, ← hal]]
   have RES := hide (show eL wd l = 0 ∧ szL wd l = sz from ⟨r1, r2.trans hsz⟩)
   clear hsz hal r1 r2 h4 x1 x2
   obtain ⟨w5, hw5⟩ : ∃ w5, w4.alloc (.cells #[.int .i64 sz, .int .i64 al] 65) = w5 := ⟨_, rfl⟩
   obtain ⟨hq5, hs5, hc5⟩ := box1 hw5
   have r0 := hc5 0 _ rfl
   have HW5 := hide hw5
   have Q25 := hide (Q24.out.trans hq5)
   clear hw5 hc5 hq5
   go_upto_region 5 with fail
   rw [HW5.out]
   go_wp2_with fail
   go_ret2
   exact ⟨by rw [RES.out.1, RES.out.2] <;> rfl, HQ2.out.trans Q25.out⟩
 ·obtain ⟨r1, r2, -⟩ := eL_bad hz
  have RES := hide (show szL wd l = 0 ∧ eL wd l = aL wd l from ⟨r2, r1⟩)
  obtain ⟨ea, hea⟩ : ∃ ea, aL wd l = ea := ⟨_, rfl⟩
  rw [hea] at hz RES ⊢
  have dz : (ea != 0) = true := by simp [hz]
  clear r1 r2 hea hz
  go_wp2_with fail
  go_ret2
  exact ⟨by rw [RES.out.1, RES.out.2] <;> rfl, HQ2.out.trans Q23.out⟩
theorem large_any {w : World} {l : Lay} (h : LayR w l) (hc : l.count ≤ 1048576) (wd : Int) (b : Bool) (hv : validL l = 0) (hw : okW wd) : ∀ W, Q w W → Calls Try.prog 76 #[l.v, tgW wd b] W (R1 W (.int .i64 (lgX wd l))) := by
 intro W hqW
 unfold R1
 have hfr := fr_valid h hv
 have hvl := (valid_VL hv).1
 obtain ⟨k, n, f, A, len, cap, hlv⟩ : ∃ k n f A len cap, l.v = .agg #[.int .i64 k, .int .i64 n, .bool f, .slice A len cap] := by cases l; exact ⟨_, _, _, _, _, _, rfl⟩
 have HLV := hide hlv
 rw [hlv]
 clear hlv
 obtain ⟨w2, hw2⟩ : ∃ w2, (W.alloc (.cells #[.int .i64 k, .int .i64 n, .bool f, .slice A len cap] 24)).alloc (.cells #[.int .i64 wd, .bool b] 26) = w2 := ⟨_, rfl⟩
 obtain ⟨hq2, hs2, hc2, hd2⟩ := box2 hw2
 have hb0 : W.heap.size < w2.heap.size := by omega
 have hb1 : W.heap.size + 1 < w2.heap.size := by omega
 have KA := hide fun X (hX : Q w2 X) => (cs42 hX hb0 hc2 hb1 hd2 : Cs42 X W.heap.size (.int .i64 k) (.int .i64 n) (.bool f) (.slice A len cap) (W.heap.size + 1) (.int .i64 wd) (.bool b))
 have HW2 := hide hw2
 have HWQ := hide (hqW.trans hq2)
 have HQ2 := hide hq2
 have H := hide h
 clear h hw2 hq2 hqW hc2 hd2
 obtain ⟨sz, hsz⟩ : ∃ sz, (l.room wd).1 = sz := ⟨_, rfl⟩
 obtain ⟨al, hal⟩ : ∃ al, (l.room wd).2 = al := ⟨_, rfl⟩
 have HRO := hide (fun W' hW' => Of_any H.out wd b hw hvl hfr W' hW')
 rw [show l.room wd = (sz, al) by rw [← hsz, ← hal], show rmV (sz, al) = .agg #[.int .i64 sz, .int .i64 al] from rfl] at HRO
 have HSZ := hide hsz
 clear hsz hal
 have Q22 := hide (Q.refl w2)
 obtain ⟨k0, k1, k2, k3, t0, t1⟩ := KA.out w2 Q22.out
 go_enter Try.func76, Try.ntmps76
 go_upto_region 1 with fail
 rw [HW2.out]
 have HC3 := hide (HRO.out w2 (HWQ.out.trans Q22.out))
 rw [HLV.out] at HC3
 unfold R1 at HC3
 go_wp2_with fail
 refine HC3.out.mono ?_
 rintro e w3 ⟨rfl, hq3⟩
 have Q23 := hide (Q22.out.trans hq3)
 clear hq3 k0 k1 k2 k3 t0 t1
 obtain ⟨k0, k1, k2, k3, t0, t1⟩ := KA.out w3 Q23.out
 have ff0 := fld86_0 sz al
 have ff1 := fld86_1 sz al
 by_cases hz : 4096 < sz
 ·have dz : decide (4096 < sz) = true := by simp [hz]
  have RX := hide (lgX_pos (wd := wd) (l := l) (by rw [HSZ.out]; exact hz)).2
  clear hz
  go_wp2_with fail
  go_ret
  exact ⟨by rw [RX.out] <;> rfl, HQ2.out.trans Q23.out⟩
 ·have dz : decide (4096 < sz) = false := by simp [hz]
  have RX := hide (lgX_neg (wd := wd) (l := l) (by rw [HSZ.out]; exact hz)).2
  clear hz
  go_wp2_with fail
  go_ret
  exact ⟨by rw [RX.out] <;> rfl, HQ2.out.trans Q23.out⟩
theorem Size05_any {w : World} {l : Lay} (h : LayR w l) (hc : l.count ≤ 1048576) (wd : Int) (b : Bool) : ∀ W, Q w W → Calls Try.prog 49 #[l.v, tgW wd b] W (R1 W (.tuple #[.int .i64 (szL wd l), .int .i64 (eL wd l)])) := by
 intro W hqW
 unfold R1
 obtain ⟨k, n, f, A, len, cap, hlv⟩ : ∃ k n f A len cap, l.v = .agg #[.int .i64 k, .int .i64 n, .bool f, .slice A len cap] := by cases l; exact ⟨_, _, _, _, _, _, rfl⟩
 have HLV := hide hlv
 rw [hlv]
 clear hlv
 obtain ⟨w2, hw2⟩ : ∃ w2, (W.alloc (.cells #[.int .i64 k, .int .i64 n, .bool f, .slice A len cap] 24)).alloc (.cells #[.int .i64 wd, .bool b] 26) = w2 := ⟨_, rfl⟩
 obtain ⟨hq2, hs2, hc2, hd2⟩ := box2 hw2
 have hb0 : W.heap.size < w2.heap.size := by omega
 have hb1 : W.heap.size + 1 < w2.heap.size := by omega
 have KA := hide fun X (hX : Q w2 X) => (cs42 hX hb0 hc2 hb1 hd2 : Cs42 X W.heap.size (.int .i64 k) (.int .i64 n) (.bool f) (.slice A len cap) (W.heap.size + 1) (.int .i64 wd) (.bool b))
 have HW2 := hide hw2
 have HWQ := hide (hqW.trans hq2)
 have HQ2 := hide hq2
 have H := hide h
 clear h hw2 hq2 hqW hc2 hd2
 have Q22 := hide (Q.refl w2)
 obtain ⟨k0, k1, k2, k3, t0, t1⟩ := KA.out w2 Q22.out
 go_enter Try.func49, Try.ntmps49
 go_upto_region 1 with fail
 rw [HW2.out]
 have HC3 := hide (Both_any H.out hc wd b w2 (HWQ.out.trans Q22.out))
 rw [HLV.out] at HC3
 unfold R1 at HC3
 go_wp2_with fail
 refine HC3.out.mono ?_
 rintro e w3 ⟨rfl, hq3⟩
 have Q23 := hide (Q22.out.trans hq3)
 clear hq3 k0 k1 k2 k3 t0 t1
 obtain ⟨k0, k1, k2, k3, t0, t1⟩ := KA.out w3 Q23.out
 by_cases hz : aL wd l = 0
 ·obtain ⟨hval, hw⟩ := aL_zero hz
  have HZ := hide hz
  have hfr := fr_valid H.out hval
  have hvl := (valid_VL hval).1
  have HRO := hide (fun W' hW' => Of_any H.out wd b hw hvl hfr W' hW')
  rw [hz]
  clear hz
  have HC4 := hide (large_any H.out hc wd b hval hw w3 (HWQ.out.trans Q23.out))
  rw [HLV.out] at HC4
  unfold R1 at HC4
  go_wp2_with fail
  refine HC4.out.mono ?_
  rintro e w4 ⟨rfl, hq4⟩
  have Q24 := hide (Q23.out.trans hq4)
  clear hq4 k0 k1 k2 k3 t0 t1
  obtain ⟨k0, k1, k2, k3, t0, t1⟩ := KA.out w4 Q24.out
  by_cases h4 : 4096 < (l.room wd).1
  ·rw [(lgX_pos h4).2]
   obtain ⟨r1, r2, -⟩ := eL_large HZ.out h4
   have RES := hide (show eL wd l = 3 ∧ szL wd l = 0 from ⟨r1, r2⟩)
   clear r1 r2 h4
   go_wp2_with fail
   go_ret2
   exact ⟨by rw [RES.out.1, RES.out.2] <;> rfl, HQ2.out.trans Q24.out⟩
  ·rw [(lgX_neg h4).2]
   obtain ⟨r1, r2, -⟩ := eL_good HZ.out h4
   obtain ⟨sz, hsz⟩ : ∃ sz, (l.room wd).1 = sz := ⟨_, rfl⟩
   obtain ⟨al, hal⟩ : ∃ al, (l.room wd).2 = al := ⟨_, rfl⟩
   rw [show l.room wd = (sz, al) by rw [← hsz, ← hal], show rmV (sz, al) = .agg #[.int .i64 sz, .int .i64 al] from rfl] at HRO
   have RES := hide (show eL wd l = 0 ∧ szL wd l = sz from ⟨r1, r2.trans hsz⟩)
   clear r1 r2 h4 hsz hal
   have HC5 := hide (HRO.out w4 (HWQ.out.trans Q24.out))
   rw [HLV.out] at HC5
   unfold R1 at HC5
   go_wp2_with fail
   refine HC5.out.mono ?_
   rintro e w5 ⟨rfl, hq5⟩
   have Q25 := hide (Q24.out.trans hq5)
   clear hq5 k0 k1 k2 k3 t0 t1
   obtain ⟨k0, k1, k2, k3, t0, t1⟩ := KA.out w5 Q25.out
   have ff0 := fld86_0 sz al
   have ff1 := fld86_1 sz al
   go_wp2_with fail
   go_ret2
   exact ⟨by rw [RES.out.1, RES.out.2] <;> rfl, HQ2.out.trans Q25.out⟩
 ·obtain ⟨r1, r2, r3⟩ := eL_bad hz
  have RES := hide (show szL wd l = 0 ∧ eL wd l = aL wd l from ⟨r2, r1⟩)
  obtain ⟨ea, hea⟩ : ∃ ea, aL wd l = ea := ⟨_, rfl⟩
  rw [hea] at hz RES ⊢
  have dz : (ea != 0) = true := by simp [hz]
  clear r1 r2 r3 hea hz
  go_wp2_with fail
  go_ret2
  exact ⟨by rw [RES.out.1, RES.out.2] <;> rfl, HQ2.out.trans Q23.out⟩
theorem csize_any {w : World} {l : Lay} (h : LayR w l) (hc : l.count ≤ 1048576) (wd : Int) (b : Bool) : ∀ W, Q w W → Calls Try.prog 44 #[tgW wd b, l.v] W (R1 W (.int .i64 (szL wd l))) := by
 intro W hqW
 unfold R1
 obtain ⟨k, n, f, A, len, cap, hlv⟩ : ∃ k n f A len cap, l.v = .agg #[.int .i64 k, .int .i64 n, .bool f, .slice A len cap] := by cases l; exact ⟨_, _, _, _, _, _, rfl⟩
 have HLV := hide hlv
 rw [hlv]
 clear hlv
 obtain ⟨w2, hw2⟩ : ∃ w2, (W.alloc (.cells #[.int .i64 wd, .bool b] 60)).alloc (.cells #[.int .i64 k, .int .i64 n, .bool f, .slice A len cap] 24) = w2 := ⟨_, rfl⟩
 obtain ⟨hq2, hs2, hd2, hc2⟩ := box2 hw2
 have hb0 : W.heap.size < w2.heap.size := by omega
 have hb1 : W.heap.size + 1 < w2.heap.size := by omega
 have KA := hide fun X (hX : Q w2 X) => (cs42 hX hb1 hc2 hb0 hd2 : Cs42 X (W.heap.size + 1) (.int .i64 k) (.int .i64 n) (.bool f) (.slice A len cap) W.heap.size (.int .i64 wd) (.bool b))
 have HW2 := hide hw2
 have HWQ := hide (hqW.trans hq2)
 have HQ2 := hide hq2
 have H := hide h
 clear h hw2 hq2 hqW hd2 hc2
 have Q22 := hide (Q.refl w2)
 obtain ⟨k0, k1, k2, k3, t0, t1⟩ := KA.out w2 Q22.out
 go_enter Try.func44, Try.ntmps44
 go_upto_region 1 with fail
 rw [HW2.out]
 have HC3 := hide (Size_any H.out hc wd b w2 (HWQ.out.trans Q22.out))
 rw [HLV.out] at HC3
 unfold R1 at HC3
 go_wp2_with fail
 refine HC3.out.mono ?_
 rintro e w3 ⟨rfl, hq3⟩
 have Q23 := hide (Q22.out.trans hq3)
 clear hq3 k0 k1 k2 k3 t0 t1
 obtain ⟨k0, k1, k2, k3, t0, t1⟩ := KA.out w3 Q23.out
 go_wp2_with fail
 go_ret
 exact ⟨rfl, HQ2.out.trans Q23.out⟩
theorem rsize_any {w : World} {l : Lay} (h : LayR w l) (hc : l.count ≤ 1048576) (wd : Int) (b : Bool) : ∀ W, Q w W → Calls Try.prog 125 #[l.v, tgW wd b] W (R1 W (.int .i64 (szL wd l))) := by
 intro W hqW
 unfold R1
 obtain ⟨k, n, f, A, len, cap, hlv⟩ : ∃ k n f A len cap, l.v = .agg #[.int .i64 k, .int .i64 n, .bool f, .slice A len cap] := by cases l; exact ⟨_, _, _, _, _, _, rfl⟩
 have HLV := hide hlv
 rw [hlv]
 clear hlv
 obtain ⟨w2, hw2⟩ : ∃ w2, (W.alloc (.cells #[.int .i64 k, .int .i64 n, .bool f, .slice A len cap] 24)).alloc (.cells #[.int .i64 wd, .bool b] 26) = w2 := ⟨_, rfl⟩
 obtain ⟨hq2, hs2, hc2, hd2⟩ := box2 hw2
 have hb0 : W.heap.size < w2.heap.size := by omega
 have hb1 : W.heap.size + 1 < w2.heap.size := by omega
 have KA := hide fun X (hX : Q w2 X) => (cs42 hX hb0 hc2 hb1 hd2 : Cs42 X W.heap.size (.int .i64 k) (.int .i64 n) (.bool f) (.slice A len cap) (W.heap.size + 1) (.int .i64 wd) (.bool b))
 have HW2 := hide hw2
 have HWQ := hide (hqW.trans hq2)
 have HQ2 := hide hq2
 have H := hide h
 clear h hw2 hq2 hqW hc2 hd2
 have Q22 := hide (Q.refl w2)
 obtain ⟨k0, k1, k2, k3, t0, t1⟩ := KA.out w2 Q22.out
 go_enter Try.func125, Try.ntmps125
 go_upto_region 1 with fail
 rw [HW2.out]
 have HC3 := hide (Size05_any H.out hc wd b w2 (HWQ.out.trans Q22.out))
 rw [HLV.out] at HC3
 unfold R1 at HC3
 go_wp2_with fail
 refine HC3.out.mono ?_
 rintro e w3 ⟨rfl, hq3⟩
 have Q23 := hide (Q22.out.trans hq3)
 clear hq3 k0 k1 k2 k3 t0 t1
 obtain ⟨k0, k1, k2, k3, t0, t1⟩ := KA.out w3 Q23.out
 go_wp2_with fail
 go_ret
 exact ⟨rfl, HQ2.out.trans Q23.out⟩
def cdW (wd : Int) (l : Lay) : Int := if validL l = 0 then wd else 0
def cdB (b : Bool) (l : Lay) : Bool := decide (validL l = 0) && b
theorem cd_ok {wd : Int} {b : Bool} {l : Lay} (h : validL l = 0) : cdW wd l = wd ∧ cdB b l = b := by
 unfold cdW cdB
 simp [h]
theorem cd_bad {wd : Int} {b : Bool} {l : Lay} (h : validL l ≠ 0) : cdW wd l = 0 ∧ cdB b l = false ∧ szL wd l = 0 ∧ eL wd l = validL l := by
 have h1 : eL wd l = validL l := by unfold eL; rw [if_pos h]
 refine ⟨?_, ?_, ?_, h1⟩
 ·unfold cdW; rw [if_neg h]
 ·unfold cdB; simp [h]
 ·unfold szL; rw [if_neg (by omega)]
theorem eL_tgt {wd : Int} {l : Lay} (h : validL l = 0) (h2 : tgE wd ≠ 0) : eL wd l = tgE wd := by
 unfold eL
 rw [if_neg (by omega), if_pos h2]
theorem open_any {w : World} {l : Lay} (h : LayR w l) (hc : l.count ≤ 1048576) (wd : Int) (b : Bool) : ∀ W, Q w W → Calls Try.prog 40 #[l.v, tgW wd b] W (R1 W (.tuple #[tgW (cdW wd l) (cdB b l), .int .i64 (szL wd l), .int .i64 (eL wd l)])) := by
 intro W hqW
 unfold R1
 obtain ⟨k, n, f, A, len, cap, hlv⟩ : ∃ k n f A len cap, l.v = .agg #[.int .i64 k, .int .i64 n, .bool f, .slice A len cap] := by cases l; exact ⟨_, _, _, _, _, _, rfl⟩
 have HLV := hide hlv
 rw [hlv]
 clear hlv
 obtain ⟨w2, hw2⟩ : ∃ w2, ((W.alloc (.cells #[.int .i64 k, .int .i64 n, .bool f, .slice A len cap] 24)).alloc (.cells #[.int .i64 wd, .bool b] 26)).alloc (.cells #[.int .i64 0, .bool false] 60) = w2 := ⟨_, rfl⟩
 obtain ⟨hq2, hs2, hc2, hd2, he2⟩ := box3 hw2
 have hb0 : W.heap.size < w2.heap.size := by omega
 have hb1 : W.heap.size + 1 < w2.heap.size := by omega
 have hb2 : W.heap.size + 2 < w2.heap.size := by omega
 have KA := hide fun X (hX : Q w2 X) => (cs42 hX hb0 hc2 hb1 hd2 : Cs42 X W.heap.size (.int .i64 k) (.int .i64 n) (.bool f) (.slice A len cap) (W.heap.size + 1) (.int .i64 wd) (.bool b))
 have Z0 := hide (he2 0 _ rfl)
 have Z1 := hide (he2 1 _ rfl)
 have kb : w2.heap[W.heap.size + 2]? = some (.cells #[.int .i64 0, .bool false] 60 (0, 0)) := by
  have h9 := heap_alloc_new ((W.alloc (.cells #[.int .i64 k, .int .i64 n, .bool f, .slice A len cap] 24)).alloc (.cells #[.int .i64 wd, .bool b] 26)) (.cells #[.int .i64 0, .bool false] 60)
  rw [hw2] at h9
  simpa using h9
 have Y0 := hide (frz_new (j := 0) kb)
 have Y1 := hide (frz_new (j := 1) kb)
 clear kb
 have HW2 := hide hw2
 have HWQ := hide (hqW.trans hq2)
 have HQ2 := hide hq2
 have H := hide h
 clear h hw2 hq2 hqW hc2 hd2 he2
 obtain ⟨ve, hve⟩ : ∃ ve, validL l = ve := ⟨_, rfl⟩
 have HVE := hide hve
 clear hve
 have Q22 := hide (Q.refl w2)
 obtain ⟨k0, k1, k2, k3, t0, t1⟩ := KA.out w2 Q22.out
 go_enter Try.func40, Try.ntmps40
 go_upto_region 1 with fail
 rw [HW2.out]
 have HC3 := hide (Validate_any H.out hc w2 (HWQ.out.trans Q22.out))
 rw [HLV.out] at HC3
 unfold R1 at HC3
 go_wp2_with fail
 refine HC3.out.mono ?_
 rintro e w3 ⟨rfl, hq3⟩
 have Q23 := hide (Q22.out.trans hq3)
 clear hq3 k0 k1 k2 k3 t0 t1
 obtain ⟨k0, k1, k2, k3, t0, t1⟩ := KA.out w3 Q23.out
 rw [HVE.out]
 by_cases hz : ve = 0
 ·have dz : (ve != 0) = false := by simp [hz]
  have HCD := hide (cd_ok (wd := wd) (b := b) (HVE.out.trans hz))
  obtain ⟨sv, hsv⟩ : ∃ sv, szL wd l = sv := ⟨_, rfl⟩
  obtain ⟨ee, hee⟩ : ∃ ee, eL wd l = ee := ⟨_, rfl⟩
  have HSV := hide hsv
  have HEE := hide hee
  clear hz hsv hee
  have HC4 := hide (Size_any H.out hc wd b w3 (HWQ.out.trans Q23.out))
  rw [HLV.out] at HC4
  unfold R1 at HC4
  go_wp2_with fail
  refine HC4.out.mono ?_
  rintro e w4 ⟨rfl, hq4⟩
  have Q24 := hide (Q23.out.trans hq4)
  clear hq4 k0 k1 k2 k3 t0 t1
  obtain ⟨k0, k1, k2, k3, t0, t1⟩ := KA.out w4 Q24.out
  rw [HSV.out, HEE.out]
  have z0 := (Q24.out.facts.1 _ 0 hb2).trans Z0.out
  have z1 := (Q24.out.facts.1 _ 1 hb2).trans Z1.out
  have y0 := (Q24.out.facts.2.1 _ 0 hb2).trans Y0.out
  have y1 := (Q24.out.facts.2.1 _ 1 hb2).trans Y1.out
  obtain ⟨s0, s1⟩ := set2c (v0 := .int .i64 wd) (v1 := .bool b) z0 z1
  have S0 := hide s0
  have S1 := hide s1
  have HQS := hide (((HQ2.out.trans Q24.out).set (p := ⟨W.heap.size + 2, 0, none⟩) (by simp) (.int .i64 wd)).set (p := ⟨W.heap.size + 2, 1, none⟩) (by simp) (.bool b))
  clear s0 s1
  go_wp2_with fail
  have s0 := S0.out
  have s1 := S1.out
  refine bodyPost_ret (v := .tuple #[tgW wd b, .int .i64 sv, .int .i64 ee]) (by simp [results, Try.results40, go_sem, s0, s1]) rfl ?_
  exact ⟨by rw [HCD.out.1, HCD.out.2, HSV.out, HEE.out], HQS.out⟩
 ·have dz : (ve != 0) = true := by simp [hz]
  have HCD := hide (cd_bad (wd := wd) (b := b) (l := l) (by rw [HVE.out]; exact hz))
  clear hz
  have z0 := (Q23.out.facts.1 _ 0 hb2).trans Z0.out
  have z1 := (Q23.out.facts.1 _ 1 hb2).trans Z1.out
  have y0 := (Q23.out.facts.2.1 _ 0 hb2).trans Y0.out
  have y1 := (Q23.out.facts.2.1 _ 1 hb2).trans Y1.out
  obtain ⟨s0, s1⟩ := set2c (v0 := .int .i64 0) (v1 := .bool false) z0 z1
  have S0 := hide s0
  have S1 := hide s1
  have HQS := hide (((HQ2.out.trans Q23.out).set (p := ⟨W.heap.size + 2, 0, none⟩) (by simp) (.int .i64 0)).set (p := ⟨W.heap.size + 2, 1, none⟩) (by simp) (.bool false))
  clear s0 s1
  go_wp2_with fail
  have s0 := S0.out
  have s1 := S1.out
  refine bodyPost_ret (v := .tuple #[tgW 0 false, .int .i64 0, .int .i64 ve]) (by simp [results, Try.results40, go_sem, s0, s1]) rfl ?_
  exact ⟨by rw [HCD.out.1, HCD.out.2.1, HCD.out.2.2.1, HCD.out.2.2.2, HVE.out], HQS.out⟩
theorem sized06_any {w : World} {l : Lay} (h : LayR w l) (hc : l.count ≤ 1048576) (wd : Int) (b : Bool) : ∀ W, Q w W → Calls Try.prog 47 #[l.v, tgW wd b] W (R1 W (.int .i64 (eL wd l))) := by
 intro W hqW
 unfold R1
 obtain ⟨k, n, f, A, len, cap, hlv⟩ : ∃ k n f A len cap, l.v = .agg #[.int .i64 k, .int .i64 n, .bool f, .slice A len cap] := by cases l; exact ⟨_, _, _, _, _, _, rfl⟩
 have HLV := hide hlv
 rw [hlv]
 clear hlv
 obtain ⟨w2, hw2⟩ : ∃ w2, (W.alloc (.cells #[.int .i64 k, .int .i64 n, .bool f, .slice A len cap] 24)).alloc (.cells #[.int .i64 wd, .bool b] 26) = w2 := ⟨_, rfl⟩
 obtain ⟨hq2, hs2, hc2, hd2⟩ := box2 hw2
 have hb0 : W.heap.size < w2.heap.size := by omega
 have hb1 : W.heap.size + 1 < w2.heap.size := by omega
 have KA := hide fun X (hX : Q w2 X) => (cs42 hX hb0 hc2 hb1 hd2 : Cs42 X W.heap.size (.int .i64 k) (.int .i64 n) (.bool f) (.slice A len cap) (W.heap.size + 1) (.int .i64 wd) (.bool b))
 have HW2 := hide hw2
 have HWQ := hide (hqW.trans hq2)
 have HQ2 := hide hq2
 have H := hide h
 clear h hw2 hq2 hqW hc2 hd2
 obtain ⟨ve, hve⟩ : ∃ ve, validL l = ve := ⟨_, rfl⟩
 have HVE := hide hve
 clear hve
 have Q22 := hide (Q.refl w2)
 obtain ⟨k0, k1, k2, k3, t0, t1⟩ := KA.out w2 Q22.out
 go_enter Try.func47, Try.ntmps47
 go_upto_region 1 with fail
 rw [HW2.out]
 have HC3 := hide (Validate05_any H.out hc w2 (HWQ.out.trans Q22.out))
 rw [HLV.out] at HC3
 unfold R1 at HC3
 go_wp2_with fail
 refine HC3.out.mono ?_
 rintro e w3 ⟨rfl, hq3⟩
 have Q23 := hide (Q22.out.trans hq3)
 clear hq3 k0 k1 k2 k3 t0 t1
 obtain ⟨k0, k1, k2, k3, t0, t1⟩ := KA.out w3 Q23.out
 rw [HVE.out]
 by_cases hz : ve = 0
 ·have dz : (ve != 0) = false := by simp [hz]
  have hv0 := HVE.out.trans hz
  have HV0 := hide hv0
  obtain ⟨te, hte⟩ : ∃ te, tgE wd = te := ⟨_, rfl⟩
  have HTE := hide hte
  clear hz hv0 hte
  have HC4 := hide (tgt05_any wd b w3)
  unfold R1 at HC4
  go_wp2_with fail
  refine HC4.out.mono ?_
  rintro e w4 ⟨rfl, hq4⟩
  have Q24 := hide (Q23.out.trans hq4)
  clear hq4 k0 k1 k2 k3 t0 t1
  obtain ⟨k0, k1, k2, k3, t0, t1⟩ := KA.out w4 Q24.out
  rw [HTE.out]
  by_cases hz : te = 0
  ·have dt : (te != 0) = false := by simp [hz]
   clear hz
   have HC5 := hide (Size05_any H.out hc wd b w4 (HWQ.out.trans Q24.out))
   rw [HLV.out] at HC5
   unfold R1 at HC5
   go_wp2_with fail
   refine HC5.out.mono ?_
   rintro e w5 ⟨rfl, hq5⟩
   have Q25 := hide (Q24.out.trans hq5)
   clear hq5 k0 k1 k2 k3 t0 t1
   obtain ⟨k0, k1, k2, k3, t0, t1⟩ := KA.out w5 Q25.out
   go_wp2_with fail
   go_ret
   exact ⟨rfl, HQ2.out.trans Q25.out⟩
  ·have dt : (te != 0) = true := by simp [hz]
   have RES := hide (eL_tgt (wd := wd) HV0.out (by rw [HTE.out]; exact hz))
   clear hz
   go_wp2_with fail
   go_ret
   exact ⟨by rw [RES.out, HTE.out] <;> rfl, HQ2.out.trans Q24.out⟩
 ·have dz : (ve != 0) = true := by simp [hz]
  have HCD := hide (cd_bad (wd := wd) (b := b) (l := l) (by rw [HVE.out]; exact hz))
  clear hz
  go_wp2_with fail
  go_ret
  exact ⟨by rw [HCD.out.2.2.2, HVE.out] <;> rfl, HQ2.out.trans Q23.out⟩
theorem structure_ok {w : World} {l : Lay} (h : LayR w l) (hc : l.count ≤ 1048576) (wd : Int) (b : Bool) (ho : Okw wd l) (hk : l.k = 6) : ∀ W, Q w W → Calls Try.prog 132 #[l.v, tgW wd b] W (R1 W (.int .i64 0)) := by
 intro W hqW
 unfold R1
 have ha0 : aL wd l = 0 := by unfold aL tgE; simp [ho.valid, ho.word]
 have hlg : lgX wd l = 0 := (lgX_neg (by have := ho.small; omega)).2
 obtain ⟨k, n, f, A, len, cap, hlv⟩ : ∃ k n f A len cap, l.v = .agg #[.int .i64 k, .int .i64 n, .bool f, .slice A len cap] := by cases l; exact ⟨_, _, _, _, _, _, rfl⟩
 have hk6 : k = 6 := by rw [show l.k = k by cases l; injection hlv with e; simp at e; exact e.1] at hk; exact hk
 subst hk6
 have HLV := hide hlv
 rw [hlv]
 clear hlv
 obtain ⟨w2, hw2⟩ : ∃ w2, (W.alloc (.cells #[.int .i64 6, .int .i64 n, .bool f, .slice A len cap] 24)).alloc (.cells #[.int .i64 wd, .bool b] 26) = w2 := ⟨_, rfl⟩
 obtain ⟨hq2, hs2, hc2, hd2⟩ := box2 hw2
 have hb0 : W.heap.size < w2.heap.size := by omega
 have hb1 : W.heap.size + 1 < w2.heap.size := by omega
 have KA := hide fun X (hX : Q w2 X) => (cs42 hX hb0 hc2 hb1 hd2 : Cs42 X W.heap.size (.int .i64 6) (.int .i64 n) (.bool f) (.slice A len cap) (W.heap.size + 1) (.int .i64 wd) (.bool b))
 have HW2 := hide hw2
 have HWQ := hide (hqW.trans hq2)
 have HQ2 := hide hq2
 have H := hide h
 clear h hw2 hq2 hqW hc2 hd2
 have HA0 := hide ha0
 have HLG := hide hlg
 have hval := ho.valid
 have hword := ho.word
 clear ha0 hlg
 have Q22 := hide (Q.refl w2)
 obtain ⟨k0, k1, k2, k3, t0, t1⟩ := KA.out w2 Q22.out
 go_enter Try.func132, Try.ntmps132
 go_upto_region 1 with fail
 rw [HW2.out]
 have HC3 := hide (Both_any H.out hc wd b w2 (HWQ.out.trans Q22.out))
 rw [HLV.out] at HC3
 unfold R1 at HC3
 go_wp2_with fail
 refine HC3.out.mono ?_
 rintro e w3 ⟨rfl, hq3⟩
 have Q23 := hide (Q22.out.trans hq3)
 clear hq3 k0 k1 k2 k3 t0 t1
 obtain ⟨k0, k1, k2, k3, t0, t1⟩ := KA.out w3 Q23.out
 rw [HA0.out]
 have HC4 := hide (large_any H.out hc wd b hval hword w3 (HWQ.out.trans Q23.out))
 rw [HLV.out] at HC4
 unfold R1 at HC4
 go_wp2_with fail
 refine HC4.out.mono ?_
 rintro e w4 ⟨rfl, hq4⟩
 have Q24 := hide (Q23.out.trans hq4)
 clear hq4 k0 k1 k2 k3 t0 t1
 obtain ⟨k0, k1, k2, k3, t0, t1⟩ := KA.out w4 Q24.out
 rw [HLG.out]
 go_wp2_with fail
 go_ret
 exact ⟨rfl, HQ2.out.trans Q24.out⟩
theorem Offsets_ok {w : World} {l : Lay} (h : LayR w l) (hc : l.count ≤ 1048576) (wd : Int) (b : Bool) (ho : Okw wd l) (hk : l.k = 6) : ∀ W, Q w W → Calls Try.prog 126 #[l.v, tgW wd b] W (fun e w' => ∃ v, e = .returned (.tuple #[v, .int .i64 0]) ∧ w'.ownsRow W.heap.size 3 1 v l.parts.length ((offsTo (l.parts.map (Lay.room wd)) l.parts.length).map (Value.int .i64)) ∧ Q W w') := by
 intro W hqW
 have HST : Hid (∀ A len cap, (∃ k n f, l.v = .agg #[.int .i64 k, .int .i64 n, .bool f, .slice A len cap]) → len = l.parts.length ∧ ∀ W', Q w W' → Calls Try.prog 79 #[.slice A len cap, tgW wd b] W' fun e w' => ∃ v, e = .returned (.tuple #[v, rmV (upI (standR (l.parts.map (Lay.room wd))).1 (standR (l.parts.map (Lay.room wd))).2, (standR (l.parts.map (Lay.room wd))).2)]) ∧ w'.ownsRow W'.heap.size 3 1 v len ((offsTo (l.parts.map (Lay.room wd)) len).map (Value.int .i64)) ∧ Q W' w') := hide (by
  intro A len cap ⟨k, n, f, hlv⟩
  have hfr := fr_valid h ho.valid
  have hvl := ho.vl
  have hcap := (fr_cap h hvl hfr wd ho.word).2.2
  cases h with
  | @mk k' n' f' A' len' cap' ps a1 a2 a3 a4 a5 a6 =>
   injection hlv with e
   simp at e
   obtain ⟨e1, e2, e3, e4, e5, e6⟩ := e
   subst e1 e2 e3 e4 e5 e6
   have hk' : k' = 6 := hk
   subst hk'
   refine ⟨a3.len.symm, fun W' hW' => ?_⟩
   have hr : ∀ p ∈ ps, isA (p.room wd).2 ∧ 0 ≤ (p.room wd).1 ∧ (p.room wd).1 ≤ 1088000000000 := fun p hm => fr_cap (a6 p hm) (hvl.part (l := .mk 6 n' f' A' len' cap' ps) hm) (hfr.part (l := .mk 6 n' f' A' len' cap' ps) hm) wd ho.word
   have hp : ∀ p ∈ ps, ∀ W, Q w W → Calls Try.prog 50 #[p.v, tgW wd b] W (R1 W (rmV (p.room wd))) := fun p hm => Of_any (a6 p hm) wd b ho.word (hvl.part (l := .mk 6 n' f' A' len' cap' ps) hm) (hfr.part (l := .mk 6 n' f' A' len' cap' ps) hm)
   have hst : (standR (ps.map (Lay.room wd))).1 ≤ 1088000000000 := by
    rw [room_mk] at hcap
    unfold roomR at hcap
    rw [if_neg (by decide), if_neg (by decide), if_neg (by decide), if_neg (by decide), if_neg (by decide), if_pos rfl] at hcap
    have h8 := stand_mono (ps.map (Lay.room wd)) (0, 1) (fun r h => by
     obtain ⟨p, hpm, rfl⟩ := List.mem_map.1 h
     exact ⟨(hr p hpm).1, (hr p hpm).2.1⟩) isA.one (by simp)
    exact Int.le_trans (h8.2.1.up h8.2.2).1 hcap
   exact Stand_any a3 hvl.len.1 wd b hp hr hst W' hW')
 obtain ⟨k, n, f, A, len, cap, hlv⟩ : ∃ k n f A len cap, l.v = .agg #[.int .i64 k, .int .i64 n, .bool f, .slice A len cap] := by cases l; exact ⟨_, _, _, _, _, _, rfl⟩
 have HLV := hide hlv
 rw [hlv]
 clear hlv
 obtain ⟨w2, hw2⟩ : ∃ w2, (W.alloc (.cells #[.int .i64 k, .int .i64 n, .bool f, .slice A len cap] 24)).alloc (.cells #[.int .i64 wd, .bool b] 26) = w2 := ⟨_, rfl⟩
 obtain ⟨hq2, hs2, hc2, hd2⟩ := box2 hw2
 have hb0 : W.heap.size < w2.heap.size := by omega
 have hb1 : W.heap.size + 1 < w2.heap.size := by omega
 have KA := hide fun X (hX : Q w2 X) => (cs42 hX hb0 hc2 hb1 hd2 : Cs42 X W.heap.size (.int .i64 k) (.int .i64 n) (.bool f) (.slice A len cap) (W.heap.size + 1) (.int .i64 wd) (.bool b))
 have HW2 := hide hw2
 have HWQ := hide (hqW.trans hq2)
 have HQ2 := hide hq2
 have H := hide h
 clear h hw2 hq2 hqW hc2 hd2
 obtain ⟨hlen, hsta⟩ := HST.out A len cap ⟨k, n, f, HLV.out⟩
 have HSTA := hide hsta
 have HLEN := hide hlen
 clear hsta hlen HST
 have Q22 := hide (Q.refl w2)
 obtain ⟨k0, k1, k2, k3, t0, t1⟩ := KA.out w2 Q22.out
 go_enter Try.func126, Try.ntmps126
 go_upto_region 1 with fail
 rw [HW2.out]
 have HC3 := hide (structure_ok H.out hc wd b ho hk w2 (HWQ.out.trans Q22.out))
 rw [HLV.out] at HC3
 unfold R1 at HC3
 go_wp2_with fail
 refine HC3.out.mono ?_
 rintro e w3 ⟨rfl, hq3⟩
 have Q23 := hide (Q22.out.trans hq3)
 clear hq3 k0 k1 k2 k3 t0 t1
 obtain ⟨k0, k1, k2, k3, t0, t1⟩ := KA.out w3 Q23.out
 have HS5 := hide (HSTA.out w3 (HWQ.out.trans Q23.out))
 obtain ⟨e1, he1⟩ : ∃ e1, upI (standR (l.parts.map (Lay.room wd))).1 (standR (l.parts.map (Lay.room wd))).2 = e1 := ⟨_, rfl⟩
 obtain ⟨e2, he2⟩ : ∃ e2, (standR (l.parts.map (Lay.room wd))).2 = e2 := ⟨_, rfl⟩
 rw [he1, he2] at HS5
 clear he1 he2
 go_wp2_with fail
 refine HS5.out.mono ?_
 rintro e w4 ⟨v, rfl, hown, hq4⟩
 clear k0 k1 k2 k3 t0 t1
 have HOW := hide hown
 have hs3 := Q23.out.size
 have Q24 := hide (Q23.out.trans hq4)
 clear hown hq4
 go_wp2_with fail
 go_ret2
 exact ⟨_, rfl, by rw [← HLEN.out]; exact own_lower (own_q HOW.out ((Q.refl _).alloc _)) (by omega), HQ2.out.trans (Q24.out.trans ((Q.refl _).alloc _))⟩
end Go.Proofs.Ytbgbalfhbficaaa
