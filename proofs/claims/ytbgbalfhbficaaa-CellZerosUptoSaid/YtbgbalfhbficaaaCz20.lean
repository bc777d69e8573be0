/- zero of the reference. Zero of both. The law CellZeros: its walk. Conditions: as each theorem says. -/
import Derived.Test.YtbgbalfhbficaaaCz19
namespace Go.Proofs.Ytbgbalfhbficaaa
set_option maxRecDepth 100000
set_option maxHeartbeats 2000000
open Go.RowKit
set_option linter.unusedVariables false
set_option linter.unusedSimpArgs false
def CZ2 (k k2 : Nat) (w4 w2 : World) (B X : Nat) (zs : List Cel) (j : Nat) (u : Value) (cs : List Cel) (z : Cel) (S : Nat → Bool) (f : Nat → Value) (W : World) : Prop :=
 CZ k k2 w2 B X zs j u cs z S f W ∧ (S k = false → S k2 = false → Q w4 W)
theorem CZ2.q {k k2 : Nat} {w4 w2 : World} {B X : Nat} {zs : List Cel} {j : Nat} {u : Value} {cs : List Cel} {z : Cel} {S S2 : Nat → Bool} {f f2 : Nat → Value} {w1 W : World} (hk : ∀ i, Ri.isIn [k, k2] i = true → S2 i = S i ∧ f2 i = f i) (h : CZ2 k k2 w4 w2 B X zs j u cs z S f w1) (hq : Q w1 W) : CZ2 k k2 w4 w2 B X zs j u cs z S2 f2 W :=
 ⟨h.1.q hk hq, fun e1 e2 => (h.2 ((hk k (by simp [Ri.isIn])).1 ▸ e1) ((hk k2 (by simp [Ri.isIn])).1 ▸ e2)).trans hq⟩
theorem zeroR_4 {w : World} {k n : Int} {f : Bool} {A : Option Addr} {len cap : Nat} {ps : List Lay} (hl : LayR w (.mk k n f A len cap ps)) (hv : VL (.mk k n f A len cap ps)) (ih : ∀ p ∈ ps, ∀ W, Q w W → Calls Try.prog 52 #[p.v] W (fun e w' => ZrP W p.zero e w')) (hk : k = 4) : ∀ W, Q w W → Calls Try.prog 52 #[.agg #[.int .i64 k, .int .i64 n, .bool f, .slice A len cap]] W (fun e w' => ZrP W (zeroC k n (ps.map Lay.zero)) e w') := by
 subst hk
 intro W hqW
 have HSL : Hid (Sl 4 encL w A len cap ps) := by cases hl with | @mk _ _ _ _ _ _ _ hk hn hsl hnil hcap hall => exact hide hsl
 have hpl := HSL.out.len
 have hl12 : len ≤ 12 := by have := hv.len.1; omega
 have HIH := hide ih
 have HV := hide hv
 obtain ⟨w2, hw2⟩ : ∃ w2, (W.alloc (.cells #[.int .i64 4, .int .i64 n, .bool f, .slice A len cap] 24)).alloc (.cells #[.int .i64 0, .bool false, .bool false, .slice none 0 0] 31) = w2 := ⟨_, rfl⟩
 obtain ⟨hq2, hs2, hc2, hd2⟩ := box2 hw2
 have hb0 : W.heap.size < w2.heap.size := by omega
 have hb1 : W.heap.size + 1 < w2.heap.size := by omega
 have kb1 : w2.heap[W.heap.size + 1]? = some (.cells #[.int .i64 0, .bool false, .bool false, .slice none 0 0] 31 (0, 0)) := by
  have h9 := heap_alloc_new (W.alloc (.cells #[.int .i64 4, .int .i64 n, .bool f, .slice A len cap] 24)) (.cells #[.int .i64 0, .bool false, .bool false, .slice none 0 0] 31)
  rw [hw2] at h9
  simpa using h9
 have KA := hide fun X (hX : Q w2 X) => (cs4 hX hb0 hc2 : Cs4 X W.heap.size (.int .i64 4) (.int .i64 n) (.bool f) (.slice A len cap))
 have KB : Hid (∀ X, Q w2 X → X.heap[W.heap.size + 1]? = some (.cells #[.int .i64 0, .bool false, .bool false, .slice none 0 0] 31 (0, 0))) := hide fun X hX => blk_q kb1 hX
 have HW2 := hide hw2
 have HQ2 := hide hq2
 have HWQ := hide (hqW.trans hq2)
 clear hl hv ih hqW hw2 hc2 hd2 hq2 kb1
 have RES := hide (zeroC_4 n (ps.map Lay.zero))
 obtain ⟨w3, hw3⟩ : ∃ w3, w2.alloc (.cells #[.int .i64 0, .bool false, .bool false, .slice none 0 0] 31) = w3 := ⟨_, rfl⟩
 have hq3 : Q w2 w3 := by rw [← hw3]; exact (Q.refl _).alloc _
 have hs3 : w3.heap.size = W.heap.size + 3 := by rw [← hw3]; simp; omega
 have hx3 : w3.heap[W.heap.size + 2]? = some (.cells #[.int .i64 0, .bool false, .bool false, .slice none 0 0] 31 (0, 0)) := by rw [← hw3, ← hs2]; exact heap_alloc_new w2 _
 have HW3 := hide hw3
 have Q23 := hide hq3
 have HX3 := hide hx3
 clear hw3 hq3 hx3
 obtain ⟨k0, k1, k2, k3⟩ := KA.out w2 (Q.refl _)
 go_enter Try.func52, Try.ntmps52
 go_upto_region 1 with fail
 rw [HW2.out]
 clear k0 k1 k2 k3
 go_upto_region 2 with fail
 rw [HW3.out]
 obtain ⟨k0, k1, k2, k3⟩ := KA.out w3 Q23.out
 have kb1 := KB.out w3 Q23.out
 have v0 : w3.cell? ⟨W.heap.size + 1, 0, none⟩ = some (.int .i64 0) := cell_blkJ kb1 rfl
 have vf0 : w3.frozen? ⟨W.heap.size + 1, 0, none⟩ = false := frz_new (j := 0) kb1
 have v1 : w3.cell? ⟨W.heap.size + 1, 1, none⟩ = some (.bool false) := cell_blkJ kb1 rfl
 have vf1 : w3.frozen? ⟨W.heap.size + 1, 1, none⟩ = false := frz_new (j := 1) kb1
 have v2 : w3.cell? ⟨W.heap.size + 1, 2, none⟩ = some (.bool false) := cell_blkJ kb1 rfl
 have vf2 : w3.frozen? ⟨W.heap.size + 1, 2, none⟩ = false := frz_new (j := 2) kb1
 have v3 : w3.cell? ⟨W.heap.size + 1, 3, none⟩ = some (.slice none 0 0) := cell_blkJ kb1 rfl
 have vf3 : w3.frozen? ⟨W.heap.size + 1, 3, none⟩ = false := frz_new (j := 3) kb1
 clear kb1
 have HS5 := hide (set4c (w := w3) (.int .i64 0) (.bool true) (.bool false) (.slice none 0 0) v0 v1 v2 v3 _ rfl)
 go_wp2_with fail
 obtain ⟨s0, s1, s2, s3⟩ := HS5.out
 refine bodyPost_ret (v := .agg #[.int .i64 0, .bool true, .bool false, .slice none 0 0]) (by simp [results, Try.results52, go_sem, s0, s1, s2, s3]) rfl ?_
 exact zr_end (HQ2.out.trans Q23.out) (by omega) (Nat.lt_succ_self _) (celR_nil _ _) (celB_nil _ _) (by rw [RES.out, skeC_mk]; rfl)
theorem zeroR_5 {w : World} {k n : Int} {f : Bool} {A : Option Addr} {len cap : Nat} {ps : List Lay} (hl : LayR w (.mk k n f A len cap ps)) (hv : VL (.mk k n f A len cap ps)) (ih : ∀ p ∈ ps, ∀ W, Q w W → Calls Try.prog 52 #[p.v] W (fun e w' => ZrP W p.zero e w')) (hk : k = 5) : ∀ W, Q w W → Calls Try.prog 52 #[.agg #[.int .i64 k, .int .i64 n, .bool f, .slice A len cap]] W (fun e w' => ZrP W (zeroC k n (ps.map Lay.zero)) e w') := by
 subst hk
 intro W hqW
 have HSL : Hid (Sl 4 encL w A len cap ps) := by cases hl with | @mk _ _ _ _ _ _ _ hk hn hsl hnil hcap hall => exact hide hsl
 have hpl := HSL.out.len
 have hl12 : len ≤ 12 := by have := hv.len.1; omega
 have HIH := hide ih
 have HV := hide hv
 obtain ⟨w2, hw2⟩ : ∃ w2, (W.alloc (.cells #[.int .i64 5, .int .i64 n, .bool f, .slice A len cap] 24)).alloc (.cells #[.int .i64 0, .bool false, .bool false, .slice none 0 0] 31) = w2 := ⟨_, rfl⟩
 obtain ⟨hq2, hs2, hc2, hd2⟩ := box2 hw2
 have hb0 : W.heap.size < w2.heap.size := by omega
 have hb1 : W.heap.size + 1 < w2.heap.size := by omega
 have kb1 : w2.heap[W.heap.size + 1]? = some (.cells #[.int .i64 0, .bool false, .bool false, .slice none 0 0] 31 (0, 0)) := by
  have h9 := heap_alloc_new (W.alloc (.cells #[.int .i64 5, .int .i64 n, .bool f, .slice A len cap] 24)) (.cells #[.int .i64 0, .bool false, .bool false, .slice none 0 0] 31)
  rw [hw2] at h9
  simpa using h9
 have KA := hide fun X (hX : Q w2 X) => (cs4 hX hb0 hc2 : Cs4 X W.heap.size (.int .i64 5) (.int .i64 n) (.bool f) (.slice A len cap))
 have KB : Hid (∀ X, Q w2 X → X.heap[W.heap.size + 1]? = some (.cells #[.int .i64 0, .bool false, .bool false, .slice none 0 0] 31 (0, 0))) := hide fun X hX => blk_q kb1 hX
 have HW2 := hide hw2
 have HQ2 := hide hq2
 have HWQ := hide (hqW.trans hq2)
 clear hl hv ih hqW hw2 hc2 hd2 hq2 kb1
 have hn5 : 0 ≤ n ∧ n ≤ 1000 := by
  have h1 := HV.out.kind.2.2.2
  unfold restL at h1
  rw [if_neg (by decide), if_pos rfl, decide_eq_true_eq] at h1
  exact ⟨h1, HV.out.len.2.2.1 rfl⟩
 have hlen1 : len = 1 := by
  have h8 := HV.out.kind.2.2.1
  unfold numL at h8
  rw [if_pos (.inr rfl), decide_eq_true_eq] at h8
  exact hpl.symm.trans h8
 obtain ⟨m, hm⟩ : ∃ m : Nat, n = (m : Int) := ⟨n.toNat, by omega⟩
 have hm1 : m ≤ 1000 := by omega
 obtain ⟨zs, hzs⟩ : ∃ zs, List.replicate m ((ps.map Lay.zero).headD default) = zs := ⟨_, rfl⟩
 have RES : Hid (zeroC 5 n (ps.map Lay.zero) = .mk 0 false false none 0 0 zs) := hide (by rw [zeroC_5, hm, Int.toNat_natCast, hzs])
 have HZL : Hid (zs.length = m) := hide (by rw [← hzs, List.length_replicate])
 have HIDX : Hid (∀ j, j < m → 0 < len ∧ ∀ p, ps[0]? = some p → zs[j]? = some p.zero) := hide (fun j hj => ⟨by omega, fun p hp => by
  rw [← hzs, List.getElem?_replicate, if_pos hj]
  cases ps with
  | nil => cases hp
  | cons q r =>
   injection hp with hp
   rw [hp]
   rfl⟩)
 subst hm
 clear hzs hlen1 hn5 hpl
 obtain ⟨w3, hw3⟩ : ∃ w3, w2.alloc (.cells #[.int .i64 0, .bool false, .bool false, .slice none 0 0] 31) = w3 := ⟨_, rfl⟩
 have hq3 : Q w2 w3 := by rw [← hw3]; exact (Q.refl _).alloc _
 have hs3 : w3.heap.size = W.heap.size + 3 := by rw [← hw3]; simp; omega
 have hx3 : w3.heap[W.heap.size + 2]? = some (.cells #[.int .i64 0, .bool false, .bool false, .slice none 0 0] 31 (0, 0)) := by rw [← hw3, ← hs2]; exact heap_alloc_new w2 _
 have HW3 := hide hw3
 have Q23 := hide hq3
 have HX3 := hide hx3
 clear hw3 hq3 hx3
 obtain ⟨k0, k1, k2, k3⟩ := KA.out w2 (Q.refl _)
 go_enter Try.func52, Try.ntmps52
 go_upto_region 1 with fail
 rw [HW2.out]
 clear k0 k1 k2 k3
 go_upto_region 2 with fail
 rw [HW3.out]
 obtain ⟨k0, k1, k2, k3⟩ := KA.out w3 Q23.out
 go_wp2_with fail
 clear k0 k1 k2 k3
 go_loopw [5] (fun vi wr => ∃ (j : Nat) (u : Value) (cs : List Cel), j ≤ m ∧ vi = .int .i64 j ∧ Zpd (W.heap.size + 3) zs j u cs wr ∧ wr.heap[W.heap.size + 2]? = some (.cells #[.int .i64 0, .bool false, .bool false, u] 31 (0, 0)) ∧ W.heap.size + 3 ≤ wr.heap.size ∧ Q w2 wr) (fun vi _ => m - (intOf vi).toNat)
 case atStart => exact ⟨0, .slice none 0 0, [], by omega, by go_num, Zpd.start _ zs _, HX3.out, by omega, Q23.out⟩
 case round =>
  obtain ⟨j, u, cs, hj, rfl, hzp, hbx, hbs, hq⟩ := hrel
  have HQ := hide hq
  have HZP := hide hzp
  have HBX := hide hbx
  have HBS := hide hbs
  by_cases hlt9 : j < m
  ·have hd1 : decide ((j : Int) < (m : Int)) = true := by simp; omega
   have hd0 : decide (j < m) = true := by simp; omega
   have hlti : (j : Int) < (m : Int) := by omega
   obtain ⟨hi2, hzj⟩ := HIDX.out j hlt9
   have hl0 : (0 : Int) < (len : Int) := by omega
   obtain ⟨g, o, m', x', y', B, l', d', qs1, e, hbp, hxp, z0, z1, z2, z3⟩ := lay_at (HSL.out.up (HWQ.out.trans hq)) hi2
   cases e
   rw [Nat.zero_mul, Nat.add_zero] at z0 z1 z2 z3
   obtain ⟨p, hpe⟩ : ∃ p, Lay.mk m' x' y' B l' d' qs1 = p := ⟨_, rfl⟩
   have hpv : p.v = .agg #[.int .i64 m', .int .i64 x', .bool y', .slice B l' d'] := by rw [← hpe]; rfl
   rw [hpe] at hxp
   have HIP := hide (HIH.out p (List.mem_of_getElem? hxp))
   rw [hpv] at HIP
   obtain ⟨z, hz⟩ : ∃ z, p.zero = z := ⟨_, rfl⟩
   rw [hz] at HIP
   have HZJ : Hid (zs[j]? = some z) := hide (by rw [hzj p hxp, hz])
   clear hzj
   obtain ⟨w4, hw4⟩ : ∃ w4, wr.alloc (.cells #[.int .i64 m', .int .i64 x', .bool y', .slice B l' d'] 24) = w4 := ⟨_, rfl⟩
   have hq4 : Q wr w4 := by rw [← hw4]; exact (Q.refl _).alloc _
   have hb4 : w4.heap[wr.heap.size]? = some (.cells #[.int .i64 m', .int .i64 x', .bool y', .slice B l' d'] 24 (0, 0)) := by rw [← hw4]; exact heap_alloc_new wr _
   have HW4 := hide hw4
   have HB4 := hide hb4
   have Q44 := hide hq4
   have Q24 := hide (hq.trans hq4)
   have k3 := (KA.out wr hq).2.2.2
   clear hxp hpe hpv hz hw4 hb4 hq4 hbp hzp hbx hbs hq
   go_upto_region 14 with fail
   rw [HW4.out]
   clear k3 z0 z1 z2 z3
   have k0 := (KA.out w4 Q24.out).1
   go_upto_region 16 with fail
   clear k0
   refine Ri.madeY (C := CZ2 5 7 w4 w2 (W.heap.size + 3) (W.heap.size + 2) zs j u cs z) [5, 7] [0, 1, 2, 5, 6, 7] [0, 1, 2, 3, 6, 7] (fun S0 S2 f f2 w1 w2 hk hq9 hq => hq9.q hk hq) (Ri.phi [Ri.isV (.pointer (some ⟨W.heap.size + 2, 3, none⟩)), Ri.isV (u), Ri.isV (.agg #[.int .i64 m', .int .i64 x', .bool y', .slice B l' d']), (PzC2 (W.heap.size + 3) u z), (PzR2 (W.heap.size + 3) u z), (fun _ _ => True), Ri.isV (.pointer (some ⟨W.heap.size + 2, 3, none⟩)), (fun _ _ => True)]) (by kernel_rfl) (by kernel_rfl) (by kernel_rfl) (⟨⟨Q24.out.trans (Q.refl _).drew, Nat.le_trans HBS.out Q44.out.size, by rw [if_neg (by decide)]; exact (HZP.out.up Q44.out).up (Q.refl _).drew, by rw [if_neg (by decide)]; exact blk_q (blk_q HBX.out Q44.out) (Q.refl _).drew⟩, fun _ _ => (Q.refl _).drew⟩) (Ri.phi_mono ?_) (Ri.phi_fix ?_) ?_ ?_
   ·repeat' first | exact trivial | exact fun _ _ _ h _ => h | exact pzC2_mono _ _ _ | exact pzR2_mono _ _ _ | refine ⟨?_, ?_⟩
   ·repeat' first | exact trivial | exact fun _ _ _ _ h => h | exact fun h => absurd h (by decide) | refine ⟨?_, ?_⟩
   ·refine Ri.All.cons ?_ (.cons ?_ (.cons ?_ (.cons ?_ (.cons ?_ (.cons ?_ (.cons ?_ (.cons ?_ (Ri.All.nil))))))))
    ·refine Ri.StepY.q (h := fun S9 f9 W9 hS hD hq hf A9 hA hB hO => ?_)
     have e1 := (hB 3).trans (show _ = .pointer (some ⟨W.heap.size + 2, 0, none⟩) by simp [Act.eval])
     exact Ri.wp_value _ (Ri.run_fld (f := _) rfl e1 Try.underlying31 rfl (sz := 0) (by kernel_rfl)) rfl
    ·refine Ri.StepY.q (h := fun S9 f9 W9 hS hD hq hf A9 hA hB hO => ?_)
     have e1 := (hA 38 0).trans (hf 0)
     have hx9 := hq.1.2.2.2
     rw [(hO 7).1, if_neg (by decide)] at hx9
     exact Ri.wp_value _ (Ri.run_ld1 rfl e1 Try.underlying29 rfl (cell_blkJ hx9 rfl)) rfl
    ·refine Ri.StepY.q (h := fun S9 f9 W9 hS hD hq hf A9 hA hB hO => ?_)
     have e1 := (hB 6).trans (show _ = .pointer (some ⟨wr.heap.size, 0, none⟩) by simp [Act.eval])
     have h8 := hq.2 (hO 5).1 (hO 7).1
     exact Ri.wp_value _ (Ri.run_ldrow rfl e1 (blk_q HB4.out h8) Try.underlying24 rfl (by kernel_rfl)) rfl
    ·refine Ri.StepY.q (h := fun S9 f9 W9 hS hD hq hf A9 hA hB hO => ?_)
     have e1 := (hA 40 2).trans (hf 2)
     have hz9 := hq.1.2.2.1
     rw [(hO 5).1, if_neg (by decide)] at hz9
     have hlt9 := hz9.own.lt
     refine Ri.wp_call #[.agg #[.int .i64 m', .int .i64 x', .bool y', .slice B l' d']] rfl (by simp [e1]) Try.func52 (by kernel_rfl) (by kernel_rfl) ((HIP.out W9 (HWQ.out.trans hq.1.1)).mono ?_)
     rintro e w9 ⟨c, rfl, h1, h2, h3, h4⟩
     exact ⟨_, rfl, h4, W9.heap.size, hq.1.2.1, fun q hq9 => (hlt9 q hq9).2, c, rfl, h1, h2, h3⟩
    ·refine Ri.StepY.q (h := fun S9 f9 W9 hS hD hq hf A9 hA hB hO => ?_)
     obtain ⟨B1, hB1, hu1, c, hcv, hsk, hcr, hcb⟩ : PzC2 (W.heap.size + 3) u z (f9 3) W9 := hf 3
     cases c with
     | mk X0 X1 X2 A0 l0 d0 qs0 =>
      have e1 := (hA 41 3).trans (hcv.trans (show _ = .agg #[.int .i64 X0, .bool X1, .bool X2, .slice A0 l0 d0] from rfl))
      obtain ⟨ti, hi9, hz9, hsz9, hby9⟩ := info_parts (show (Try.prog.info? 31).map (fun i => (i.zero, i.size, i.bytes)) = some (some (.agg #[.int .i64 0, .bool false, .bool false, .slice none 0 0]), 4, 40) by kernel_rfl)
      refine wp_buildSlice 29 31 1 _ rfl #[.int .i64 X0, .bool X1, .bool X2, .slice A0 l0 d0] ti _ Try.underlying29 hi9 hz9 (by rw [hsz9]; decide) (by rw [hsz9]; decide) ?_ ⟨_, rfl, (Q.refl W9).alloc _, B1, hB1, hu1, _, W9.heap.size, rfl, by simp, fun j u hu => cell_blkJ (heap_alloc_new W9 _) (by simpa [encC] using hu), hsk, hcr.up ((Q.refl _).alloc _), hcb.mono fun b hb => ⟨hb.1, by simp; omega⟩⟩
      rw [hsz9]
      simp only [List.map_toArray, List.map_cons, List.map_nil, e1]
      kernel_rfl
    ·refine Ri.StepY.c (h := fun S9 f9 W9 hS hD hq hf A9 hA hB hO => ?_)
     obtain ⟨B1, hB1, hu1, c, b9, hb9, hl9, hc9, hsk, hcr, hcb⟩ : PzR2 (W.heap.size + 3) u z (f9 4) W9 := hf 4
     have e1 := (hA 39 1).trans (show f9 1 = u from hf 1)
     have e2 := (hA 42 4).trans hb9
     have hz9 := hq.1.2.2.1
     rw [hS, if_neg (by decide)] at hz9
     exact Ri.wp_appZ El_cel _ _ rfl e1 e2 hz9.own (news := encC c) (len_encC c) hc9 (one_cel c) (by decide) (by omega) hq.1.2.1 (fun v9 w9 h2 h3 h4 => ⟨⟨hq.1.app hS (hO 7).1 (by decide) (by omega) (by omega) HZJ.out hsk hcr hB1 hu1 hcb h2 h3 h4, fun e9 => absurd e9 (by rw [Ri.upd_at]; decide)⟩, trivial⟩)
    ·refine Ri.StepY.q (h := fun S9 f9 W9 hS hD hq hf A9 hA hB hO => ?_)
     have e1 := (hB 3).trans (show _ = .pointer (some ⟨W.heap.size + 2, 0, none⟩) by simp [Act.eval])
     exact Ri.wp_value _ (Ri.run_fld (f := _) rfl e1 Try.underlying31 rfl (sz := 0) (by kernel_rfl)) rfl
    ·refine Ri.StepY.c (h := fun S9 f9 W9 hS hD hq hf A9 hA hB hO => ?_)
     have e1 := (hA 44 6).trans (hf 6)
     have e2 := hA 43 5
     have hz9 := hq.1.2.2.1
     rw [hD 5, if_pos rfl] at hz9
     obtain ⟨c9, hz9⟩ := hz9
     obtain ⟨A9, cp9, hv9, -⟩ := own_form hz9.own
     exact Ri.wp_store1 rfl e1 e2 (by kernel_rfl) (by rw [hv9]; rfl) (by rw [hv9]; rfl) (cell_blkJ hq.1.2.2.2 rfl) (frz_new (j := 3) hq.1.2.2.2) ⟨undef, rfl, ⟨hq.1.store (hD 5) (by decide) (by omega) (by omega) undef, fun _ e9 => absurd e9 (by rw [Ri.upd_at]; decide)⟩, trivial⟩
   ·intro S9 f9 w8 hS hq8 hf
    obtain ⟨hq28, hB8, hz8, hx8⟩ := hq8.1.end_ (hS 5 (by simp)) (hS 7 (by simp))
    simp only [Ri.acts, Act.put, List.setIfInBounds_toArray, List.set_cons_zero, List.set_cons_succ, Nat.zero_add, Nat.reduceAdd]
    obtain ⟨v8, hv8⟩ : ∃ v8, f9 5 = v8 := ⟨_, rfl⟩
    rw [hv8] at hz8 hx8
    have HZ8 := hide hz8
    have HX8 := hide hx8
    have HB8 := hide hB8
    have HQ8 := hide hq28
    clear hz8 hx8 hB8 hq28 hq8 hf hS
    go_wp2_with fail
    go_roundw
    case rel =>
     obtain ⟨cs', hz8⟩ := HZ8.out
     exact ⟨j + 1, v8, cs', by omega, by go_num, hz8, HX8.out, HB8.out, HQ8.out⟩
    case measure => simp [intOf] <;> omega
  ·have hd1 : decide ((j : Int) < (m : Int)) = false := by simp <;> omega
   have hd0 : decide (j < m) = false := by simp <;> omega
   have hjm : j = m := by omega
   have HJM := hide hjm
   obtain ⟨A9, c9, rfl, r1, r2, r3⟩ := hzp.end_ (m := j) (by have := HZL.out; omega) (by omega)
   have HR1 := hide r1
   have HR2 := hide r2
   have HR3 := hide r3
   have u0 : wr.cell? ⟨W.heap.size + 2, 0, none⟩ = some (.int .i64 0) := cell_blkJ hbx rfl
   have u1 : wr.cell? ⟨W.heap.size + 2, 1, none⟩ = some (.bool false) := cell_blkJ hbx rfl
   have u2 : wr.cell? ⟨W.heap.size + 2, 2, none⟩ = some (.bool false) := cell_blkJ hbx rfl
   have u3 : wr.cell? ⟨W.heap.size + 2, 3, none⟩ = some (.slice A9 j c9) := cell_blkJ hbx rfl
   clear hzp hbx r1 r2 r3 hq hjm
   have kb1 := KB.out wr HQ.out
   have v0 : wr.cell? ⟨W.heap.size + 1, 0, none⟩ = some (.int .i64 0) := cell_blkJ kb1 rfl
   have vf0 : wr.frozen? ⟨W.heap.size + 1, 0, none⟩ = false := frz_new (j := 0) kb1
   have v1 : wr.cell? ⟨W.heap.size + 1, 1, none⟩ = some (.bool false) := cell_blkJ kb1 rfl
   have vf1 : wr.frozen? ⟨W.heap.size + 1, 1, none⟩ = false := frz_new (j := 1) kb1
   have v2 : wr.cell? ⟨W.heap.size + 1, 2, none⟩ = some (.bool false) := cell_blkJ kb1 rfl
   have vf2 : wr.frozen? ⟨W.heap.size + 1, 2, none⟩ = false := frz_new (j := 2) kb1
   have v3 : wr.cell? ⟨W.heap.size + 1, 3, none⟩ = some (.slice none 0 0) := cell_blkJ kb1 rfl
   have vf3 : wr.frozen? ⟨W.heap.size + 1, 3, none⟩ = false := frz_new (j := 3) kb1
   clear kb1
   have HS5 := hide (set4c (w := wr) (.int .i64 0) (.bool false) (.bool false) (.slice A9 j c9) v0 v1 v2 v3 _ rfl)
   go_wp2_with fail
   obtain ⟨s0, s1, s2, s3⟩ := HS5.out
   refine bodyPost_ret (v := .agg #[.int .i64 0, .bool false, .bool false, .slice A9 j c9]) (by simp [results, Try.results52, go_sem, s0, s1, s2, s3]) rfl ?_
   exact zr_end (HQ2.out.trans HQ.out) (by omega) (show W.heap.size + 1 < W.heap.size + 3 by omega) HR1.out HR2.out (HR3.out.trans RES.out.symm)
theorem zeroR_6 {w : World} {k n : Int} {f : Bool} {A : Option Addr} {len cap : Nat} {ps : List Lay} (hl : LayR w (.mk k n f A len cap ps)) (hv : VL (.mk k n f A len cap ps)) (ih : ∀ p ∈ ps, ∀ W, Q w W → Calls Try.prog 52 #[p.v] W (fun e w' => ZrP W p.zero e w')) (hk : k = 6) : ∀ W, Q w W → Calls Try.prog 52 #[.agg #[.int .i64 k, .int .i64 n, .bool f, .slice A len cap]] W (fun e w' => ZrP W (zeroC k n (ps.map Lay.zero)) e w') := by
 subst hk
 intro W hqW
 have HSL : Hid (Sl 4 encL w A len cap ps) := by cases hl with | @mk _ _ _ _ _ _ _ hk hn hsl hnil hcap hall => exact hide hsl
 have hpl := HSL.out.len
 have hl12 : len ≤ 12 := by have := hv.len.1; omega
 have HIH := hide ih
 have HV := hide hv
 obtain ⟨w2, hw2⟩ : ∃ w2, (W.alloc (.cells #[.int .i64 6, .int .i64 n, .bool f, .slice A len cap] 24)).alloc (.cells #[.int .i64 0, .bool false, .bool false, .slice none 0 0] 31) = w2 := ⟨_, rfl⟩
 obtain ⟨hq2, hs2, hc2, hd2⟩ := box2 hw2
 have hb0 : W.heap.size < w2.heap.size := by omega
 have hb1 : W.heap.size + 1 < w2.heap.size := by omega
 have kb1 : w2.heap[W.heap.size + 1]? = some (.cells #[.int .i64 0, .bool false, .bool false, .slice none 0 0] 31 (0, 0)) := by
  have h9 := heap_alloc_new (W.alloc (.cells #[.int .i64 6, .int .i64 n, .bool f, .slice A len cap] 24)) (.cells #[.int .i64 0, .bool false, .bool false, .slice none 0 0] 31)
  rw [hw2] at h9
  simpa using h9
 have KA := hide fun X (hX : Q w2 X) => (cs4 hX hb0 hc2 : Cs4 X W.heap.size (.int .i64 6) (.int .i64 n) (.bool f) (.slice A len cap))
 have KB : Hid (∀ X, Q w2 X → X.heap[W.heap.size + 1]? = some (.cells #[.int .i64 0, .bool false, .bool false, .slice none 0 0] 31 (0, 0))) := hide fun X hX => blk_q kb1 hX
 have HW2 := hide hw2
 have HQ2 := hide hq2
 have HWQ := hide (hqW.trans hq2)
 clear hl hv ih hqW hw2 hc2 hd2 hq2 kb1
 have hm1 : len ≤ 1000 := by omega
 obtain ⟨zs, hzs⟩ : ∃ zs, ps.map Lay.zero = zs := ⟨_, rfl⟩
 have RES : Hid (zeroC 6 n (ps.map Lay.zero) = .mk 0 false false none 0 0 zs) := hide (by rw [zeroC_69 (by decide), hzs])
 have HZL : Hid (zs.length = len) := hide (by rw [← hzs, List.length_map, hpl])
 have HIDX : Hid (∀ j, j < len → j < len ∧ ∀ p, ps[j]? = some p → zs[j]? = some p.zero) := hide (fun j hj => ⟨hj, fun p hp => by
  rw [← hzs, List.getElem?_map, hp]
  rfl⟩)
 clear hzs hpl
 obtain ⟨w3, hw3⟩ : ∃ w3, w2.alloc (.cells #[.int .i64 0, .bool false, .bool false, .slice none 0 0] 31) = w3 := ⟨_, rfl⟩
 have hq3 : Q w2 w3 := by rw [← hw3]; exact (Q.refl _).alloc _
 have hs3 : w3.heap.size = W.heap.size + 3 := by rw [← hw3]; simp; omega
 have hx3 : w3.heap[W.heap.size + 2]? = some (.cells #[.int .i64 0, .bool false, .bool false, .slice none 0 0] 31 (0, 0)) := by rw [← hw3, ← hs2]; exact heap_alloc_new w2 _
 have HW3 := hide hw3
 have Q23 := hide hq3
 have HX3 := hide hx3
 clear hw3 hq3 hx3
 obtain ⟨k0, k1, k2, k3⟩ := KA.out w2 (Q.refl _)
 go_enter Try.func52, Try.ntmps52
 go_upto_region 1 with fail
 rw [HW2.out]
 clear k0 k1 k2 k3
 go_upto_region 2 with fail
 rw [HW3.out]
 obtain ⟨k0, k1, k2, k3⟩ := KA.out w3 Q23.out
 go_wp2_with fail
 clear k0 k1 k2 k3
 go_loopw [5] (fun vi wr => ∃ (j : Nat) (u : Value) (cs : List Cel), j ≤ len ∧ vi = .int .i64 j ∧ Zpd (W.heap.size + 3) zs j u cs wr ∧ wr.heap[W.heap.size + 2]? = some (.cells #[.int .i64 0, .bool false, .bool false, u] 31 (0, 0)) ∧ W.heap.size + 3 ≤ wr.heap.size ∧ Q w2 wr) (fun vi _ => len - (intOf vi).toNat)
 case atStart => exact ⟨0, .slice none 0 0, [], by omega, by go_num, Zpd.start _ zs _, HX3.out, by omega, Q23.out⟩
 case round =>
  obtain ⟨j, u, cs, hj, rfl, hzp, hbx, hbs, hq⟩ := hrel
  have HQ := hide hq
  have HZP := hide hzp
  have HBX := hide hbx
  have HBS := hide hbs
  by_cases hlt9 : j < len
  ·have hd1 : decide ((j : Int) < (len : Int)) = true := by simp; omega
   have hd0 : decide (j < len) = true := by simp; omega
   have hlti : (j : Int) < (len : Int) := by omega
   obtain ⟨hi2, hzj⟩ := HIDX.out j hlt9
   obtain ⟨g9, o9, m9, x9, y9, B9, l9, d9, qs9, e, hb9, hx9, y0, y1, y2', y3⟩ := lay_at (HSL.out.up (HWQ.out.trans hq)) (show 0 < len by omega)
   obtain ⟨g, o, m', x', y', B, l', d', qs1, e8, hbp, hxp, z0, z1, z2, z3⟩ := lay_at (HSL.out.up (HWQ.out.trans hq)) hi2
   obtain ⟨rfl, rfl⟩ : g9 = g ∧ o9 = o := by rw [e] at e8; injection e8 with e8; injection e8 with e8 e7; exact ⟨e8, e7⟩
   clear e8
   cases e
   rw [Nat.zero_mul, Nat.add_zero] at y0 y1 y2' y3
   have hl0 : (0 : Int) < (len : Int) := by omega
   have hjl : (j : Int) < (len : Int) := by omega
   obtain ⟨p, hpe⟩ : ∃ p, Lay.mk m' x' y' B l' d' qs1 = p := ⟨_, rfl⟩
   have hpv : p.v = .agg #[.int .i64 m', .int .i64 x', .bool y', .slice B l' d'] := by rw [← hpe]; rfl
   rw [hpe] at hxp
   have HIP := hide (HIH.out p (List.mem_of_getElem? hxp))
   rw [hpv] at HIP
   obtain ⟨z, hz⟩ : ∃ z, p.zero = z := ⟨_, rfl⟩
   rw [hz] at HIP
   have HZJ : Hid (zs[j]? = some z) := hide (by rw [hzj p hxp, hz])
   clear hzj
   obtain ⟨w3', hw3'⟩ : ∃ w3', wr.alloc (.cells #[.int .i64 m9, .int .i64 x9, .bool y9, .slice B9 l9 d9] 24) = w3' := ⟨_, rfl⟩
   have hq3' : Q wr w3' := by rw [← hw3']; exact (Q.refl _).alloc _
   have hb3 : w3'.heap[wr.heap.size]? = some (.cells #[.int .i64 m9, .int .i64 x9, .bool y9, .slice B9 l9 d9] 24 (0, 0)) := by rw [← hw3']; exact heap_alloc_new wr _
   have HSET := hide (set4row hb3 (.int .i64 m') (.int .i64 x') (.bool y') (.slice B l' d'))
   obtain ⟨w4, hw4⟩ : ∃ w4, w3'.setRow wr.heap.size #[.int .i64 m', .int .i64 x', .bool y', .slice B l' d'] = w4 := ⟨_, rfl⟩
   have hq4 : Q wr w4 := by rw [← hw4]; exact q_setRow hq3' (Nat.le_refl _)
   have hb4 : w4.heap[wr.heap.size]? = some (.cells #[.int .i64 m', .int .i64 x', .bool y', .slice B l' d'] 24 (0, 0)) := by rw [← hw4]; exact setRow_heap w3' _ _ _ _ _ hb3
   have HW3' := hide hw3'
   have HW4 := hide hw4
   have HB3 := hide hb3
   have HB4 := hide hb4
   have Q43 := hide (hq.trans hq3')
   have Q44 := hide hq4
   have Q24 := hide (hq.trans hq4)
   have k3 := (KA.out wr hq).2.2.2
   have u0 := (hq3'.facts.1 _ _ hbp).trans z0
   have u1 := (hq3'.facts.1 _ _ hbp).trans z1
   have u2 := (hq3'.facts.1 _ _ hbp).trans z2
   have u3 := (hq3'.facts.1 _ _ hbp).trans z3
   clear hxp hpe hpv hz hw3' hw4 hb3 hb4 hq3' hq4 hbp hb9 hx9 z0 z1 z2 z3 hzp hbx hbs hq
   go_upto_region 14 with fail
   rw [HW3'.out]
   clear k3 y0 y1 y2' y3
   have k0 := (KA.out w3' Q43.out).1
   have k3 := (KA.out w3' Q43.out).2.2.2
   have hb3 := HB3.out
   have b0 : w3'.cell? ⟨wr.heap.size, 0, none⟩ = some (.int .i64 m9) := cell_blkJ hb3 rfl
   have b1 : w3'.cell? ⟨wr.heap.size, 1, none⟩ = some (.int .i64 x9) := cell_blkJ hb3 rfl
   have b2 : w3'.cell? ⟨wr.heap.size, 2, none⟩ = some (.bool y9) := cell_blkJ hb3 rfl
   have b3 : w3'.cell? ⟨wr.heap.size, 3, none⟩ = some (.slice B9 l9 d9) := cell_blkJ hb3 rfl
   have f0 : w3'.frozen? ⟨wr.heap.size, 0, none⟩ = false := frz_new (j := 0) hb3
   have f1 : w3'.frozen? ⟨wr.heap.size, 1, none⟩ = false := frz_new (j := 1) hb3
   have f2 : w3'.frozen? ⟨wr.heap.size, 2, none⟩ = false := frz_new (j := 2) hb3
   have f3 : w3'.frozen? ⟨wr.heap.size, 3, none⟩ = false := frz_new (j := 3) hb3
   clear hb3
   go_upto_region 16 with fail
   rw [HSET.out, HW4.out]
   clear k0 k3 b0 b1 b2 b3 f0 f1 f2 f3 u0 u1 u2 u3
   refine Ri.madeY (C := CZ2 5 7 w4 w2 (W.heap.size + 3) (W.heap.size + 2) zs j u cs z) [5, 7] [0, 1, 2, 5, 6, 7] [0, 1, 2, 3, 6, 7] (fun S0 S2 f f2 w1 w2 hk hq9 hq => hq9.q hk hq) (Ri.phi [Ri.isV (.pointer (some ⟨W.heap.size + 2, 3, none⟩)), Ri.isV (u), Ri.isV (.agg #[.int .i64 m', .int .i64 x', .bool y', .slice B l' d']), (PzC2 (W.heap.size + 3) u z), (PzR2 (W.heap.size + 3) u z), (fun _ _ => True), Ri.isV (.pointer (some ⟨W.heap.size + 2, 3, none⟩)), (fun _ _ => True)]) (by kernel_rfl) (by kernel_rfl) (by kernel_rfl) (⟨⟨Q24.out.trans (Q.refl _).drew, Nat.le_trans HBS.out Q44.out.size, by rw [if_neg (by decide)]; exact (HZP.out.up Q44.out).up (Q.refl _).drew, by rw [if_neg (by decide)]; exact blk_q (blk_q HBX.out Q44.out) (Q.refl _).drew⟩, fun _ _ => (Q.refl _).drew⟩) (Ri.phi_mono ?_) (Ri.phi_fix ?_) ?_ ?_
   ·repeat' first | exact trivial | exact fun _ _ _ h _ => h | exact pzC2_mono _ _ _ | exact pzR2_mono _ _ _ | refine ⟨?_, ?_⟩
   ·repeat' first | exact trivial | exact fun _ _ _ _ h => h | exact fun h => absurd h (by decide) | refine ⟨?_, ?_⟩
   ·refine Ri.All.cons ?_ (.cons ?_ (.cons ?_ (.cons ?_ (.cons ?_ (.cons ?_ (.cons ?_ (.cons ?_ (Ri.All.nil))))))))
    ·refine Ri.StepY.q (h := fun S9 f9 W9 hS hD hq hf A9 hA hB hO => ?_)
     have e1 := (hB 3).trans (show _ = .pointer (some ⟨W.heap.size + 2, 0, none⟩) by simp [Act.eval])
     exact Ri.wp_value _ (Ri.run_fld (f := _) rfl e1 Try.underlying31 rfl (sz := 0) (by kernel_rfl)) rfl
    ·refine Ri.StepY.q (h := fun S9 f9 W9 hS hD hq hf A9 hA hB hO => ?_)
     have e1 := (hA 38 0).trans (hf 0)
     have hx9 := hq.1.2.2.2
     rw [(hO 7).1, if_neg (by decide)] at hx9
     exact Ri.wp_value _ (Ri.run_ld1 rfl e1 Try.underlying29 rfl (cell_blkJ hx9 rfl)) rfl
    ·refine Ri.StepY.q (h := fun S9 f9 W9 hS hD hq hf A9 hA hB hO => ?_)
     have e1 := (hB 6).trans (show _ = .pointer (some ⟨wr.heap.size, 0, none⟩) by simp [Act.eval])
     have h8 := hq.2 (hO 5).1 (hO 7).1
     exact Ri.wp_value _ (Ri.run_ldrow rfl e1 (blk_q HB4.out h8) Try.underlying24 rfl (by kernel_rfl)) rfl
    ·refine Ri.StepY.q (h := fun S9 f9 W9 hS hD hq hf A9 hA hB hO => ?_)
     have e1 := (hA 40 2).trans (hf 2)
     have hz9 := hq.1.2.2.1
     rw [(hO 5).1, if_neg (by decide)] at hz9
     have hlt9 := hz9.own.lt
     refine Ri.wp_call #[.agg #[.int .i64 m', .int .i64 x', .bool y', .slice B l' d']] rfl (by simp [e1]) Try.func52 (by kernel_rfl) (by kernel_rfl) ((HIP.out W9 (HWQ.out.trans hq.1.1)).mono ?_)
     rintro e w9 ⟨c, rfl, h1, h2, h3, h4⟩
     exact ⟨_, rfl, h4, W9.heap.size, hq.1.2.1, fun q hq9 => (hlt9 q hq9).2, c, rfl, h1, h2, h3⟩
    ·refine Ri.StepY.q (h := fun S9 f9 W9 hS hD hq hf A9 hA hB hO => ?_)
     obtain ⟨B1, hB1, hu1, c, hcv, hsk, hcr, hcb⟩ : PzC2 (W.heap.size + 3) u z (f9 3) W9 := hf 3
     cases c with
     | mk X0 X1 X2 A0 l0 d0 qs0 =>
      have e1 := (hA 41 3).trans (hcv.trans (show _ = .agg #[.int .i64 X0, .bool X1, .bool X2, .slice A0 l0 d0] from rfl))
      obtain ⟨ti, hi9, hz9, hsz9, hby9⟩ := info_parts (show (Try.prog.info? 31).map (fun i => (i.zero, i.size, i.bytes)) = some (some (.agg #[.int .i64 0, .bool false, .bool false, .slice none 0 0]), 4, 40) by kernel_rfl)
      refine wp_buildSlice 29 31 1 _ rfl #[.int .i64 X0, .bool X1, .bool X2, .slice A0 l0 d0] ti _ Try.underlying29 hi9 hz9 (by rw [hsz9]; decide) (by rw [hsz9]; decide) ?_ ⟨_, rfl, (Q.refl W9).alloc _, B1, hB1, hu1, _, W9.heap.size, rfl, by simp, fun j u hu => cell_blkJ (heap_alloc_new W9 _) (by simpa [encC] using hu), hsk, hcr.up ((Q.refl _).alloc _), hcb.mono fun b hb => ⟨hb.1, by simp; omega⟩⟩
      rw [hsz9]
      simp only [List.map_toArray, List.map_cons, List.map_nil, e1]
      kernel_rfl
    ·refine Ri.StepY.c (h := fun S9 f9 W9 hS hD hq hf A9 hA hB hO => ?_)
     obtain ⟨B1, hB1, hu1, c, b9, hb9, hl9, hc9, hsk, hcr, hcb⟩ : PzR2 (W.heap.size + 3) u z (f9 4) W9 := hf 4
     have e1 := (hA 39 1).trans (show f9 1 = u from hf 1)
     have e2 := (hA 42 4).trans hb9
     have hz9 := hq.1.2.2.1
     rw [hS, if_neg (by decide)] at hz9
     exact Ri.wp_appZ El_cel _ _ rfl e1 e2 hz9.own (news := encC c) (len_encC c) hc9 (one_cel c) (by decide) (by omega) hq.1.2.1 (fun v9 w9 h2 h3 h4 => ⟨⟨hq.1.app hS (hO 7).1 (by decide) (by omega) (by omega) HZJ.out hsk hcr hB1 hu1 hcb h2 h3 h4, fun e9 => absurd e9 (by rw [Ri.upd_at]; decide)⟩, trivial⟩)
    ·refine Ri.StepY.q (h := fun S9 f9 W9 hS hD hq hf A9 hA hB hO => ?_)
     have e1 := (hB 3).trans (show _ = .pointer (some ⟨W.heap.size + 2, 0, none⟩) by simp [Act.eval])
     exact Ri.wp_value _ (Ri.run_fld (f := _) rfl e1 Try.underlying31 rfl (sz := 0) (by kernel_rfl)) rfl
    ·refine Ri.StepY.c (h := fun S9 f9 W9 hS hD hq hf A9 hA hB hO => ?_)
     have e1 := (hA 44 6).trans (hf 6)
     have e2 := hA 43 5
     have hz9 := hq.1.2.2.1
     rw [hD 5, if_pos rfl] at hz9
     obtain ⟨c9, hz9⟩ := hz9
     obtain ⟨A9, cp9, hv9, -⟩ := own_form hz9.own
     exact Ri.wp_store1 rfl e1 e2 (by kernel_rfl) (by rw [hv9]; rfl) (by rw [hv9]; rfl) (cell_blkJ hq.1.2.2.2 rfl) (frz_new (j := 3) hq.1.2.2.2) ⟨undef, rfl, ⟨hq.1.store (hD 5) (by decide) (by omega) (by omega) undef, fun _ e9 => absurd e9 (by rw [Ri.upd_at]; decide)⟩, trivial⟩
   ·intro S9 f9 w8 hS hq8 hf
    obtain ⟨hq28, hB8, hz8, hx8⟩ := hq8.1.end_ (hS 5 (by simp)) (hS 7 (by simp))
    simp only [Ri.acts, Act.put, List.setIfInBounds_toArray, List.set_cons_zero, List.set_cons_succ, Nat.zero_add, Nat.reduceAdd]
    obtain ⟨v8, hv8⟩ : ∃ v8, f9 5 = v8 := ⟨_, rfl⟩
    rw [hv8] at hz8 hx8
    have HZ8 := hide hz8
    have HX8 := hide hx8
    have HB8 := hide hB8
    have HQ8 := hide hq28
    clear hz8 hx8 hB8 hq28 hq8 hf hS
    go_wp2_with fail
    go_roundw
    case rel =>
     obtain ⟨cs', hz8⟩ := HZ8.out
     exact ⟨j + 1, v8, cs', by omega, by go_num, hz8, HX8.out, HB8.out, HQ8.out⟩
    case measure => simp [intOf] <;> omega
  ·have hd1 : decide ((j : Int) < (len : Int)) = false := by simp <;> omega
   have hd0 : decide (j < len) = false := by simp <;> omega
   have hjm : j = len := by omega
   have HJM := hide hjm
   obtain ⟨A9, c9, rfl, r1, r2, r3⟩ := hzp.end_ (m := j) (by have := HZL.out; omega) (by omega)
   have HR1 := hide r1
   have HR2 := hide r2
   have HR3 := hide r3
   have u0 : wr.cell? ⟨W.heap.size + 2, 0, none⟩ = some (.int .i64 0) := cell_blkJ hbx rfl
   have u1 : wr.cell? ⟨W.heap.size + 2, 1, none⟩ = some (.bool false) := cell_blkJ hbx rfl
   have u2 : wr.cell? ⟨W.heap.size + 2, 2, none⟩ = some (.bool false) := cell_blkJ hbx rfl
   have u3 : wr.cell? ⟨W.heap.size + 2, 3, none⟩ = some (.slice A9 j c9) := cell_blkJ hbx rfl
   clear hzp hbx r1 r2 r3 hq hjm
   have kb1 := KB.out wr HQ.out
   have v0 : wr.cell? ⟨W.heap.size + 1, 0, none⟩ = some (.int .i64 0) := cell_blkJ kb1 rfl
   have vf0 : wr.frozen? ⟨W.heap.size + 1, 0, none⟩ = false := frz_new (j := 0) kb1
   have v1 : wr.cell? ⟨W.heap.size + 1, 1, none⟩ = some (.bool false) := cell_blkJ kb1 rfl
   have vf1 : wr.frozen? ⟨W.heap.size + 1, 1, none⟩ = false := frz_new (j := 1) kb1
   have v2 : wr.cell? ⟨W.heap.size + 1, 2, none⟩ = some (.bool false) := cell_blkJ kb1 rfl
   have vf2 : wr.frozen? ⟨W.heap.size + 1, 2, none⟩ = false := frz_new (j := 2) kb1
   have v3 : wr.cell? ⟨W.heap.size + 1, 3, none⟩ = some (.slice none 0 0) := cell_blkJ kb1 rfl
   have vf3 : wr.frozen? ⟨W.heap.size + 1, 3, none⟩ = false := frz_new (j := 3) kb1
   clear kb1
   have HS5 := hide (set4c (w := wr) (.int .i64 0) (.bool false) (.bool false) (.slice A9 j c9) v0 v1 v2 v3 _ rfl)
   go_wp2_with fail
   obtain ⟨s0, s1, s2, s3⟩ := HS5.out
   refine bodyPost_ret (v := .agg #[.int .i64 0, .bool false, .bool false, .slice A9 j c9]) (by simp [results, Try.results52, go_sem, s0, s1, s2, s3]) rfl ?_
   exact zr_end (HQ2.out.trans HQ.out) (by omega) (show W.heap.size + 1 < W.heap.size + 3 by omega) HR1.out HR2.out (HR3.out.trans RES.out.symm)
theorem zeroR_8 {w : World} {k n : Int} {f : Bool} {A : Option Addr} {len cap : Nat} {ps : List Lay} (hl : LayR w (.mk k n f A len cap ps)) (hv : VL (.mk k n f A len cap ps)) (ih : ∀ p ∈ ps, ∀ W, Q w W → Calls Try.prog 52 #[p.v] W (fun e w' => ZrP W p.zero e w')) (hk : k = 8) : ∀ W, Q w W → Calls Try.prog 52 #[.agg #[.int .i64 k, .int .i64 n, .bool f, .slice A len cap]] W (fun e w' => ZrP W (zeroC k n (ps.map Lay.zero)) e w') := by
 subst hk
 intro W hqW
 have HSL : Hid (Sl 4 encL w A len cap ps) := by cases hl with | @mk _ _ _ _ _ _ _ hk hn hsl hnil hcap hall => exact hide hsl
 have hpl := HSL.out.len
 have hl12 : len ≤ 12 := by have := hv.len.1; omega
 have HIH := hide ih
 have HV := hide hv
 obtain ⟨w2, hw2⟩ : ∃ w2, (W.alloc (.cells #[.int .i64 8, .int .i64 n, .bool f, .slice A len cap] 24)).alloc (.cells #[.int .i64 0, .bool false, .bool false, .slice none 0 0] 31) = w2 := ⟨_, rfl⟩
 obtain ⟨hq2, hs2, hc2, hd2⟩ := box2 hw2
 have hb0 : W.heap.size < w2.heap.size := by omega
 have hb1 : W.heap.size + 1 < w2.heap.size := by omega
 have kb1 : w2.heap[W.heap.size + 1]? = some (.cells #[.int .i64 0, .bool false, .bool false, .slice none 0 0] 31 (0, 0)) := by
  have h9 := heap_alloc_new (W.alloc (.cells #[.int .i64 8, .int .i64 n, .bool f, .slice A len cap] 24)) (.cells #[.int .i64 0, .bool false, .bool false, .slice none 0 0] 31)
  rw [hw2] at h9
  simpa using h9
 have KA := hide fun X (hX : Q w2 X) => (cs4 hX hb0 hc2 : Cs4 X W.heap.size (.int .i64 8) (.int .i64 n) (.bool f) (.slice A len cap))
 have KB : Hid (∀ X, Q w2 X → X.heap[W.heap.size + 1]? = some (.cells #[.int .i64 0, .bool false, .bool false, .slice none 0 0] 31 (0, 0))) := hide fun X hX => blk_q kb1 hX
 have HW2 := hide hw2
 have HQ2 := hide hq2
 have HWQ := hide (hqW.trans hq2)
 clear hl hv ih hqW hw2 hc2 hd2 hq2 kb1
 have hlt0 : 0 < len := by
  have h8 := HV.out.kind.2.2.1
  unfold numL at h8
  rw [if_neg (by decide), if_neg (by decide), if_pos rfl, decide_eq_true_eq] at h8
  omega
 obtain ⟨zs, hzs⟩ : ∃ zs, (ps.map Lay.zero).take 1 = zs := ⟨_, rfl⟩
 have RES : Hid (zeroC 8 n (ps.map Lay.zero) = .mk 0 false false none 0 0 zs) := hide (by rw [zeroC_8, hzs])
 have HZL : Hid (zs.length = 1) := hide (by rw [← hzs, List.length_take, List.length_map, hpl]; omega)
 have HIDX : Hid (∀ j, j < 1 → j < len ∧ ∀ p, ps[j]? = some p → zs[j]? = some p.zero) := hide (fun j hj => ⟨by omega, fun p hp => by
  rw [← hzs, List.getElem?_take, if_pos hj, List.getElem?_map, hp]
  rfl⟩)
 clear hzs hpl hlt0
 obtain ⟨w3, hw3⟩ : ∃ w3, w2.alloc (.cells #[.int .i64 0, .bool false, .bool false, .slice none 0 0] 31) = w3 := ⟨_, rfl⟩
 have hq3 : Q w2 w3 := by rw [← hw3]; exact (Q.refl _).alloc _
 have hs3 : w3.heap.size = W.heap.size + 3 := by rw [← hw3]; simp; omega
 have hx3 : w3.heap[W.heap.size + 2]? = some (.cells #[.int .i64 0, .bool false, .bool false, .slice none 0 0] 31 (0, 0)) := by rw [← hw3, ← hs2]; exact heap_alloc_new w2 _
 have HW3 := hide hw3
 have Q23 := hide hq3
 have HX3 := hide hx3
 clear hw3 hq3 hx3
 obtain ⟨k0, k1, k2, k3⟩ := KA.out w2 (Q.refl _)
 go_enter Try.func52, Try.ntmps52
 go_upto_region 1 with fail
 rw [HW2.out]
 clear k0 k1 k2 k3
 go_upto_region 2 with fail
 rw [HW3.out]
 obtain ⟨k0, k1, k2, k3⟩ := KA.out w3 Q23.out
 go_wp2_with fail
 clear k0 k1 k2 k3
 go_loopw [5] (fun vi wr => ∃ (j : Nat) (u : Value) (cs : List Cel), j ≤ 1 ∧ vi = .int .i64 j ∧ Zpd (W.heap.size + 3) zs j u cs wr ∧ wr.heap[W.heap.size + 2]? = some (.cells #[.int .i64 0, .bool false, .bool false, u] 31 (0, 0)) ∧ W.heap.size + 3 ≤ wr.heap.size ∧ Q w2 wr) (fun vi _ => 1 - (intOf vi).toNat)
 case atStart => exact ⟨0, .slice none 0 0, [], by omega, by go_num, Zpd.start _ zs _, HX3.out, by omega, Q23.out⟩
 case round =>
  obtain ⟨j, u, cs, hj, rfl, hzp, hbx, hbs, hq⟩ := hrel
  have HQ := hide hq
  have HZP := hide hzp
  have HBX := hide hbx
  have HBS := hide hbs
  by_cases hlt9 : j < 1
  ·have hd1 : decide ((j : Int) < (1 : Int)) = true := by simp; omega
   have hd0 : decide (j < 1) = true := by simp; omega
   have hlti : (j : Int) < (1 : Int) := by omega
   obtain ⟨hi2, hzj⟩ := HIDX.out j hlt9
   obtain ⟨g9, o9, m9, x9, y9, B9, l9, d9, qs9, e, hb9, hx9, y0, y1, y2', y3⟩ := lay_at (HSL.out.up (HWQ.out.trans hq)) (show 0 < len by omega)
   obtain ⟨g, o, m', x', y', B, l', d', qs1, e8, hbp, hxp, z0, z1, z2, z3⟩ := lay_at (HSL.out.up (HWQ.out.trans hq)) hi2
   obtain ⟨rfl, rfl⟩ : g9 = g ∧ o9 = o := by rw [e] at e8; injection e8 with e8; injection e8 with e8 e7; exact ⟨e8, e7⟩
   clear e8
   cases e
   rw [Nat.zero_mul, Nat.add_zero] at y0 y1 y2' y3
   have hl0 : (0 : Int) < (len : Int) := by omega
   have hjl : (j : Int) < (len : Int) := by omega
   obtain ⟨p, hpe⟩ : ∃ p, Lay.mk m' x' y' B l' d' qs1 = p := ⟨_, rfl⟩
   have hpv : p.v = .agg #[.int .i64 m', .int .i64 x', .bool y', .slice B l' d'] := by rw [← hpe]; rfl
   rw [hpe] at hxp
   have HIP := hide (HIH.out p (List.mem_of_getElem? hxp))
   rw [hpv] at HIP
   obtain ⟨z, hz⟩ : ∃ z, p.zero = z := ⟨_, rfl⟩
   rw [hz] at HIP
   have HZJ : Hid (zs[j]? = some z) := hide (by rw [hzj p hxp, hz])
   clear hzj
   obtain ⟨w3', hw3'⟩ : ∃ w3', wr.alloc (.cells #[.int .i64 m9, .int .i64 x9, .bool y9, .slice B9 l9 d9] 24) = w3' := ⟨_, rfl⟩
   have hq3' : Q wr w3' := by rw [← hw3']; exact (Q.refl _).alloc _
   have hb3 : w3'.heap[wr.heap.size]? = some (.cells #[.int .i64 m9, .int .i64 x9, .bool y9, .slice B9 l9 d9] 24 (0, 0)) := by rw [← hw3']; exact heap_alloc_new wr _
   have HSET := hide (set4row hb3 (.int .i64 m') (.int .i64 x') (.bool y') (.slice B l' d'))
   obtain ⟨w4, hw4⟩ : ∃ w4, w3'.setRow wr.heap.size #[.int .i64 m', .int .i64 x', .bool y', .slice B l' d'] = w4 := ⟨_, rfl⟩
   have hq4 : Q wr w4 := by rw [← hw4]; exact q_setRow hq3' (Nat.le_refl _)
   have hb4 : w4.heap[wr.heap.size]? = some (.cells #[.int .i64 m', .int .i64 x', .bool y', .slice B l' d'] 24 (0, 0)) := by rw [← hw4]; exact setRow_heap w3' _ _ _ _ _ hb3
   have HW3' := hide hw3'
   have HW4 := hide hw4
   have HB3 := hide hb3
   have HB4 := hide hb4
   have Q43 := hide (hq.trans hq3')
   have Q44 := hide hq4
   have Q24 := hide (hq.trans hq4)
   have k3 := (KA.out wr hq).2.2.2
   have u0 := (hq3'.facts.1 _ _ hbp).trans z0
   have u1 := (hq3'.facts.1 _ _ hbp).trans z1
   have u2 := (hq3'.facts.1 _ _ hbp).trans z2
   have u3 := (hq3'.facts.1 _ _ hbp).trans z3
   clear hxp hpe hpv hz hw3' hw4 hb3 hb4 hq3' hq4 hbp hb9 hx9 z0 z1 z2 z3 hzp hbx hbs hq
   go_upto_region 14 with fail
   rw [HW3'.out]
   clear k3 y0 y1 y2' y3
   have k0 := (KA.out w3' Q43.out).1
   have k3 := (KA.out w3' Q43.out).2.2.2
   have hb3 := HB3.out
   have b0 : w3'.cell? ⟨wr.heap.size, 0, none⟩ = some (.int .i64 m9) := cell_blkJ hb3 rfl
   have b1 : w3'.cell? ⟨wr.heap.size, 1, none⟩ = some (.int .i64 x9) := cell_blkJ hb3 rfl
   have b2 : w3'.cell? ⟨wr.heap.size, 2, none⟩ = some (.bool y9) := cell_blkJ hb3 rfl
   have b3 : w3'.cell? ⟨wr.heap.size, 3, none⟩ = some (.slice B9 l9 d9) := cell_blkJ hb3 rfl
   have f0 : w3'.frozen? ⟨wr.heap.size, 0, none⟩ = false := frz_new (j := 0) hb3
   have f1 : w3'.frozen? ⟨wr.heap.size, 1, none⟩ = false := frz_new (j := 1) hb3
   have f2 : w3'.frozen? ⟨wr.heap.size, 2, none⟩ = false := frz_new (j := 2) hb3
   have f3 : w3'.frozen? ⟨wr.heap.size, 3, none⟩ = false := frz_new (j := 3) hb3
   clear hb3
   go_upto_region 16 with fail
   rw [HSET.out, HW4.out]
   clear k0 k3 b0 b1 b2 b3 f0 f1 f2 f3 u0 u1 u2 u3
   refine Ri.madeY (C := CZ2 5 7 w4 w2 (W.heap.size + 3) (W.heap.size + 2) zs j u cs z) [5, 7] [0, 1, 2, 5, 6, 7] [0, 1, 2, 3, 6, 7] (fun S0 S2 f f2 w1 w2 hk hq9 hq => hq9.q hk hq) (Ri.phi [Ri.isV (.pointer (some ⟨W.heap.size + 2, 3, none⟩)), Ri.isV (u), Ri.isV (.agg #[.int .i64 m', .int .i64 x', .bool y', .slice B l' d']), (PzC2 (W.heap.size + 3) u z), (PzR2 (W.heap.size + 3) u z), (fun _ _ => True), Ri.isV (.pointer (some ⟨W.heap.size + 2, 3, none⟩)), (fun _ _ => True)]) (by kernel_rfl) (by kernel_rfl) (by kernel_rfl) (⟨⟨Q24.out.trans (Q.refl _).drew, Nat.le_trans HBS.out Q44.out.size, by rw [if_neg (by decide)]; exact (HZP.out.up Q44.out).up (Q.refl _).drew, by rw [if_neg (by decide)]; exact blk_q (blk_q HBX.out Q44.out) (Q.refl _).drew⟩, fun _ _ => (Q.refl _).drew⟩) (Ri.phi_mono ?_) (Ri.phi_fix ?_) ?_ ?_
   ·repeat' first | exact trivial | exact fun _ _ _ h _ => h | exact pzC2_mono _ _ _ | exact pzR2_mono _ _ _ | refine ⟨?_, ?_⟩
   ·repeat' first | exact trivial | exact fun _ _ _ _ h => h | exact fun h => absurd h (by decide) | refine ⟨?_, ?_⟩
   ·refine Ri.All.cons ?_ (.cons ?_ (.cons ?_ (.cons ?_ (.cons ?_ (.cons ?_ (.cons ?_ (.cons ?_ (Ri.All.nil))))))))
    ·refine Ri.StepY.q (h := fun S9 f9 W9 hS hD hq hf A9 hA hB hO => ?_)
     have e1 := (hB 3).trans (show _ = .pointer (some ⟨W.heap.size + 2, 0, none⟩) by simp [Act.eval])
     exact Ri.wp_value _ (Ri.run_fld (f := _) rfl e1 Try.underlying31 rfl (sz := 0) (by kernel_rfl)) rfl
    ·refine Ri.StepY.q (h := fun S9 f9 W9 hS hD hq hf A9 hA hB hO => ?_)
     have e1 := (hA 38 0).trans (hf 0)
     have hx9 := hq.1.2.2.2
     rw [(hO 7).1, if_neg (by decide)] at hx9
     exact Ri.wp_value _ (Ri.run_ld1 rfl e1 Try.underlying29 rfl (cell_blkJ hx9 rfl)) rfl
    ·refine Ri.StepY.q (h := fun S9 f9 W9 hS hD hq hf A9 hA hB hO => ?_)
     have e1 := (hB 6).trans (show _ = .pointer (some ⟨wr.heap.size, 0, none⟩) by simp [Act.eval])
     have h8 := hq.2 (hO 5).1 (hO 7).1
     exact Ri.wp_value _ (Ri.run_ldrow rfl e1 (blk_q HB4.out h8) Try.underlying24 rfl (by kernel_rfl)) rfl
    ·refine Ri.StepY.q (h := fun S9 f9 W9 hS hD hq hf A9 hA hB hO => ?_)
     have e1 := (hA 40 2).trans (hf 2)
     have hz9 := hq.1.2.2.1
     rw [(hO 5).1, if_neg (by decide)] at hz9
     have hlt9 := hz9.own.lt
     refine Ri.wp_call #[.agg #[.int .i64 m', .int .i64 x', .bool y', .slice B l' d']] rfl (by simp [e1]) Try.func52 (by kernel_rfl) (by kernel_rfl) ((HIP.out W9 (HWQ.out.trans hq.1.1)).mono ?_)
     rintro e w9 ⟨c, rfl, h1, h2, h3, h4⟩
     exact ⟨_, rfl, h4, W9.heap.size, hq.1.2.1, fun q hq9 => (hlt9 q hq9).2, c, rfl, h1, h2, h3⟩
    ·refine Ri.StepY.q (h := fun S9 f9 W9 hS hD hq hf A9 hA hB hO => ?_)
     obtain ⟨B1, hB1, hu1, c, hcv, hsk, hcr, hcb⟩ : PzC2 (W.heap.size + 3) u z (f9 3) W9 := hf 3
     cases c with
     | mk X0 X1 X2 A0 l0 d0 qs0 =>
      have e1 := (hA 41 3).trans (hcv.trans (show _ = .agg #[.int .i64 X0, .bool X1, .bool X2, .slice A0 l0 d0] from rfl))
      obtain ⟨ti, hi9, hz9, hsz9, hby9⟩ := info_parts (show (Try.prog.info? 31).map (fun i => (i.zero, i.size, i.bytes)) = some (some (.agg #[.int .i64 0, .bool false, .bool false, .slice none 0 0]), 4, 40) by kernel_rfl)
      refine wp_buildSlice 29 31 1 _ rfl #[.int .i64 X0, .bool X1, .bool X2, .slice A0 l0 d0] ti _ Try.underlying29 hi9 hz9 (by rw [hsz9]; decide) (by rw [hsz9]; decide) ?_ ⟨_, rfl, (Q.refl W9).alloc _, B1, hB1, hu1, _, W9.heap.size, rfl, by simp, fun j u hu => cell_blkJ (heap_alloc_new W9 _) (by simpa [encC] using hu), hsk, hcr.up ((Q.refl _).alloc _), hcb.mono fun b hb => ⟨hb.1, by simp; omega⟩⟩
      rw [hsz9]
      simp only [List.map_toArray, List.map_cons, List.map_nil, e1]
      kernel_rfl
    ·refine Ri.StepY.c (h := fun S9 f9 W9 hS hD hq hf A9 hA hB hO => ?_)
     obtain ⟨B1, hB1, hu1, c, b9, hb9, hl9, hc9, hsk, hcr, hcb⟩ : PzR2 (W.heap.size + 3) u z (f9 4) W9 := hf 4
     have e1 := (hA 39 1).trans (show f9 1 = u from hf 1)
     have e2 := (hA 42 4).trans hb9
     have hz9 := hq.1.2.2.1
     rw [hS, if_neg (by decide)] at hz9
     exact Ri.wp_appZ El_cel _ _ rfl e1 e2 hz9.own (news := encC c) (len_encC c) hc9 (one_cel c) (by decide) (by omega) hq.1.2.1 (fun v9 w9 h2 h3 h4 => ⟨⟨hq.1.app hS (hO 7).1 (by decide) (by omega) (by omega) HZJ.out hsk hcr hB1 hu1 hcb h2 h3 h4, fun e9 => absurd e9 (by rw [Ri.upd_at]; decide)⟩, trivial⟩)
    ·refine Ri.StepY.q (h := fun S9 f9 W9 hS hD hq hf A9 hA hB hO => ?_)
     have e1 := (hB 3).trans (show _ = .pointer (some ⟨W.heap.size + 2, 0, none⟩) by simp [Act.eval])
     exact Ri.wp_value _ (Ri.run_fld (f := _) rfl e1 Try.underlying31 rfl (sz := 0) (by kernel_rfl)) rfl
    ·refine Ri.StepY.c (h := fun S9 f9 W9 hS hD hq hf A9 hA hB hO => ?_)
     have e1 := (hA 44 6).trans (hf 6)
     have e2 := hA 43 5
     have hz9 := hq.1.2.2.1
     rw [hD 5, if_pos rfl] at hz9
     obtain ⟨c9, hz9⟩ := hz9
     obtain ⟨A9, cp9, hv9, -⟩ := own_form hz9.own
     exact Ri.wp_store1 rfl e1 e2 (by kernel_rfl) (by rw [hv9]; rfl) (by rw [hv9]; rfl) (cell_blkJ hq.1.2.2.2 rfl) (frz_new (j := 3) hq.1.2.2.2) ⟨undef, rfl, ⟨hq.1.store (hD 5) (by decide) (by omega) (by omega) undef, fun _ e9 => absurd e9 (by rw [Ri.upd_at]; decide)⟩, trivial⟩
   ·intro S9 f9 w8 hS hq8 hf
    obtain ⟨hq28, hB8, hz8, hx8⟩ := hq8.1.end_ (hS 5 (by simp)) (hS 7 (by simp))
    simp only [Ri.acts, Act.put, List.setIfInBounds_toArray, List.set_cons_zero, List.set_cons_succ, Nat.zero_add, Nat.reduceAdd]
    obtain ⟨v8, hv8⟩ : ∃ v8, f9 5 = v8 := ⟨_, rfl⟩
    rw [hv8] at hz8 hx8
    have HZ8 := hide hz8
    have HX8 := hide hx8
    have HB8 := hide hB8
    have HQ8 := hide hq28
    clear hz8 hx8 hB8 hq28 hq8 hf hS
    go_wp2_with fail
    go_roundw
    case rel =>
     obtain ⟨cs', hz8⟩ := HZ8.out
     exact ⟨j + 1, v8, cs', by omega, by go_num, hz8, HX8.out, HB8.out, HQ8.out⟩
    case measure => simp [intOf] <;> omega
  ·have hd1 : decide ((j : Int) < (1 : Int)) = false := by simp <;> omega
   have hd0 : decide (j < 1) = false := by simp <;> omega
   have hjm : j = 1 := by omega
   have HJM := hide hjm
   obtain ⟨A9, c9, rfl, r1, r2, r3⟩ := hzp.end_ (m := j) (by have := HZL.out; omega) (by omega)
   have HR1 := hide r1
   have HR2 := hide r2
   have HR3 := hide r3
   have u0 : wr.cell? ⟨W.heap.size + 2, 0, none⟩ = some (.int .i64 0) := cell_blkJ hbx rfl
   have u1 : wr.cell? ⟨W.heap.size + 2, 1, none⟩ = some (.bool false) := cell_blkJ hbx rfl
   have u2 : wr.cell? ⟨W.heap.size + 2, 2, none⟩ = some (.bool false) := cell_blkJ hbx rfl
   have u3 : wr.cell? ⟨W.heap.size + 2, 3, none⟩ = some (.slice A9 j c9) := cell_blkJ hbx rfl
   clear hzp hbx r1 r2 r3 hq hjm
   have kb1 := KB.out wr HQ.out
   have v0 : wr.cell? ⟨W.heap.size + 1, 0, none⟩ = some (.int .i64 0) := cell_blkJ kb1 rfl
   have vf0 : wr.frozen? ⟨W.heap.size + 1, 0, none⟩ = false := frz_new (j := 0) kb1
   have v1 : wr.cell? ⟨W.heap.size + 1, 1, none⟩ = some (.bool false) := cell_blkJ kb1 rfl
   have vf1 : wr.frozen? ⟨W.heap.size + 1, 1, none⟩ = false := frz_new (j := 1) kb1
   have v2 : wr.cell? ⟨W.heap.size + 1, 2, none⟩ = some (.bool false) := cell_blkJ kb1 rfl
   have vf2 : wr.frozen? ⟨W.heap.size + 1, 2, none⟩ = false := frz_new (j := 2) kb1
   have v3 : wr.cell? ⟨W.heap.size + 1, 3, none⟩ = some (.slice none 0 0) := cell_blkJ kb1 rfl
   have vf3 : wr.frozen? ⟨W.heap.size + 1, 3, none⟩ = false := frz_new (j := 3) kb1
   clear kb1
   have HS5 := hide (set4c (w := wr) (.int .i64 0) (.bool false) (.bool false) (.slice A9 j c9) v0 v1 v2 v3 _ rfl)
   go_wp2_with fail
   obtain ⟨s0, s1, s2, s3⟩ := HS5.out
   refine bodyPost_ret (v := .agg #[.int .i64 0, .bool false, .bool false, .slice A9 j c9]) (by simp [results, Try.results52, go_sem, s0, s1, s2, s3]) rfl ?_
   exact zr_end (HQ2.out.trans HQ.out) (by omega) (show W.heap.size + 1 < W.heap.size + 3 by omega) HR1.out HR2.out (HR3.out.trans RES.out.symm)
theorem zeroR_9 {w : World} {k n : Int} {f : Bool} {A : Option Addr} {len cap : Nat} {ps : List Lay} (hl : LayR w (.mk k n f A len cap ps)) (hv : VL (.mk k n f A len cap ps)) (ih : ∀ p ∈ ps, ∀ W, Q w W → Calls Try.prog 52 #[p.v] W (fun e w' => ZrP W p.zero e w')) (hk : k = 9) : ∀ W, Q w W → Calls Try.prog 52 #[.agg #[.int .i64 k, .int .i64 n, .bool f, .slice A len cap]] W (fun e w' => ZrP W (zeroC k n (ps.map Lay.zero)) e w') := by
 subst hk
 intro W hqW
 have HSL : Hid (Sl 4 encL w A len cap ps) := by cases hl with | @mk _ _ _ _ _ _ _ hk hn hsl hnil hcap hall => exact hide hsl
 have hpl := HSL.out.len
 have hl12 : len ≤ 12 := by have := hv.len.1; omega
 have HIH := hide ih
 have HV := hide hv
 obtain ⟨w2, hw2⟩ : ∃ w2, (W.alloc (.cells #[.int .i64 9, .int .i64 n, .bool f, .slice A len cap] 24)).alloc (.cells #[.int .i64 0, .bool false, .bool false, .slice none 0 0] 31) = w2 := ⟨_, rfl⟩
 obtain ⟨hq2, hs2, hc2, hd2⟩ := box2 hw2
 have hb0 : W.heap.size < w2.heap.size := by omega
 have hb1 : W.heap.size + 1 < w2.heap.size := by omega
 have kb1 : w2.heap[W.heap.size + 1]? = some (.cells #[.int .i64 0, .bool false, .bool false, .slice none 0 0] 31 (0, 0)) := by
  have h9 := heap_alloc_new (W.alloc (.cells #[.int .i64 9, .int .i64 n, .bool f, .slice A len cap] 24)) (.cells #[.int .i64 0, .bool false, .bool false, .slice none 0 0] 31)
  rw [hw2] at h9
  simpa using h9
 have KA := hide fun X (hX : Q w2 X) => (cs4 hX hb0 hc2 : Cs4 X W.heap.size (.int .i64 9) (.int .i64 n) (.bool f) (.slice A len cap))
 have KB : Hid (∀ X, Q w2 X → X.heap[W.heap.size + 1]? = some (.cells #[.int .i64 0, .bool false, .bool false, .slice none 0 0] 31 (0, 0))) := hide fun X hX => blk_q kb1 hX
 have HW2 := hide hw2
 have HQ2 := hide hq2
 have HWQ := hide (hqW.trans hq2)
 clear hl hv ih hqW hw2 hc2 hd2 hq2 kb1
 have hm1 : len ≤ 1000 := by omega
 obtain ⟨zs, hzs⟩ : ∃ zs, ps.map Lay.zero = zs := ⟨_, rfl⟩
 have RES : Hid (zeroC 9 n (ps.map Lay.zero) = .mk 0 false false none 0 0 zs) := hide (by rw [zeroC_69 (by decide), hzs])
 have HZL : Hid (zs.length = len) := hide (by rw [← hzs, List.length_map, hpl])
 have HIDX : Hid (∀ j, j < len → j < len ∧ ∀ p, ps[j]? = some p → zs[j]? = some p.zero) := hide (fun j hj => ⟨hj, fun p hp => by
  rw [← hzs, List.getElem?_map, hp]
  rfl⟩)
 clear hzs hpl
 obtain ⟨w3, hw3⟩ : ∃ w3, w2.alloc (.cells #[.int .i64 0, .bool false, .bool false, .slice none 0 0] 31) = w3 := ⟨_, rfl⟩
 have hq3 : Q w2 w3 := by rw [← hw3]; exact (Q.refl _).alloc _
 have hs3 : w3.heap.size = W.heap.size + 3 := by rw [← hw3]; simp; omega
 have hx3 : w3.heap[W.heap.size + 2]? = some (.cells #[.int .i64 0, .bool false, .bool false, .slice none 0 0] 31 (0, 0)) := by rw [← hw3, ← hs2]; exact heap_alloc_new w2 _
 have HW3 := hide hw3
 have Q23 := hide hq3
 have HX3 := hide hx3
 clear hw3 hq3 hx3
 obtain ⟨k0, k1, k2, k3⟩ := KA.out w2 (Q.refl _)
 go_enter Try.func52, Try.ntmps52
 go_upto_region 1 with fail
 rw [HW2.out]
 clear k0 k1 k2 k3
 go_upto_region 2 with fail
 rw [HW3.out]
 obtain ⟨k0, k1, k2, k3⟩ := KA.out w3 Q23.out
 go_wp2_with fail
 clear k0 k1 k2 k3
 go_loopw [5] (fun vi wr => ∃ (j : Nat) (u : Value) (cs : List Cel), j ≤ len ∧ vi = .int .i64 j ∧ Zpd (W.heap.size + 3) zs j u cs wr ∧ wr.heap[W.heap.size + 2]? = some (.cells #[.int .i64 0, .bool false, .bool false, u] 31 (0, 0)) ∧ W.heap.size + 3 ≤ wr.heap.size ∧ Q w2 wr) (fun vi _ => len - (intOf vi).toNat)
 case atStart => exact ⟨0, .slice none 0 0, [], by omega, by go_num, Zpd.start _ zs _, HX3.out, by omega, Q23.out⟩
 case round =>
  obtain ⟨j, u, cs, hj, rfl, hzp, hbx, hbs, hq⟩ := hrel
  have HQ := hide hq
  have HZP := hide hzp
  have HBX := hide hbx
  have HBS := hide hbs
  by_cases hlt9 : j < len
  ·have hd1 : decide ((j : Int) < (len : Int)) = true := by simp; omega
   have hd0 : decide (j < len) = true := by simp; omega
   have hlti : (j : Int) < (len : Int) := by omega
   obtain ⟨hi2, hzj⟩ := HIDX.out j hlt9
   obtain ⟨g9, o9, m9, x9, y9, B9, l9, d9, qs9, e, hb9, hx9, y0, y1, y2', y3⟩ := lay_at (HSL.out.up (HWQ.out.trans hq)) (show 0 < len by omega)
   obtain ⟨g, o, m', x', y', B, l', d', qs1, e8, hbp, hxp, z0, z1, z2, z3⟩ := lay_at (HSL.out.up (HWQ.out.trans hq)) hi2
   obtain ⟨rfl, rfl⟩ : g9 = g ∧ o9 = o := by rw [e] at e8; injection e8 with e8; injection e8 with e8 e7; exact ⟨e8, e7⟩
   clear e8
   cases e
   rw [Nat.zero_mul, Nat.add_zero] at y0 y1 y2' y3
   have hl0 : (0 : Int) < (len : Int) := by omega
   have hjl : (j : Int) < (len : Int) := by omega
   obtain ⟨p, hpe⟩ : ∃ p, Lay.mk m' x' y' B l' d' qs1 = p := ⟨_, rfl⟩
   have hpv : p.v = .agg #[.int .i64 m', .int .i64 x', .bool y', .slice B l' d'] := by rw [← hpe]; rfl
   rw [hpe] at hxp
   have HIP := hide (HIH.out p (List.mem_of_getElem? hxp))
   rw [hpv] at HIP
   obtain ⟨z, hz⟩ : ∃ z, p.zero = z := ⟨_, rfl⟩
   rw [hz] at HIP
   have HZJ : Hid (zs[j]? = some z) := hide (by rw [hzj p hxp, hz])
   clear hzj
   obtain ⟨w3', hw3'⟩ : ∃ w3', wr.alloc (.cells #[.int .i64 m9, .int .i64 x9, .bool y9, .slice B9 l9 d9] 24) = w3' := ⟨_, rfl⟩
   have hq3' : Q wr w3' := by rw [← hw3']; exact (Q.refl _).alloc _
   have hb3 : w3'.heap[wr.heap.size]? = some (.cells #[.int .i64 m9, .int .i64 x9, .bool y9, .slice B9 l9 d9] 24 (0, 0)) := by rw [← hw3']; exact heap_alloc_new wr _
   have HSET := hide (set4row hb3 (.int .i64 m') (.int .i64 x') (.bool y') (.slice B l' d'))
   obtain ⟨w4, hw4⟩ : ∃ w4, w3'.setRow wr.heap.size #[.int .i64 m', .int .i64 x', .bool y', .slice B l' d'] = w4 := ⟨_, rfl⟩
   have hq4 : Q wr w4 := by rw [← hw4]; exact q_setRow hq3' (Nat.le_refl _)
   have hb4 : w4.heap[wr.heap.size]? = some (.cells #[.int .i64 m', .int .i64 x', .bool y', .slice B l' d'] 24 (0, 0)) := by rw [← hw4]; exact setRow_heap w3' _ _ _ _ _ hb3
   have HW3' := hide hw3'
   have HW4 := hide hw4
   have HB3 := hide hb3
   have HB4 := hide hb4
   have Q43 := hide (hq.trans hq3')
   have Q44 := hide hq4
   have Q24 := hide (hq.trans hq4)
   have k3 := (KA.out wr hq).2.2.2
   have u0 := (hq3'.facts.1 _ _ hbp).trans z0
   have u1 := (hq3'.facts.1 _ _ hbp).trans z1
   have u2 := (hq3'.facts.1 _ _ hbp).trans z2
   have u3 := (hq3'.facts.1 _ _ hbp).trans z3
   clear hxp hpe hpv hz hw3' hw4 hb3 hb4 hq3' hq4 hbp hb9 hx9 z0 z1 z2 z3 hzp hbx hbs hq
   go_upto_region 14 with fail
   rw [HW3'.out]
   clear k3 y0 y1 y2' y3
   have k0 := (KA.out w3' Q43.out).1
   have k3 := (KA.out w3' Q43.out).2.2.2
   have hb3 := HB3.out
   have b0 : w3'.cell? ⟨wr.heap.size, 0, none⟩ = some (.int .i64 m9) := cell_blkJ hb3 rfl
   have b1 : w3'.cell? ⟨wr.heap.size, 1, none⟩ = some (.int .i64 x9) := cell_blkJ hb3 rfl
   have b2 : w3'.cell? ⟨wr.heap.size, 2, none⟩ = some (.bool y9) := cell_blkJ hb3 rfl
   have b3 : w3'.cell? ⟨wr.heap.size, 3, none⟩ = some (.slice B9 l9 d9) := cell_blkJ hb3 rfl
   have f0 : w3'.frozen? ⟨wr.heap.size, 0, none⟩ = false := frz_new (j := 0) hb3
   have f1 : w3'.frozen? ⟨wr.heap.size, 1, none⟩ = false := frz_new (j := 1) hb3
   have f2 : w3'.frozen? ⟨wr.heap.size, 2, none⟩ = false := frz_new (j := 2) hb3
   have f3 : w3'.frozen? ⟨wr.heap.size, 3, none⟩ = false := frz_new (j := 3) hb3
   clear hb3
   go_upto_region 16 with fail
   rw [HSET.out, HW4.out]
   clear k0 k3 b0 b1 b2 b3 f0 f1 f2 f3 u0 u1 u2 u3
   refine Ri.madeY (C := CZ2 5 7 w4 w2 (W.heap.size + 3) (W.heap.size + 2) zs j u cs z) [5, 7] [0, 1, 2, 5, 6, 7] [0, 1, 2, 3, 6, 7] (fun S0 S2 f f2 w1 w2 hk hq9 hq => hq9.q hk hq) (Ri.phi [Ri.isV (.pointer (some ⟨W.heap.size + 2, 3, none⟩)), Ri.isV (u), Ri.isV (.agg #[.int .i64 m', .int .i64 x', .bool y', .slice B l' d']), (PzC2 (W.heap.size + 3) u z), (PzR2 (W.heap.size + 3) u z), (fun _ _ => True), Ri.isV (.pointer (some ⟨W.heap.size + 2, 3, none⟩)), (fun _ _ => True)]) (by kernel_rfl) (by kernel_rfl) (by kernel_rfl) (⟨⟨Q24.out.trans (Q.refl _).drew, Nat.le_trans HBS.out Q44.out.size, by rw [if_neg (by decide)]; exact (HZP.out.up Q44.out).up (Q.refl _).drew, by rw [if_neg (by decide)]; exact blk_q (blk_q HBX.out Q44.out) (Q.refl _).drew⟩, fun _ _ => (Q.refl _).drew⟩) (Ri.phi_mono ?_) (Ri.phi_fix ?_) ?_ ?_
   ·repeat' first | exact trivial | exact fun _ _ _ h _ => h | exact pzC2_mono _ _ _ | exact pzR2_mono _ _ _ | refine ⟨?_, ?_⟩
   ·repeat' first | exact trivial | exact fun _ _ _ _ h => h | exact fun h => absurd h (by decide) | refine ⟨?_, ?_⟩
   ·refine Ri.All.cons ?_ (.cons ?_ (.cons ?_ (.cons ?_ (.cons ?_ (.cons ?_ (.cons ?_ (.cons ?_ (Ri.All.nil))))))))
    ·refine Ri.StepY.q (h := fun S9 f9 W9 hS hD hq hf A9 hA hB hO => ?_)
     have e1 := (hB 3).trans (show _ = .pointer (some ⟨W.heap.size + 2, 0, none⟩) by simp [Act.eval])
     exact Ri.wp_value _ (Ri.run_fld (f := _) rfl e1 Try.underlying31 rfl (sz := 0) (by kernel_rfl)) rfl
    ·refine Ri.StepY.q (h := fun S9 f9 W9 hS hD hq hf A9 hA hB hO => ?_)
     have e1 := (hA 38 0).trans (hf 0)
     have hx9 := hq.1.2.2.2
     rw [(hO 7).1, if_neg (by decide)] at hx9
     exact Ri.wp_value _ (Ri.run_ld1 rfl e1 Try.underlying29 rfl (cell_blkJ hx9 rfl)) rfl
    ·refine Ri.StepY.q (h := fun S9 f9 W9 hS hD hq hf A9 hA hB hO => ?_)
     have e1 := (hB 6).trans (show _ = .pointer (some ⟨wr.heap.size, 0, none⟩) by simp [Act.eval])
     have h8 := hq.2 (hO 5).1 (hO 7).1
     exact Ri.wp_value _ (Ri.run_ldrow rfl e1 (blk_q HB4.out h8) Try.underlying24 rfl (by kernel_rfl)) rfl
    ·refine Ri.StepY.q (h := fun S9 f9 W9 hS hD hq hf A9 hA hB hO => ?_)
     have e1 := (hA 40 2).trans (hf 2)
     have hz9 := hq.1.2.2.1
     rw [(hO 5).1, if_neg (by decide)] at hz9
     have hlt9 := hz9.own.lt
     refine Ri.wp_call #[.agg #[.int .i64 m', .int .i64 x', .bool y', .slice B l' d']] rfl (by simp [e1]) Try.func52 (by kernel_rfl) (by kernel_rfl) ((HIP.out W9 (HWQ.out.trans hq.1.1)).mono ?_)
     rintro e w9 ⟨c, rfl, h1, h2, h3, h4⟩
     exact ⟨_, rfl, h4, W9.heap.size, hq.1.2.1, fun q hq9 => (hlt9 q hq9).2, c, rfl, h1, h2, h3⟩
    ·refine Ri.StepY.q (h := fun S9 f9 W9 hS hD hq hf A9 hA hB hO => ?_)
     obtain ⟨B1, hB1, hu1, c, hcv, hsk, hcr, hcb⟩ : PzC2 (W.heap.size + 3) u z (f9 3) W9 := hf 3
     cases c with
     | mk X0 X1 X2 A0 l0 d0 qs0 =>
      have e1 := (hA 41 3).trans (hcv.trans (show _ = .agg #[.int .i64 X0, .bool X1, .bool X2, .slice A0 l0 d0] from rfl))
      obtain ⟨ti, hi9, hz9, hsz9, hby9⟩ := info_parts (show (Try.prog.info? 31).map (fun i => (i.zero, i.size, i.bytes)) = some (some (.agg #[.int .i64 0, .bool false, .bool false, .slice none 0 0]), 4, 40) by kernel_rfl)
      refine wp_buildSlice 29 31 1 _ rfl #[.int .i64 X0, .bool X1, .bool X2, .slice A0 l0 d0] ti _ Try.underlying29 hi9 hz9 (by rw [hsz9]; decide) (by rw [hsz9]; decide) ?_ ⟨_, rfl, (Q.refl W9).alloc _, B1, hB1, hu1, _, W9.heap.size, rfl, by simp, fun j u hu => cell_blkJ (heap_alloc_new W9 _) (by simpa [encC] using hu), hsk, hcr.up ((Q.refl _).alloc _), hcb.mono fun b hb => ⟨hb.1, by simp; omega⟩⟩
      rw [hsz9]
      simp only [List.map_toArray, List.map_cons, List.map_nil, e1]
      kernel_rfl
    ·refine Ri.StepY.c (h := fun S9 f9 W9 hS hD hq hf A9 hA hB hO => ?_)
     obtain ⟨B1, hB1, hu1, c, b9, hb9, hl9, hc9, hsk, hcr, hcb⟩ : PzR2 (W.heap.size + 3) u z (f9 4) W9 := hf 4
     have e1 := (hA 39 1).trans (show f9 1 = u from hf 1)
     have e2 := (hA 42 4).trans hb9
     have hz9 := hq.1.2.2.1
     rw [hS, if_neg (by decide)] at hz9
     exact Ri.wp_appZ El_cel _ _ rfl e1 e2 hz9.own (news := encC c) (len_encC c) hc9 (one_cel c) (by decide) (by omega) hq.1.2.1 (fun v9 w9 h2 h3 h4 => ⟨⟨hq.1.app hS (hO 7).1 (by decide) (by omega) (by omega) HZJ.out hsk hcr hB1 hu1 hcb h2 h3 h4, fun e9 => absurd e9 (by rw [Ri.upd_at]; decide)⟩, trivial⟩)
    ·refine Ri.StepY.q (h := fun S9 f9 W9 hS hD hq hf A9 hA hB hO => ?_)
     have e1 := (hB 3).trans (show _ = .pointer (some ⟨W.heap.size + 2, 0, none⟩) by simp [Act.eval])
     exact Ri.wp_value _ (Ri.run_fld (f := _) rfl e1 Try.underlying31 rfl (sz := 0) (by kernel_rfl)) rfl
    ·refine Ri.StepY.c (h := fun S9 f9 W9 hS hD hq hf A9 hA hB hO => ?_)
     have e1 := (hA 44 6).trans (hf 6)
     have e2 := hA 43 5
     have hz9 := hq.1.2.2.1
     rw [hD 5, if_pos rfl] at hz9
     obtain ⟨c9, hz9⟩ := hz9
     obtain ⟨A9, cp9, hv9, -⟩ := own_form hz9.own
     exact Ri.wp_store1 rfl e1 e2 (by kernel_rfl) (by rw [hv9]; rfl) (by rw [hv9]; rfl) (cell_blkJ hq.1.2.2.2 rfl) (frz_new (j := 3) hq.1.2.2.2) ⟨undef, rfl, ⟨hq.1.store (hD 5) (by decide) (by omega) (by omega) undef, fun _ e9 => absurd e9 (by rw [Ri.upd_at]; decide)⟩, trivial⟩
   ·intro S9 f9 w8 hS hq8 hf
    obtain ⟨hq28, hB8, hz8, hx8⟩ := hq8.1.end_ (hS 5 (by simp)) (hS 7 (by simp))
    simp only [Ri.acts, Act.put, List.setIfInBounds_toArray, List.set_cons_zero, List.set_cons_succ, Nat.zero_add, Nat.reduceAdd]
    obtain ⟨v8, hv8⟩ : ∃ v8, f9 5 = v8 := ⟨_, rfl⟩
    rw [hv8] at hz8 hx8
    have HZ8 := hide hz8
    have HX8 := hide hx8
    have HB8 := hide hB8
    have HQ8 := hide hq28
    clear hz8 hx8 hB8 hq28 hq8 hf hS
    go_wp2_with fail
    go_roundw
    case rel =>
     obtain ⟨cs', hz8⟩ := HZ8.out
     exact ⟨j + 1, v8, cs', by omega, by go_num, hz8, HX8.out, HB8.out, HQ8.out⟩
    case measure => simp [intOf] <;> omega
  ·have hd1 : decide ((j : Int) < (len : Int)) = false := by simp <;> omega
   have hd0 : decide (j < len) = false := by simp <;> omega
   have hjm : j = len := by omega
   have HJM := hide hjm
   obtain ⟨A9, c9, rfl, r1, r2, r3⟩ := hzp.end_ (m := j) (by have := HZL.out; omega) (by omega)
   have HR1 := hide r1
   have HR2 := hide r2
   have HR3 := hide r3
   have u0 : wr.cell? ⟨W.heap.size + 2, 0, none⟩ = some (.int .i64 0) := cell_blkJ hbx rfl
   have u1 : wr.cell? ⟨W.heap.size + 2, 1, none⟩ = some (.bool false) := cell_blkJ hbx rfl
   have u2 : wr.cell? ⟨W.heap.size + 2, 2, none⟩ = some (.bool false) := cell_blkJ hbx rfl
   have u3 : wr.cell? ⟨W.heap.size + 2, 3, none⟩ = some (.slice A9 j c9) := cell_blkJ hbx rfl
   clear hzp hbx r1 r2 r3 hq hjm
   have kb1 := KB.out wr HQ.out
   have v0 : wr.cell? ⟨W.heap.size + 1, 0, none⟩ = some (.int .i64 0) := cell_blkJ kb1 rfl
   have vf0 : wr.frozen? ⟨W.heap.size + 1, 0, none⟩ = false := frz_new (j := 0) kb1
   have v1 : wr.cell? ⟨W.heap.size + 1, 1, none⟩ = some (.bool false) := cell_blkJ kb1 rfl
   have vf1 : wr.frozen? ⟨W.heap.size + 1, 1, none⟩ = false := frz_new (j := 1) kb1
   have v2 : wr.cell? ⟨W.heap.size + 1, 2, none⟩ = some (.bool false) := cell_blkJ kb1 rfl
   have vf2 : wr.frozen? ⟨W.heap.size + 1, 2, none⟩ = false := frz_new (j := 2) kb1
   have v3 : wr.cell? ⟨W.heap.size + 1, 3, none⟩ = some (.slice none 0 0) := cell_blkJ kb1 rfl
   have vf3 : wr.frozen? ⟨W.heap.size + 1, 3, none⟩ = false := frz_new (j := 3) kb1
   clear kb1
   have HS5 := hide (set4c (w := wr) (.int .i64 0) (.bool false) (.bool false) (.slice A9 j c9) v0 v1 v2 v3 _ rfl)
   go_wp2_with fail
   obtain ⟨s0, s1, s2, s3⟩ := HS5.out
   refine bodyPost_ret (v := .agg #[.int .i64 0, .bool false, .bool false, .slice A9 j c9]) (by simp [results, Try.results52, go_sem, s0, s1, s2, s3]) rfl ?_
   exact zr_end (HQ2.out.trans HQ.out) (by omega) (show W.heap.size + 1 < W.heap.size + 3 by omega) HR1.out HR2.out (HR3.out.trans RES.out.symm)
theorem zeroR_no {w : World} {k n : Int} {f : Bool} {A : Option Addr} {len cap : Nat} {ps : List Lay} (hl : LayR w (.mk k n f A len cap ps)) (hv : VL (.mk k n f A len cap ps)) (ih : ∀ p ∈ ps, ∀ W, Q w W → Calls Try.prog 52 #[p.v] W (fun e w' => ZrP W p.zero e w')) (hk : ¬ (k = 4 ∨ k = 5 ∨ k = 6 ∨ k = 8 ∨ k = 9)) : ∀ W, Q w W → Calls Try.prog 52 #[.agg #[.int .i64 k, .int .i64 n, .bool f, .slice A len cap]] W (fun e w' => ZrP W (zeroC k n (ps.map Lay.zero)) e w') := by
 intro W hqW
 have HSL : Hid (Sl 4 encL w A len cap ps) := by cases hl with | @mk _ _ _ _ _ _ _ hk hn hsl hnil hcap hall => exact hide hsl
 have hpl := HSL.out.len
 have hl12 : len ≤ 12 := by have := hv.len.1; omega
 have HIH := hide ih
 have HV := hide hv
 obtain ⟨w2, hw2⟩ : ∃ w2, (W.alloc (.cells #[.int .i64 k, .int .i64 n, .bool f, .slice A len cap] 24)).alloc (.cells #[.int .i64 0, .bool false, .bool false, .slice none 0 0] 31) = w2 := ⟨_, rfl⟩
 obtain ⟨hq2, hs2, hc2, hd2⟩ := box2 hw2
 have hb0 : W.heap.size < w2.heap.size := by omega
 have hb1 : W.heap.size + 1 < w2.heap.size := by omega
 have kb1 : w2.heap[W.heap.size + 1]? = some (.cells #[.int .i64 0, .bool false, .bool false, .slice none 0 0] 31 (0, 0)) := by
  have h9 := heap_alloc_new (W.alloc (.cells #[.int .i64 k, .int .i64 n, .bool f, .slice A len cap] 24)) (.cells #[.int .i64 0, .bool false, .bool false, .slice none 0 0] 31)
  rw [hw2] at h9
  simpa using h9
 have KA := hide fun X (hX : Q w2 X) => (cs4 hX hb0 hc2 : Cs4 X W.heap.size (.int .i64 k) (.int .i64 n) (.bool f) (.slice A len cap))
 have KB : Hid (∀ X, Q w2 X → X.heap[W.heap.size + 1]? = some (.cells #[.int .i64 0, .bool false, .bool false, .slice none 0 0] 31 (0, 0))) := hide fun X hX => blk_q kb1 hX
 have HW2 := hide hw2
 have HQ2 := hide hq2
 have HWQ := hide (hqW.trans hq2)
 clear hl hv ih hqW hw2 hc2 hd2 hq2 kb1
 have hlen0 : len = 0 := by
  have h8 := HV.out.kind.2.2.1
  unfold numL at h8
  rw [if_neg (by omega), if_neg (by omega), if_neg (by omega), decide_eq_true_eq] at h8
  omega
 have RES := hide (zeroC_no hk n (ps.map Lay.zero))
 have d4 : (k == 4) = false := by simp; omega
 have d5 : (k == 5) = false := by simp; omega
 have d8 : (k == 8) = false := by simp; omega
 subst hlen0
 clear hk hpl
 have HZL : Hid (([] : List Cel).length = 0) := hide rfl
 obtain ⟨w3, hw3⟩ : ∃ w3, w2.alloc (.cells #[.int .i64 0, .bool false, .bool false, .slice none 0 0] 31) = w3 := ⟨_, rfl⟩
 have hq3 : Q w2 w3 := by rw [← hw3]; exact (Q.refl _).alloc _
 have hs3 : w3.heap.size = W.heap.size + 3 := by rw [← hw3]; simp; omega
 have hx3 : w3.heap[W.heap.size + 2]? = some (.cells #[.int .i64 0, .bool false, .bool false, .slice none 0 0] 31 (0, 0)) := by rw [← hw3, ← hs2]; exact heap_alloc_new w2 _
 have HW3 := hide hw3
 have Q23 := hide hq3
 have HX3 := hide hx3
 clear hw3 hq3 hx3
 obtain ⟨k0, k1, k2, k3⟩ := KA.out w2 (Q.refl _)
 go_enter Try.func52, Try.ntmps52
 go_upto_region 1 with fail
 rw [HW2.out]
 clear k0 k1 k2 k3
 go_upto_region 2 with fail
 rw [HW3.out]
 obtain ⟨k0, k1, k2, k3⟩ := KA.out w3 Q23.out
 go_wp2_with fail
 clear k0 k1 k2 k3
 go_loopw [5] (fun vi wr => ∃ (j : Nat) (u : Value) (cs : List Cel), j ≤ 0 ∧ vi = .int .i64 j ∧ Zpd (W.heap.size + 3) [] j u cs wr ∧ wr.heap[W.heap.size + 2]? = some (.cells #[.int .i64 0, .bool false, .bool false, u] 31 (0, 0)) ∧ W.heap.size + 3 ≤ wr.heap.size ∧ Q w2 wr) (fun vi _ => 0 - (intOf vi).toNat)
 case atStart => exact ⟨0, .slice none 0 0, [], by omega, by go_num, Zpd.start _ [] _, HX3.out, by omega, Q23.out⟩
 case round =>
  obtain ⟨j, u, cs, hj, rfl, hzp, hbx, hbs, hq⟩ := hrel
  have HQ := hide hq
  have HZP := hide hzp
  have HBX := hide hbx
  have HBS := hide hbs
  by_cases hlt9 : j < 0
  ·exact absurd hlt9 (by omega)
  ·have hd1 : decide ((j : Int) < (0 : Int)) = false := by simp <;> omega
   have hd0 : decide (j < 0) = false := by simp <;> omega
   have hjm : j = 0 := by omega
   have HJM := hide hjm
   obtain ⟨A9, c9, rfl, r1, r2, r3⟩ := hzp.end_ (m := j) (by have := HZL.out; omega) (by omega)
   have HR1 := hide r1
   have HR2 := hide r2
   have HR3 := hide r3
   have u0 : wr.cell? ⟨W.heap.size + 2, 0, none⟩ = some (.int .i64 0) := cell_blkJ hbx rfl
   have u1 : wr.cell? ⟨W.heap.size + 2, 1, none⟩ = some (.bool false) := cell_blkJ hbx rfl
   have u2 : wr.cell? ⟨W.heap.size + 2, 2, none⟩ = some (.bool false) := cell_blkJ hbx rfl
   have u3 : wr.cell? ⟨W.heap.size + 2, 3, none⟩ = some (.slice A9 j c9) := cell_blkJ hbx rfl
   clear hzp hbx r1 r2 r3 hq hjm
   have kb1 := KB.out wr HQ.out
   have v0 : wr.cell? ⟨W.heap.size + 1, 0, none⟩ = some (.int .i64 0) := cell_blkJ kb1 rfl
   have vf0 : wr.frozen? ⟨W.heap.size + 1, 0, none⟩ = false := frz_new (j := 0) kb1
   have v1 : wr.cell? ⟨W.heap.size + 1, 1, none⟩ = some (.bool false) := cell_blkJ kb1 rfl
   have vf1 : wr.frozen? ⟨W.heap.size + 1, 1, none⟩ = false := frz_new (j := 1) kb1
   have v2 : wr.cell? ⟨W.heap.size + 1, 2, none⟩ = some (.bool false) := cell_blkJ kb1 rfl
   have vf2 : wr.frozen? ⟨W.heap.size + 1, 2, none⟩ = false := frz_new (j := 2) kb1
   have v3 : wr.cell? ⟨W.heap.size + 1, 3, none⟩ = some (.slice none 0 0) := cell_blkJ kb1 rfl
   have vf3 : wr.frozen? ⟨W.heap.size + 1, 3, none⟩ = false := frz_new (j := 3) kb1
   clear kb1
   have HS5 := hide (set4c (w := wr) (.int .i64 0) (.bool false) (.bool false) (.slice A9 j c9) v0 v1 v2 v3 _ rfl)
   go_wp2_with fail
   obtain ⟨s0, s1, s2, s3⟩ := HS5.out
   refine bodyPost_ret (v := .agg #[.int .i64 0, .bool false, .bool false, .slice A9 j c9]) (by simp [results, Try.results52, go_sem, s0, s1, s2, s3]) rfl ?_
   exact zr_end (HQ2.out.trans HQ.out) (by omega) (show W.heap.size + 1 < W.heap.size + 3 by omega) HR1.out HR2.out (HR3.out.trans RES.out.symm)
theorem rzero_any {w : World} {l : Lay} (h : LayR w l) : VL l → ∀ W, Q w W → Calls Try.prog 52 #[l.v] W (fun e w' => ZrP W l.zero e w') := by
 induction h with
 | @mk k n f A len cap ps a1 a2 a3 a4 a5 a6 ih =>
  intro hv W hW
  have hl : LayR w (.mk k n f A len cap ps) := .mk a1 a2 a3 a4 a5 a6
  have hih : ∀ p ∈ ps, ∀ W, Q w W → Calls Try.prog 52 #[p.v] W (fun e w' => ZrP W p.zero e w') := fun p hp => ih p hp (hv.part (l := .mk k n f A len cap ps) hp)
  rw [zero_mk]
  show Calls _ _ #[.agg #[.int .i64 k, .int .i64 n, .bool f, .slice A len cap]] W _
  by_cases h4 : k = 4
  ·exact zeroR_4 hl hv hih h4 W hW
  by_cases h5 : k = 5
  ·exact zeroR_5 hl hv hih h5 W hW
  by_cases h6 : k = 6
  ·exact zeroR_6 hl hv hih h6 W hW
  by_cases h8 : k = 8
  ·exact zeroR_8 hl hv hih h8 W hW
  by_cases h9 : k = 9
  ·exact zeroR_9 hl hv hih h9 W hW
  exact zeroR_no hl hv hih (by omega) W hW
def zrL (wd : Int) (l : Lay) : Cel := if eL wd l = 0 then l.zero else celNo
theorem rZero_any {w : World} {l : Lay} (h : LayR w l) (hc : l.count ≤ 1048576) (wd : Int) (b : Bool) : ∀ W, Q w W → Calls Try.prog 26 #[l.v, tgW wd b] W (fun e w' => ∃ c, e = .returned (.tuple #[Cel.v c, .int .i64 (eL wd l)]) ∧ c.ske = zrL wd l ∧ CelR w' c ∧ Q W w') := by
 intro W hqW
 obtain ⟨k, n, f, A, len, cap, hlv⟩ : ∃ k n f A len cap, l.v = .agg #[.int .i64 k, .int .i64 n, .bool f, .slice A len cap] := by cases l; exact ⟨_, _, _, _, _, _, rfl⟩
 have HLV := hide hlv
 rw [hlv]
 clear hlv
 obtain ⟨w2, hw2⟩ : ∃ w2, ((W.alloc (.cells #[.int .i64 k, .int .i64 n, .bool f, .slice A len cap] 24)).alloc (.cells #[.int .i64 wd, .bool b] 26)).alloc (.cells #[.int .i64 0, .bool false, .bool false, .slice none 0 0] 31) = w2 := ⟨_, rfl⟩
 obtain ⟨hq2, hs2, hc2, hd2, he2⟩ := box3 hw2
 have hb0 : W.heap.size < w2.heap.size := by omega
 have hb1 : W.heap.size + 1 < w2.heap.size := by omega
 have hb2 : W.heap.size + 2 < w2.heap.size := by omega
 have KA := hide fun X (hX : Q w2 X) => (cs42 hX hb0 hc2 hb1 hd2 : Cs42 X W.heap.size (.int .i64 k) (.int .i64 n) (.bool f) (.slice A len cap) (W.heap.size + 1) (.int .i64 wd) (.bool b))
 have Z0 := hide (he2 0 _ rfl)
 have Z1 := hide (he2 1 _ rfl)
 have Z2 := hide (he2 2 _ rfl)
 have Z3 := hide (he2 3 _ rfl)
 have kb : w2.heap[W.heap.size + 2]? = some (.cells #[.int .i64 0, .bool false, .bool false, .slice none 0 0] 31 (0, 0)) := by
  have h9 := heap_alloc_new ((W.alloc (.cells #[.int .i64 k, .int .i64 n, .bool f, .slice A len cap] 24)).alloc (.cells #[.int .i64 wd, .bool b] 26)) (.cells #[.int .i64 0, .bool false, .bool false, .slice none 0 0] 31)
  rw [hw2] at h9
  simpa using h9
 have Y0 := hide (frz_new (j := 0) kb)
 have Y1 := hide (frz_new (j := 1) kb)
 have Y2 := hide (frz_new (j := 2) kb)
 have Y3 := hide (frz_new (j := 3) kb)
 have KB := hide kb
 clear kb
 have HW2 := hide hw2
 have HWQ := hide (hqW.trans hq2)
 have HQ2 := hide hq2
 have H := hide h
 clear h hw2 hq2 hqW hc2 hd2 he2
 have HSZ := hide (sized06_any H.out hc wd b)
 obtain ⟨ee, hee⟩ : ∃ ee, eL wd l = ee := ⟨_, rfl⟩
 rw [HLV.out, hee] at HSZ
 unfold R1 at HSZ
 have HEE := hide hee
 clear hee
 have Q22 := hide (Q.refl w2)
 obtain ⟨k0, k1, k2, k3, t0, t1⟩ := KA.out w2 Q22.out
 go_enter Try.func26, Try.ntmps26
 go_upto_region 1 with fail
 rw [HW2.out]
 go_wp2_with fail
 refine (HSZ.out w2 HWQ.out).mono ?_
 rintro e w3 ⟨rfl, hq3⟩
 have Q23 := hide hq3
 clear hq3 k0 k1 k2 k3 t0 t1
 obtain ⟨k0, k1, k2, k3, t0, t1⟩ := KA.out w3 Q23.out
 by_cases hz : ee = 0
 ·have dz : (ee != 0) = false := by simp [hz]
  have ho := eL_zero.1 (HEE.out.trans hz)
  have HE0 := hide (HEE.out.trans hz)
  have HF := hide (rzero_any H.out ho.vl)
  have RES : Hid (zrL wd l = l.zero) := hide (by unfold zrL; rw [if_pos (HEE.out.trans hz)])
  rw [HLV.out] at HF
  clear hz ho
  go_wp2_with fail
  refine (HF.out w3 (HWQ.out.trans Q23.out)).mono ?_
  rintro e w7 ⟨c0, rfl, hk7, hr7, hb7, hq7⟩
  obtain ⟨X0, X1, X2, A0, l0, d0, hv8, hx8⟩ := cel_enc c0
  rw [hv8]
  have HB7 := hide hb7
  have hs26 := Q23.out.size
  have HS26 := hide hs26
  have Q27 := hide (Q23.out.trans hq7)
  have HV8 := hide hv8
  have HK7 := hide hk7
  have HR7 := hide hr7
  clear hq7 hv8 hx8 hk7 hr7 hb7 hs26 k0 k1 k2 k3 t0 t1
  have z0 := (Q27.out.facts.1 _ 0 hb2).trans Z0.out
  have z1 := (Q27.out.facts.1 _ 1 hb2).trans Z1.out
  have z2 := (Q27.out.facts.1 _ 2 hb2).trans Z2.out
  have z3 := (Q27.out.facts.1 _ 3 hb2).trans Z3.out
  have y0 := (Q27.out.facts.2.1 _ 0 hb2).trans Y0.out
  have y1 := (Q27.out.facts.2.1 _ 1 hb2).trans Y1.out
  have y2 := (Q27.out.facts.2.1 _ 2 hb2).trans Y2.out
  have y3 := (Q27.out.facts.2.1 _ 3 hb2).trans Y3.out
  have HS5 := hide (set4c (.int .i64 X0) (.bool X1) (.bool X2) (.slice A0 l0 d0) z0 z1 z2 z3 _ rfl)
  have HQS := hide (q_set4 (b := W.heap.size + 2) (.int .i64 X0) (.bool X1) (.bool X2) (.slice A0 l0 d0) (HQ2.out.trans Q27.out) (by omega))
  go_wp2_with fail
  obtain ⟨s0, s1, s2, s3⟩ := HS5.out
  refine bodyPost_ret (v := .tuple #[.agg #[.int .i64 X0, .bool X1, .bool X2, .slice A0 l0 d0], .int .i64 0]) (by simp [results, Try.results26, go_sem, s0, s1, s2, s3]) rfl ?_
  refine ⟨c0, by rw [HV8.out, HE0.out], by rw [RES.out]; exact HK7.out, HR7.out.frame' (P := fun b => w3.heap.size ≤ b ∧ b < w7.heap.size) (fun i hi _ => ?_) (by simp) HB7.out, HQS.out⟩
  have hne : i ≠ W.heap.size + 2 := by have := hi.1; have := HS26.out; omega
  rw [heap_setCell_other _ _ _ _ (by simp; omega), heap_setCell_other _ _ _ _ (by simp; omega), heap_setCell_other _ _ _ _ (by simp; omega), heap_setCell_other _ _ _ _ (by simp; omega)]
 ·have dz : (ee != 0) = true := by simp [hz]
  have RES : Hid (zrL wd l = celNo) := hide (by unfold zrL; rw [if_neg (by rw [HEE.out]; exact hz)])
  clear hz
  have z0 := (Q23.out.facts.1 _ 0 hb2).trans Z0.out
  have z1 := (Q23.out.facts.1 _ 1 hb2).trans Z1.out
  have z2 := (Q23.out.facts.1 _ 2 hb2).trans Z2.out
  have z3 := (Q23.out.facts.1 _ 3 hb2).trans Z3.out
  have y0 := (Q23.out.facts.2.1 _ 0 hb2).trans Y0.out
  have y1 := (Q23.out.facts.2.1 _ 1 hb2).trans Y1.out
  have y2 := (Q23.out.facts.2.1 _ 2 hb2).trans Y2.out
  have y3 := (Q23.out.facts.2.1 _ 3 hb2).trans Y3.out
  have HS5 := hide (set4c (.int .i64 0) (.bool false) (.bool false) (.slice none 0 0) z0 z1 z2 z3 _ rfl)
  have HQS := hide (q_set4 (b := W.heap.size + 2) (.int .i64 0) (.bool false) (.bool false) (.slice none 0 0) (HQ2.out.trans Q23.out) (by omega))
  go_wp2_with fail
  obtain ⟨s0, s1, s2, s3⟩ := HS5.out
  refine bodyPost_ret (v := .tuple #[.agg #[.int .i64 0, .bool false, .bool false, .slice none 0 0], .int .i64 ee]) (by simp [results, Try.results26, go_sem, s0, s1, s2, s3]) rfl ?_
  exact ⟨celNo, by rw [HEE.out] <;> rfl, by rw [RES.out, skeC_mk] <;> rfl, celNo_R _, HQS.out⟩
theorem pZero_any {w : World} {l : Lay} (h : LayR w l) (hc : l.count ≤ 1048576) (wd : Int) (b : Bool) : ∀ W, Q w W → Calls Try.prog 25 #[l.v, tgW wd b] W (fun e w' => ∃ c, e = .returned (.tuple #[Cel.v c, .int .i64 (eL wd l)]) ∧ c.ske = zrL wd l ∧ CelR w' c ∧ Q W w') := by
 intro W hqW
 obtain ⟨k, n, f, A, len, cap, hlv⟩ : ∃ k n f A len cap, l.v = .agg #[.int .i64 k, .int .i64 n, .bool f, .slice A len cap] := by cases l; exact ⟨_, _, _, _, _, _, rfl⟩
 have HLV := hide hlv
 rw [hlv]
 clear hlv
 obtain ⟨w2, hw2⟩ : ∃ w2, ((W.alloc (.cells #[.int .i64 k, .int .i64 n, .bool f, .slice A len cap] 24)).alloc (.cells #[.int .i64 wd, .bool b] 26)).alloc (.cells #[.int .i64 0, .bool false, .bool false, .slice none 0 0] 31) = w2 := ⟨_, rfl⟩
 obtain ⟨hq2, hs2, hc2, hd2, he2⟩ := box3 hw2
 have hb0 : W.heap.size < w2.heap.size := by omega
 have hb1 : W.heap.size + 1 < w2.heap.size := by omega
 have hb2 : W.heap.size + 2 < w2.heap.size := by omega
 have KA := hide fun X (hX : Q w2 X) => (cs42 hX hb0 hc2 hb1 hd2 : Cs42 X W.heap.size (.int .i64 k) (.int .i64 n) (.bool f) (.slice A len cap) (W.heap.size + 1) (.int .i64 wd) (.bool b))
 have Z0 := hide (he2 0 _ rfl)
 have Z1 := hide (he2 1 _ rfl)
 have Z2 := hide (he2 2 _ rfl)
 have Z3 := hide (he2 3 _ rfl)
 have kb : w2.heap[W.heap.size + 2]? = some (.cells #[.int .i64 0, .bool false, .bool false, .slice none 0 0] 31 (0, 0)) := by
  have h9 := heap_alloc_new ((W.alloc (.cells #[.int .i64 k, .int .i64 n, .bool f, .slice A len cap] 24)).alloc (.cells #[.int .i64 wd, .bool b] 26)) (.cells #[.int .i64 0, .bool false, .bool false, .slice none 0 0] 31)
  rw [hw2] at h9
  simpa using h9
 have Y0 := hide (frz_new (j := 0) kb)
 have Y1 := hide (frz_new (j := 1) kb)
 have Y2 := hide (frz_new (j := 2) kb)
 have Y3 := hide (frz_new (j := 3) kb)
 have KB := hide kb
 clear kb
 have HW2 := hide hw2
 have HWQ := hide (hqW.trans hq2)
 have HQ2 := hide hq2
 have H := hide h
 clear h hw2 hq2 hqW hc2 hd2 he2
 have HSZ := hide (open_any H.out hc wd b)
 obtain ⟨ee, hee⟩ : ∃ ee, eL wd l = ee := ⟨_, rfl⟩
 obtain ⟨sv, hsv⟩ : ∃ sv, szL wd l = sv := ⟨_, rfl⟩
 obtain ⟨cw, hcw⟩ : ∃ cw, cdW wd l = cw := ⟨_, rfl⟩
 obtain ⟨cb, hcb⟩ : ∃ cb, cdB b l = cb := ⟨_, rfl⟩
 rw [HLV.out, hee, hsv, hcw, hcb] at HSZ
 unfold R1 at HSZ
 have HEE := hide hee
 clear hee hsv hcw hcb
 have Q22 := hide (Q.refl w2)
 obtain ⟨k0, k1, k2, k3, t0, t1⟩ := KA.out w2 Q22.out
 go_enter Try.func25, Try.ntmps25
 go_upto_region 1 with fail
 rw [HW2.out]
 go_wp2_with fail
 refine (HSZ.out w2 HWQ.out).mono ?_
 rintro e w3 ⟨rfl, hq3⟩
 have Q23 := hide hq3
 clear hq3 k0 k1 k2 k3 t0 t1
 obtain ⟨w4, hw4⟩ : ∃ w4, w3.alloc (.cells #[.int .i64 cw, .bool cb] 60) = w4 := ⟨_, rfl⟩
 obtain ⟨hq4, hs4, hc4⟩ := box1 hw4
 have HW4 := hide hw4
 have Q24 := hide (Q23.out.trans hq4)
 clear hw4 hc4 hq4
 obtain ⟨k0, k1, k2, k3, t0, t1⟩ := KA.out w4 Q24.out
 go_upto_region 2 with fail
 rw [HW4.out]
 by_cases hz : ee = 0
 ·have dz : (ee != 0) = false := by simp [hz]
  have ho := eL_zero.1 (HEE.out.trans hz)
  have HE0 := hide (HEE.out.trans hz)
  have HF := hide (zero_any H.out ho.vl)
  have RES : Hid (zrL wd l = l.zero) := hide (by unfold zrL; rw [if_pos (HEE.out.trans hz)])
  rw [HLV.out] at HF
  clear hz ho
  go_wp2_with fail
  refine (HF.out w4 (HWQ.out.trans Q24.out)).mono ?_
  rintro e w7 ⟨c0, rfl, hk7, hr7, hb7, hq7⟩
  obtain ⟨X0, X1, X2, A0, l0, d0, hv8, hx8⟩ := cel_enc c0
  rw [hv8]
  have HB7 := hide hb7
  have hs26 := Q24.out.size
  have HS26 := hide hs26
  have Q27 := hide (Q24.out.trans hq7)
  have HV8 := hide hv8
  have HK7 := hide hk7
  have HR7 := hide hr7
  clear hq7 hv8 hx8 hk7 hr7 hb7 hs26 k0 k1 k2 k3 t0 t1
  have z0 := (Q27.out.facts.1 _ 0 hb2).trans Z0.out
  have z1 := (Q27.out.facts.1 _ 1 hb2).trans Z1.out
  have z2 := (Q27.out.facts.1 _ 2 hb2).trans Z2.out
  have z3 := (Q27.out.facts.1 _ 3 hb2).trans Z3.out
  have y0 := (Q27.out.facts.2.1 _ 0 hb2).trans Y0.out
  have y1 := (Q27.out.facts.2.1 _ 1 hb2).trans Y1.out
  have y2 := (Q27.out.facts.2.1 _ 2 hb2).trans Y2.out
  have y3 := (Q27.out.facts.2.1 _ 3 hb2).trans Y3.out
  have HS5 := hide (set4c (.int .i64 X0) (.bool X1) (.bool X2) (.slice A0 l0 d0) z0 z1 z2 z3 _ rfl)
  have HQS := hide (q_set4 (b := W.heap.size + 2) (.int .i64 X0) (.bool X1) (.bool X2) (.slice A0 l0 d0) (HQ2.out.trans Q27.out) (by omega))
  go_wp2_with fail
  obtain ⟨s0, s1, s2, s3⟩ := HS5.out
  refine bodyPost_ret (v := .tuple #[.agg #[.int .i64 X0, .bool X1, .bool X2, .slice A0 l0 d0], .int .i64 0]) (by simp [results, Try.results25, go_sem, s0, s1, s2, s3]) rfl ?_
  refine ⟨c0, by rw [HV8.out, HE0.out], by rw [RES.out]; exact HK7.out, HR7.out.frame' (P := fun b => w4.heap.size ≤ b ∧ b < w7.heap.size) (fun i hi _ => ?_) (by simp) HB7.out, HQS.out⟩
  have hne : i ≠ W.heap.size + 2 := by have := hi.1; have := HS26.out; omega
  rw [heap_setCell_other _ _ _ _ (by simp; omega), heap_setCell_other _ _ _ _ (by simp; omega), heap_setCell_other _ _ _ _ (by simp; omega), heap_setCell_other _ _ _ _ (by simp; omega)]
 ·have dz : (ee != 0) = true := by simp [hz]
  have RES : Hid (zrL wd l = celNo) := hide (by unfold zrL; rw [if_neg (by rw [HEE.out]; exact hz)])
  clear hz
  have z0 := (Q24.out.facts.1 _ 0 hb2).trans Z0.out
  have z1 := (Q24.out.facts.1 _ 1 hb2).trans Z1.out
  have z2 := (Q24.out.facts.1 _ 2 hb2).trans Z2.out
  have z3 := (Q24.out.facts.1 _ 3 hb2).trans Z3.out
  have y0 := (Q24.out.facts.2.1 _ 0 hb2).trans Y0.out
  have y1 := (Q24.out.facts.2.1 _ 1 hb2).trans Y1.out
  have y2 := (Q24.out.facts.2.1 _ 2 hb2).trans Y2.out
  have y3 := (Q24.out.facts.2.1 _ 3 hb2).trans Y3.out
  have HS5 := hide (set4c (.int .i64 0) (.bool false) (.bool false) (.slice none 0 0) z0 z1 z2 z3 _ rfl)
  have HQS := hide (q_set4 (b := W.heap.size + 2) (.int .i64 0) (.bool false) (.bool false) (.slice none 0 0) (HQ2.out.trans Q24.out) (by omega))
  go_wp2_with fail
  obtain ⟨s0, s1, s2, s3⟩ := HS5.out
  refine bodyPost_ret (v := .tuple #[.agg #[.int .i64 0, .bool false, .bool false, .slice none 0 0], .int .i64 ee]) (by simp [results, Try.results25, go_sem, s0, s1, s2, s3]) rfl ?_
  exact ⟨celNo, by rw [HEE.out] <;> rfl, by rw [RES.out, skeC_mk] <;> rfl, celNo_R _, HQS.out⟩
theorem zr_def {w w2 : World} {l : Lay} (h : LayR w l) {wd : Int} {c : Cel} (hc : CelR w2 c) (hs : c.ske = zrL wd l) (he : eL wd l = 0) : vlC wd l c = 0 ∧ dfC wd l c = true := by
 have ho := eL_zero.1 he
 have hz : c.ske = l.zero := by rw [hs]; unfold zrL; rw [if_pos he]
 have h1 : c.isC wd l = true := by rw [← skeC_isC hc wd l, hz]; exact zero_isC h ho
 have h2 : c.isDef = true := by rw [← skeC_isDef hc, hz]; exact zero_isDef h ho.vl
 have h3 : vlC wd l c = 0 := by rw [vlC_ok he, if_pos h1]
 exact ⟨h3, by rw [dfC_ok h3, h2]⟩
theorem CellZeros_true {l : Lay} {wd : Int} {b : Bool} {cx : Cel} (w : World) (h : LayR w l) (hcnt : l.count ≤ 1048576) (hx : CelR w cx) (hwd : (Lit.int .i64 wd).wf = true) : Calls Try.prog 6 #[.agg (encL l ++ (encI .i64 wd ++ encB b)).toArray, cx.v] w fun e w' => e = .returned (.bool true) ∧ Q w w' := by
 obtain ⟨k, n, f, A, len, cap, hlv, hle⟩ := enc_v l
 obtain ⟨X0, X1, X2, A0, l0, d0, hxv, hxe⟩ := cel_enc cx
 rw [hle, hxv]
 show Calls _ _ #[.agg #[.int .i64 k, .int .i64 n, .bool f, .slice A len cap, .int .i64 wd, .bool b], .agg #[.int .i64 X0, .bool X1, .bool X2, .slice A0 l0 d0]] w _
 obtain ⟨w2, hw2⟩ : ∃ w2, (w.alloc (.cells #[.int .i64 k, .int .i64 n, .bool f, .slice A len cap, .int .i64 wd, .bool b] 28)).alloc (.cells #[.int .i64 X0, .bool X1, .bool X2, .slice A0 l0 d0] 31) = w2 := ⟨_, rfl⟩
 obtain ⟨hq2, hs2, hd, he2⟩ := box2 hw2
 have h0 : w.heap.size < w2.heap.size := by omega
 have h1 : w.heap.size + 1 < w2.heap.size := by omega
 have KA : Hid (∀ X, Q w2 X → X.cell? ⟨w.heap.size, 0, none⟩ = some (.int .i64 k) ∧ X.cell? ⟨w.heap.size, 1, none⟩ = some (.int .i64 n) ∧ X.cell? ⟨w.heap.size, 2, none⟩ = some (.bool f) ∧ X.cell? ⟨w.heap.size, 3, none⟩ = some (.slice A len cap) ∧ X.cell? ⟨w.heap.size, 4, none⟩ = some (.int .i64 wd) ∧ X.cell? ⟨w.heap.size, 5, none⟩ = some (.bool b)) := hide fun X hX => ⟨(hX.facts.1 _ 0 h0).trans (hd 0 _ rfl), (hX.facts.1 _ 1 h0).trans (hd 1 _ rfl), (hX.facts.1 _ 2 h0).trans (hd 2 _ rfl), (hX.facts.1 _ 3 h0).trans (hd 3 _ rfl), (hX.facts.1 _ 4 h0).trans (hd 4 _ rfl), (hX.facts.1 _ 5 h0).trans (hd 5 _ rfl)⟩
 have KX := hide fun X (hX : Q w2 X) => (cs4 hX h1 he2 : Cs4 X (w.heap.size + 1) (.int .i64 X0) (.bool X1) (.bool X2) (.slice A0 l0 d0))
 have HLG := hide (Long_any h hcnt hx none 0 0)
 have HKN := hide (fun W => known_any W)
 unfold R1 at HKN
 rw [hlv, hxv] at HLG
 have HDX := hide (IsDefined_any h hcnt hx wd b)
 have HRX := hide (rIsDefined_any h hcnt hx wd b)
 obtain ⟨dx, hdx⟩ : ∃ d, dfC wd l cx = d := ⟨_, rfl⟩
 obtain ⟨vx, hvx⟩ : ∃ d, vlC wd l cx = d := ⟨_, rfl⟩
 rw [hlv, hxv, hdx, hvx] at HDX HRX
 have HPZ := hide (pZero_any h hcnt wd b)
 have HRZ := hide (rZero_any h hcnt wd b)
 obtain ⟨ee, hee⟩ : ∃ ee, eL wd l = ee := ⟨_, rfl⟩
 rw [hlv, hee] at HPZ HRZ
 have HEE := hide hee
 have HLV := hide hlv
 have HW2 := hide hw2
 have HQ2 := hide hq2
 have H := hide h
 clear h hx hlv hle hw2 hq2 hd he2 hxv hxe hdx hvx hee hwd
 obtain ⟨k0, k1, k2, k3, t0, t1⟩ := KA.out w2 (Q.refl _)
 obtain ⟨x0, x1, x2, x3⟩ := KX.out w2 (Q.refl _)
 go_enter Try.func6, Try.ntmps6
 go_upto_region 1 with fail
 rw [HW2.out]
 go_wp2_with fail
 refine (HLG.out w2 HQ2.out).mono ?_
 rintro e w3 ⟨r, rfl, hr, hq3⟩
 have HQ3 := hide (HQ2.out.trans hq3)
 have Q23 := hide hq3
 clear k0 k1 k2 k3 t0 t1 x0 x1 x2 x3 hq3 hr
 cases r with
 | true =>
  go_wp2_with fail
  refine (HKN.out _).mono ?_
  rintro e w5 ⟨rfl, hq5⟩
  go_wp2_with fail
  go_ret
  exact ⟨rfl, HQ3.out.trans hq5⟩
 | false =>
  obtain ⟨k0, k1, k2, k3, t0, t1⟩ := KA.out w3 Q23.out
  go_wp2_with fail
  refine (HPZ.out w3 HQ3.out).mono ?_
  rintro e w4 ⟨c4, rfl, hk4, hr4, hq4⟩
  obtain ⟨Y0, Y1, Y2, A4, l4, d4, hv4, hx4⟩ := cel_enc c4
  rw [hv4]
  obtain ⟨w5, hw5⟩ : ∃ w5, w4.alloc (.cells #[.int .i64 Y0, .bool Y1, .bool Y2, .slice A4 l4 d4] 31) = w5 := ⟨_, rfl⟩
  obtain ⟨hq5, hs5, hd5⟩ := box1 hw5
  have hb4 : w4.heap.size < w5.heap.size := by omega
  have K5 := hide fun X (hX : Q w5 X) => (cs4 hX hb4 hd5 : Cs4 X w4.heap.size (.int .i64 Y0) (.bool Y1) (.bool Y2) (.slice A4 l4 d4))
  have HQ5 := hide (HQ3.out.trans (hq4.trans hq5))
  have Q25 := hide (Q23.out.trans (hq4.trans hq5))
  have HW5 := hide hw5
  have HR4 := hide (hr4.up hq5)
  have HK4 := hide hk4
  have HV4 := hide hv4
  clear k0 k1 k2 k3 t0 t1 hq4 hv4 hx4 hw5 hd5 hq5 hr4 hk4
  obtain ⟨k0, k1, k2, k3, t0, t1⟩ := KA.out w5 Q25.out
  go_upto_region 4 with fail
  rw [HW5.out]
  go_wp2_with fail
  refine (HRZ.out w5 HQ5.out).mono ?_
  rintro e w6 ⟨c6, rfl, hk6, hr6, hq6⟩
  obtain ⟨Z0, Z1, Z2, A6, l6, d6, hv6, hx6⟩ := cel_enc c6
  rw [hv6]
  obtain ⟨w7, hw7⟩ : ∃ w7, w6.alloc (.cells #[.int .i64 Z0, .bool Z1, .bool Z2, .slice A6 l6 d6] 31) = w7 := ⟨_, rfl⟩
  obtain ⟨hq7, hs7, hd7⟩ := box1 hw7
  have hb6 : w6.heap.size < w7.heap.size := by omega
  have K7 := hide fun X (hX : Q w7 X) => (cs4 hX hb6 hd7 : Cs4 X w6.heap.size (.int .i64 Z0) (.bool Z1) (.bool Z2) (.slice A6 l6 d6))
  have HQ7 := hide (HQ5.out.trans (hq6.trans hq7))
  have Q57 := hide (hq6.trans hq7)
  have Q27 := hide (Q25.out.trans (hq6.trans hq7))
  have HW7 := hide hw7
  have HR6 := hide (hr6.up hq7)
  have HV6 := hide hv6
  have HSK := hide (HK4.out.trans hk6.symm)
  clear k0 k1 k2 k3 t0 t1 hq6 hv6 hx6 hw7 hd7 hq7 hr6 hk6
  obtain ⟨k0, k1, k2, k3, t0, t1⟩ := KA.out w7 Q27.out
  obtain ⟨x0, x1, x2, x3⟩ := KX.out w7 Q27.out
  go_upto_region 5 with fail
  rw [HW7.out]
  have HD8 := hide (HDX.out w7 HQ7.out)
  unfold R1 at HD8
  go_wp2_with fail
  refine HD8.out.mono ?_
  rintro e w8 ⟨rfl, hq8⟩
  have Q28 := hide (Q27.out.trans hq8)
  have Q78 := hide hq8
  clear k0 k1 k2 k3 t0 t1 x0 x1 x2 x3 hq8
  obtain ⟨k0, k1, k2, k3, t0, t1⟩ := KA.out w8 Q28.out
  obtain ⟨x0, x1, x2, x3⟩ := KX.out w8 Q28.out
  have HD9 := hide (HRX.out w8 (HQ7.out.trans Q78.out))
  unfold R1 at HD9
  go_wp2_with fail
  refine HD9.out.mono ?_
  rintro e w9 ⟨rfl, hq9⟩
  have Q29 := hide (Q28.out.trans hq9)
  have Q79 := hide (Q78.out.trans hq9)
  clear k0 k1 k2 k3 t0 t1 x0 x1 x2 x3 hq9
  obtain ⟨y0, y1, y2, y3⟩ := K5.out w9 (Q57.out.trans Q79.out)
  obtain ⟨z0, z1, z2, z3⟩ := K7.out w9 Q79.out
  have hsame : sameC c4 c6 = true := skeC_same HR4.out c6 HSK.out
  have HSM := hide (rSame_any (HR4.out.up (Q57.out.trans Q79.out)) w9 (Q.refl _) c6 (HR6.out.up Q79.out))
  unfold SameP at HSM
  rw [HV4.out, HV6.out, hsame] at HSM
  have de : (ee != ee) = false := by simp
  have dv : (vx != vx) = false := by simp
  have dd : (dx != dx) = false := by simp
  clear hsame
  go_wp2_with fail
  refine HSM.out.mono ?_
  rintro e w10 ⟨rfl, hq10⟩
  have Q210 := hide (Q29.out.trans hq10)
  have Q710 := hide (Q79.out.trans hq10)
  clear y0 y1 y2 y3 z0 z1 z2 z3 hq10
  obtain ⟨k0, k1, k2, k3, t0, t1⟩ := KA.out w10 Q210.out
  obtain ⟨y0, y1, y2, y3⟩ := K5.out w10 (Q57.out.trans Q710.out)
  have HDA := hide (IsDefined_any (H.out.up (HQ7.out.trans Q710.out)) hcnt (HR4.out.up (Q57.out.trans Q710.out)) wd b w10 (Q.refl _))
  have HZD : Hid (ee = 0 → vlC wd l c4 = 0 ∧ dfC wd l c4 = true) := hide fun he => zr_def H.out HR4.out HK4.out (HEE.out.trans he)
  obtain ⟨da, hda⟩ : ∃ d, dfC wd l c4 = d := ⟨_, rfl⟩
  obtain ⟨va, hva⟩ : ∃ d, vlC wd l c4 = d := ⟨_, rfl⟩
  rw [hda, hva] at HZD
  rw [HLV.out, HV4.out, hda, hva] at HDA
  unfold R1 at HDA
  clear hda hva
  by_cases hz : ee = 0
  ·have dz : (ee != 0) = false := by simp [hz]
   obtain ⟨g1, g2⟩ := HZD.out hz
   subst g1 g2
   clear hz
   go_wp2_with fail
   refine HDA.out.mono ?_
   rintro e w11 ⟨rfl, hq11⟩
   have HQ11 := hide (HQ7.out.trans (Q710.out.trans hq11))
   clear k0 k1 k2 k3 t0 t1 y0 y1 y2 y3 hq11
   go_wp2_with fail
   refine (HKN.out _).mono ?_
   rintro e w12 ⟨rfl, hq12⟩
   go_wp2_with fail
   go_ret
   exact ⟨rfl, HQ11.out.trans hq12⟩
  ·have dz : (ee != 0) = true := by simp [hz]
   clear hz
   go_wp2_with fail
   refine HDA.out.mono ?_
   rintro e w11 ⟨rfl, hq11⟩
   have HQ11 := hide (HQ7.out.trans (Q710.out.trans hq11))
   clear k0 k1 k2 k3 t0 t1 y0 y1 y2 y3 hq11
   go_wp2_with fail
   refine (HKN.out _).mono ?_
   rintro e w12 ⟨rfl, hq12⟩
   go_wp2_with fail
   go_ret
   exact ⟨rfl, HQ11.out.trans hq12⟩
end Go.Proofs.Ytbgbalfhbficaaa
