/- isCell of the reference at lists of parts, and of any cell and layout. Validate and IsDefined of a cell, of both. isDefined and IsDefined of both. Conditions: as each theorem says. -/
import Derived.Test.YtbgbalfhbficaaaCz17
namespace Go.Proofs.Ytbgbalfhbficaaa
set_option maxRecDepth 100000
set_option maxHeartbeats 2000000
open Go.RowKit
set_option linter.unusedVariables false
set_option linter.unusedSimpArgs false
theorem pk_kind {n : Int} {f : Bool} {A : Option Addr} {len cap : Nat} {ps : List Lay} (hv : VL (.mk 9 n f A len cap ps)) {p : Lay} (hp : p ∈ ps) : p.k = 1 ∨ p.k = 2 := by
 have h := hv.kind.2.2.2
 unfold restL at h
 rw [if_neg (by decide), if_neg (by decide), if_pos rfl] at h
 rw [Bool.and_eq_true, List.all_eq_true] at h
 have := h.1 p hp
 simpa [pk12] using this
theorem rCell_p5t {w : World} {k n : Int} {f : Bool} {A : Option Addr} {len cap : Nat} {ps : List Lay} (hl : LayR w (.mk k n f A len cap ps)) (hv : VL (.mk k n f A len cap ps)) (hcnt : (Lay.mk k n f A len cap ps).count ≤ 1048576) (wd : Int) (hw : okW wd) (b : Bool) {x : Int} {nul und pk : Bool} (ho : pk = false → Okw wd (.mk k n f A len cap ps)) {A2 : Option Addr} {n2 c2 : Nat} {qs : List Cel} (hq2 : Sl 4 encC w A2 n2 c2 qs) (hn2 : n2 ≤ 140737488351232) (ih : ∀ q ∈ qs, ∀ p ∈ ps, ∀ pk : Bool, (pk = false → Okw wd p) → (pk = true → p.k = 1 ∨ p.k = 2) → ∀ W, Q w W → Calls Try.prog 84 #[p.v, tgW wd b, q.v, .bool pk] W (R1 W (.bool (q.isC wd p && !(pk && q.und))))) (hu : und = false) (hnl : nul = true) (hk0 : k = 5) (hpk : pk = true → k = 1 ∨ k = 2) : ∀ W, Q w W → Calls Try.prog 84 #[.agg #[.int .i64 k, .int .i64 n, .bool f, .slice A len cap], tgW wd b, .agg #[.int .i64 x, .bool nul, .bool und, .slice A2 n2 c2], .bool pk] W (R1 W (.bool (cellC wd (.mk k n f A len cap ps) x nul und (qs.map (Cel.isC wd)) (qs.map Cel.und) && !(pk && und)))) := by
 intro W hqW
 unfold R1
 have hk : (Lay.mk k n f A len cap ps).k = k := rfl
 have hql : ((qs.map (Cel.isC wd)).length : Int) = (n2 : Int) := by rw [List.length_map, hq2.len]
 subst hu hnl hk0
 have HSL : Hid (Sl 4 encL w A len cap ps) := by cases hl with | @mk _ _ _ _ _ _ _ hk hn hsl hnil hcap hall => exact hide hsl
 have hlb : (len : Int) ≤ 140737488351232 := by cases hl with | @mk _ _ _ _ _ _ _ hk hn hsl hnil hcap hall => omega
 have H := hide hl
 have HV := hide hv
 have HSQ := hide hq2
 have HIH := hide ih
 have HOK := hide ho
 have HQW := hide hqW
 obtain ⟨w2, hw2⟩ : ∃ w2, ((W.alloc (.cells #[.int .i64 5, .int .i64 n, .bool f, .slice A len cap] 24)).alloc (.cells #[.int .i64 wd, .bool b] 26)).alloc (.cells #[.int .i64 x, .bool true, .bool false, .slice A2 n2 c2] 31) = w2 := ⟨_, rfl⟩
 obtain ⟨hqq, hs2, hc, hd, hx⟩ := box3 hw2
 have hb0 : W.heap.size < w2.heap.size := by omega
 have hb1 : W.heap.size + 1 < w2.heap.size := by omega
 have hb2 : W.heap.size + 2 < w2.heap.size := by omega
 have KA := hide fun X (hX : Q w2 X) => (cs42 hX hb0 hc hb1 hd : Cs42 X W.heap.size (.int .i64 5) (.int .i64 n) (.bool f) (.slice A len cap) (W.heap.size + 1) (.int .i64 wd) (.bool b))
 have KX := hide fun X (hX : Q w2 X) => (cs4 hX hb2 hx : Cs4 X (W.heap.size + 2) (.int .i64 x) (.bool true) (.bool false) (.slice A2 n2 c2))
 have HW2 := hide hw2
 have HQ2 := hide hqq
 have HWQ := hide (hqW.trans hqq)
 have hpk0 : pk = false := by
  cases pk with
  | false => rfl
  | true => have := hpk rfl; omega
 subst hpk0
 obtain ⟨e1, he1⟩ : ∃ e, (x != 0) = e := ⟨_, rfl⟩
 obtain ⟨res, hres⟩ : ∃ r, (cellC wd (.mk 5 n f A len cap ps) x true false (qs.map (Cel.isC wd)) (qs.map Cel.und) && !(false && false)) = r := ⟨_, rfl⟩
 have hres2 : res = cellC wd (.mk 5 n f A len cap ps) x true false (qs.map (Cel.isC wd)) (qs.map Cel.und) := by rw [← hres]; simp
 rw [hres]
 clear hres
 have RES : Hid (res = false) := hide (by rw [hres2, cellC_nul rfl rfl, hk]; rfl)
 clear hres2
 clear hl hv hq2 ih ho hqW hw2 hd hc hx hqq hql hk
 obtain ⟨k0, k1, k2, k3, t0, t1⟩ := KA.out w2 (Q.refl _)
 obtain ⟨c0, c1, c2', c3⟩ := KX.out w2 (Q.refl _)
 go_enter Try.func84, Try.ntmps84
 go_upto_region 1 with fail
 rw [HW2.out]
 cases e1 with
 | false =>
  go_wp2_with fail
  go_ret
  exact ⟨by rw [RES.out] <;> rfl, HQ2.out⟩
 | true =>
  go_wp2_with fail
  go_ret
  exact ⟨by rw [RES.out] <;> rfl, HQ2.out⟩
theorem rCell_p5f {w : World} {k n : Int} {f : Bool} {A : Option Addr} {len cap : Nat} {ps : List Lay} (hl : LayR w (.mk k n f A len cap ps)) (hv : VL (.mk k n f A len cap ps)) (hcnt : (Lay.mk k n f A len cap ps).count ≤ 1048576) (wd : Int) (hw : okW wd) (b : Bool) {x : Int} {nul und pk : Bool} (ho : pk = false → Okw wd (.mk k n f A len cap ps)) {A2 : Option Addr} {n2 c2 : Nat} {qs : List Cel} (hq2 : Sl 4 encC w A2 n2 c2 qs) (hn2 : n2 ≤ 140737488351232) (ih : ∀ q ∈ qs, ∀ p ∈ ps, ∀ pk : Bool, (pk = false → Okw wd p) → (pk = true → p.k = 1 ∨ p.k = 2) → ∀ W, Q w W → Calls Try.prog 84 #[p.v, tgW wd b, q.v, .bool pk] W (R1 W (.bool (q.isC wd p && !(pk && q.und))))) (hu : und = false) (hnl : nul = false) (hk0 : k = 5) (hpk : pk = true → k = 1 ∨ k = 2) : ∀ W, Q w W → Calls Try.prog 84 #[.agg #[.int .i64 k, .int .i64 n, .bool f, .slice A len cap], tgW wd b, .agg #[.int .i64 x, .bool nul, .bool und, .slice A2 n2 c2], .bool pk] W (R1 W (.bool (cellC wd (.mk k n f A len cap ps) x nul und (qs.map (Cel.isC wd)) (qs.map Cel.und) && !(pk && und)))) := by
 intro W hqW
 unfold R1
 have hk : (Lay.mk k n f A len cap ps).k = k := rfl
 have hql : ((qs.map (Cel.isC wd)).length : Int) = (n2 : Int) := by rw [List.length_map, hq2.len]
 subst hu hnl hk0
 have HSL : Hid (Sl 4 encL w A len cap ps) := by cases hl with | @mk _ _ _ _ _ _ _ hk hn hsl hnil hcap hall => exact hide hsl
 have hlb : (len : Int) ≤ 140737488351232 := by cases hl with | @mk _ _ _ _ _ _ _ hk hn hsl hnil hcap hall => omega
 have H := hide hl
 have HV := hide hv
 have HSQ := hide hq2
 have HIH := hide ih
 have HOK := hide ho
 have HQW := hide hqW
 obtain ⟨w2, hw2⟩ : ∃ w2, ((W.alloc (.cells #[.int .i64 5, .int .i64 n, .bool f, .slice A len cap] 24)).alloc (.cells #[.int .i64 wd, .bool b] 26)).alloc (.cells #[.int .i64 x, .bool false, .bool false, .slice A2 n2 c2] 31) = w2 := ⟨_, rfl⟩
 obtain ⟨hqq, hs2, hc, hd, hx⟩ := box3 hw2
 have hb0 : W.heap.size < w2.heap.size := by omega
 have hb1 : W.heap.size + 1 < w2.heap.size := by omega
 have hb2 : W.heap.size + 2 < w2.heap.size := by omega
 have KA := hide fun X (hX : Q w2 X) => (cs42 hX hb0 hc hb1 hd : Cs42 X W.heap.size (.int .i64 5) (.int .i64 n) (.bool f) (.slice A len cap) (W.heap.size + 1) (.int .i64 wd) (.bool b))
 have KX := hide fun X (hX : Q w2 X) => (cs4 hX hb2 hx : Cs4 X (W.heap.size + 2) (.int .i64 x) (.bool false) (.bool false) (.slice A2 n2 c2))
 have HW2 := hide hw2
 have HQ2 := hide hqq
 have HWQ := hide (hqW.trans hqq)
 have hpk0 : pk = false := by
  cases pk with
  | false => rfl
  | true => have := hpk rfl; omega
 subst hpk0
 have ho9 := ho rfl
 have hpl := HSL.out.len
 obtain ⟨F, hF⟩ : ∃ F : Nat → Bool, F = fun j => (((qs.map (Cel.isC wd))[j]?).getD (fun _ => false)) (prtL (.mk 5 n f A len cap ps) j) && !(false && ((qs.map Cel.und)[j]?).getD false) := ⟨_, rfl⟩
 obtain ⟨e1, he1⟩ : ∃ e, (x == 0) = e := ⟨_, rfl⟩
 obtain ⟨e2, he2⟩ : ∃ e, ((n2 : Int) == n) = e := ⟨_, rfl⟩
 have hn1 : (x != 0) = !e1 := by rw [← he1]; rfl
 have hn3 : ((n2 : Int) != n) = !e2 := by rw [← he2]; rfl
 obtain ⟨res, hres⟩ : ∃ r, (cellC wd (.mk 5 n f A len cap ps) x false false (qs.map (Cel.isC wd)) (qs.map Cel.und) && !(false && false)) = r := ⟨_, rfl⟩
 have hres2 : res = cellC wd (.mk 5 n f A len cap ps) x false false (qs.map (Cel.isC wd)) (qs.map Cel.und) := by rw [← hres]; simp
 rw [hres]
 clear hres
 have RES0 : Hid (res = (e1 && (e2 && (List.range n2).all F))) := hide (by
  rw [hres2, cellC_p rfl rfl (by rw [hk]; decide), he1]
  congr 1
  unfold areC
  have e1 : cntL (.mk 5 n f A len cap ps) = n := by
   unfold cntL
   rw [if_pos (show (Lay.mk 5 n f A len cap ps).k = 5 from rfl)]; rfl
  rw [e1, hql, he2, hF]
  have e9 : (qs.map (Cel.isC wd)).length = n2 := by omega
  rw [e9]
  rfl)
 have HSTEP : Hid (∀ (j : Nat) (q : Cel) (p : Lay), qs[j]? = some q → prtL (.mk 5 n f A len cap ps) j = p → F j = (q.isC wd p && !(false && q.und))) := hide (fun j q p hq hp => by
  rw [hF]
  dsimp only
  rw [List.getElem?_map, List.getElem?_map, hq, hp]
  rfl)
 have HPL := hide hpl
 have hlen1 : len = 1 := by
  have h8 := hv.kind.2.2.1
  unfold numL at h8
  rw [if_pos (.inr rfl), decide_eq_true_eq] at h8
  exact HSL.out.len.symm.trans h8
 have HL1 := hide hlen1
 clear hlen1 hv
 have HO9 := hide ho9
 clear hres2 hF he1 hpl ho9
 clear hl hq2 ih ho hqW hw2 hd hc hx hqq hql hk
 obtain ⟨k0, k1, k2, k3, t0, t1⟩ := KA.out w2 (Q.refl _)
 obtain ⟨c0, c1, c2', c3⟩ := KX.out w2 (Q.refl _)
 go_enter Try.func84, Try.ntmps84
 go_upto_region 1 with fail
 rw [HW2.out]
 cases e1 with
 | false =>
  have RES : Hid (res = false) := hide (by rw [RES0.out]; rfl)
  go_wp2_with fail
  go_ret
  exact ⟨by rw [RES.out] <;> rfl, HQ2.out⟩
 | true =>
  cases e2 with
  | false =>
   have RES : Hid (res = false) := hide (by rw [RES0.out]; rfl)
   go_wp2_with fail
   go_ret
   exact ⟨by rw [RES.out] <;> rfl, HQ2.out⟩
  | true =>
   have hct : (n2 : Int) = n := by simpa using he2
   clear he2
   go_wp2_with fail
   clear k0 k1 k2 k3 t0 t1 c0 c1 c2' c3
   go_loopw [12] (fun vi wr => ∃ j : Nat, j ≤ n2 ∧ vi = .int .i64 j ∧ (List.range j).all F = true ∧ Q w2 wr) (fun vi _ => n2 - (intOf vi).toNat)
   case atStart => exact ⟨0, by omega, by go_num, by simp, Q.refl _⟩
   case round =>
    obtain ⟨j, hj, rfl, hall, hq⟩ := hrel
    have HQ := hide hq
    have HALL := hide hall
    by_cases hlt9 : j < n2
    ·have hlt8 : (j : Int) < n := by omega
     have hd1 : decide ((j : Int) < (n2 : Int)) = true := by simp; omega
     have hd0 : decide (j < n2) = true := by simp; omega
     have hlti : (j : Int) < (n2 : Int) := by omega
     obtain ⟨g2, o2, m2, x2, y2, B2, l2, d2, qq, e, hbq, hxq, v0, v1, v2, v3⟩ := cel_at (HSQ.out.up (HWQ.out.trans hq)) hlt9
     cases e
     obtain ⟨q, hqe⟩ : ∃ q, Cel.mk m2 x2 y2 B2 l2 d2 qq = q := ⟨_, rfl⟩
     have hqv : q.v = .agg #[.int .i64 m2, .bool x2, .bool y2, .slice B2 l2 d2] := by rw [← hqe]; rfl
     rw [hqe] at hxq
     obtain ⟨g, o, m', x', y', B, l', d', qs1, e, hbp, hxp, z0, z1, z2, z3⟩ := lay_at (HSL.out.up (HWQ.out.trans hq)) (show 0 < len by have := HL1.out; omega)
     cases e
     obtain ⟨p, hpe⟩ : ∃ p, Lay.mk m' x' y' B l' d' qs1 = p := ⟨_, rfl⟩
     have hpv : p.v = .agg #[.int .i64 m', .int .i64 x', .bool y', .slice B l' d'] := by rw [← hpe]; rfl
     rw [hpe] at hxp
     rw [Nat.zero_mul, Nat.add_zero] at z0 z1 z2 z3
     have hl0 : (0 : Int) < (len : Int) := by have := HL1.out; omega
     have hprt : prtL (.mk 5 n f (some ⟨g, o, none⟩) len cap ps) j = p := by
      unfold prtL
      show (ps[min j (ps.length - 1)]?).getD noL = p
      rw [HPL.out, show min j (len - 1) = 0 by have := HL1.out; omega, hxp]
      rfl
     have HFJ := hide (HSTEP.out j q p hxq hprt)
     have hpm := List.mem_of_getElem? hxp
     have HIP := hide (HIH.out q (List.mem_of_getElem? hxq) p hpm false (fun _ => HO9.out.part H.out hpm (fun h => (show (0 : Int) < n by omega)) (by intro h9; exact absurd h9 (by show ¬ (5 : Int) = 9; decide))) (fun h => nomatch h))
     obtain ⟨r, hr⟩ : ∃ r, (q.isC wd p && !(false && q.und)) = r := ⟨_, rfl⟩
     rw [hqv, hpv, hr] at HIP
     unfold R1 at HIP
     rw [hr] at HFJ
     have HLT := hide hlt9
     have KQ : Hid (∀ X, Q wr X → X.cell? ⟨g2, o2 + j * 4, none⟩ = some (.int .i64 m2) ∧ X.cell? ⟨g2, o2 + j * 4 + 1, none⟩ = some (.bool x2) ∧ X.cell? ⟨g2, o2 + j * 4 + 2, none⟩ = some (.bool y2) ∧ X.cell? ⟨g2, o2 + j * 4 + 3, none⟩ = some (.slice B2 l2 d2)) := hide fun X hX => ⟨(hX.facts.1 _ _ hbq).trans v0, (hX.facts.1 _ _ hbq).trans v1, (hX.facts.1 _ _ hbq).trans v2, (hX.facts.1 _ _ hbq).trans v3⟩
     obtain ⟨w4, hw4⟩ : ∃ w4, wr.alloc (.cells #[.int .i64 m', .int .i64 x', .bool y', .slice B l' d'] 24) = w4 := ⟨_, rfl⟩
     have hq4 : Q wr w4 := by rw [← hw4]; exact (Q.refl _).alloc _
     have hb4 : w4.heap[wr.heap.size]? = some (.cells #[.int .i64 m', .int .i64 x', .bool y', .slice B l' d'] 24 (0, 0)) := by rw [← hw4]; exact heap_alloc_new wr _
     have HW4 := hide hw4
     have HB4 := hide hb4
     have Q44 := hide hq4
     have Q24 := hide (hq.trans hq4)
     have k3 := (KA.out wr hq).2.2.2.1
     clear hq hall hxq hqe hqv hxp hpe hpv hprt hpm hr hw4 hb4 hq4 v0 v1 v2 v3 hbp hbq
     go_upto_region 27 with fail
     rw [HW4.out]
     clear k3 z0 z1 z2 z3
     have k0 := (KA.out w4 Q24.out).1
     go_upto_region 29 with fail
     clear k0
     refine Ri.made (Ri.phi [Ri.isV (.agg #[.int .i64 m', .int .i64 x', .bool y', .slice B l' d']), Ri.isV (tgW wd b), Ri.isV (.pointer (some ⟨W.heap.size + 2, 3, none⟩)), Ri.isV (.slice (some ⟨g2, o2, none⟩) n2 c2), Ri.isV (.int .i64 ((j : Nat) : Int)), Ri.isV (.pointer (some ⟨g2, o2 + j * 4, none⟩)), Ri.isV (.agg #[.int .i64 m2, .bool x2, .bool y2, .slice B2 l2 d2]), Ri.isV (.pointer (some ⟨W.heap.size, 0, none⟩)), Ri.isV (.int .i64 5), Ri.isV (.bool false), Ri.isV (.bool r), Ri.isV (.bool (!r))]) (by kernel_rfl) (by kernel_rfl) (Ri.phi_mono ?_) ?_ ?_
     ·repeat' first | exact trivial | exact fun _ _ _ h _ => h | refine ⟨?_, ?_⟩
     ·refine Ri.All.cons ?_ (.cons ?_ (.cons ?_ (.cons ?_ (.cons ?_ (.cons ?_ (.cons ?_ (.cons ?_ (.cons ?_ (.cons ?_ (.cons ?_ (.cons ?_ (Ri.All.nil))))))))))))
      ·refine ⟨rfl, fun f0 W9 hq hf Ac hA hB hO => ?_⟩
       have e1 := (hB 13).trans (show _ = .pointer (some ⟨wr.heap.size, 0, none⟩) by simp [Act.eval])
       exact Ri.wp_value _ (Ri.run_ldrow rfl e1 (blk_q HB4.out ((Q.refl w4).drew.trans hq)) Try.underlying24 rfl (by kernel_rfl)) rfl
      ·refine ⟨rfl, fun f0 W9 hq hf Ac hA hB hO => ?_⟩
       have e1 := (hB 5).trans (show _ = .pointer (some ⟨W.heap.size + 1, 0, none⟩) by simp [Act.eval])
       obtain ⟨-, -, -, -, u0, u1⟩ := KA.out W9 (Q24.out.trans ((Q.refl w4).drew.trans hq))
       exact Ri.wp_value _ (Ri.run_ldagg (cs := [.int .i64 wd, .bool b]) rfl e1 (c2L u0 u1) Try.underlying26 rfl (by kernel_rfl)) rfl
      ·refine ⟨rfl, fun f0 W9 hq hf Ac hA hB hO => ?_⟩
       have e1 := (hB 6).trans (show _ = .pointer (some ⟨W.heap.size + 2, 0, none⟩) by simp [Act.eval])
       exact Ri.wp_value _ (Ri.run_fld (f := _) rfl e1 Try.underlying31 rfl (sz := 0) (by kernel_rfl)) rfl
      ·refine ⟨rfl, fun f0 W9 hq hf Ac hA hB hO => ?_⟩
       have e1 := (hA 202 2).trans (hf 2)
       exact Ri.wp_value _ (Ri.run_ld1 rfl e1 Try.underlying29 rfl ((KX.out W9 (Q24.out.trans ((Q.refl w4).drew.trans hq))).2.2.2)) rfl
      ·refine ⟨rfl, fun f0 W9 hq hf Ac hA hB hO => ?_⟩
       have e1 := (hB 12).trans (show _ = .int .i64 (j : Nat) by simp [Act.eval])
       exact Ri.wp_value _ (Ri.run_mv rfl e1) rfl
      ·refine ⟨rfl, fun f0 W9 hq hf Ac hA hB hO => ?_⟩
       have e1 := (hA 203 3).trans (hf 3)
       have e2 := (hA 204 4).trans (hf 4)
       exact Ri.wp_value _ (Ri.run_idx rfl e1 e2 Try.underlying29 (sz := 4) (by kernel_rfl) HLT.out) rfl
      ·refine ⟨rfl, fun f0 W9 hq hf Ac hA hB hO => ?_⟩
       have e1 := (hA 205 5).trans (hf 5)
       obtain ⟨b0, b1, b2, b3⟩ := KQ.out W9 (Q44.out.trans ((Q.refl w4).drew.trans hq))
       exact Ri.wp_value _ (Ri.run_ldagg rfl e1 (c4G b0 b1 b2 b3) Try.underlying31 rfl (by kernel_rfl)) rfl
      ·refine ⟨rfl, fun f0 W9 hq hf Ac hA hB hO => ?_⟩
       have e1 := (hB 4).trans (show _ = .pointer (some ⟨W.heap.size, 0, none⟩) by simp [Act.eval])
       exact Ri.wp_value _ (Ri.run_fld (f := _) rfl e1 Try.underlying24 rfl (sz := 0) (by kernel_rfl)) rfl
      ·refine ⟨rfl, fun f0 W9 hq hf Ac hA hB hO => ?_⟩
       have e1 := (hA 207 7).trans (hf 7)
       exact Ri.wp_value _ (Ri.run_ld1 rfl e1 Try.underlying3 rfl ((KA.out W9 (Q24.out.trans ((Q.refl w4).drew.trans hq))).1)) rfl
      ·refine ⟨rfl, fun f0 W9 hq hf Ac hA hB hO => ?_⟩
       have e1 := (hA 208 8).trans (hf 8)
       have e2 : Ac.eval (.const (.int .i64 9)) = .int .i64 9 := rfl
       exact Ri.wp_value _ ((Ri.run_eqlC rfl e1 e2 Try.underlying3).trans (by rfl)) rfl
      ·refine ⟨rfl, fun f0 W9 hq hf Ac hA hB hO => ?_⟩
       have e1 := (hA 200 0).trans (hf 0)
       have e2 := (hA 201 1).trans (hf 1)
       have e3 := (hA 206 6).trans (hf 6)
       have e4 := (hA 209 9).trans (hf 9)
       refine Ri.wp_call #[.agg #[.int .i64 m', .int .i64 x', .bool y', .slice B l' d'], tgW wd b, .agg #[.int .i64 m2, .bool x2, .bool y2, .slice B2 l2 d2], .bool false] rfl (by simp [e1, e2, e3, e4]) Try.func84 (by kernel_rfl) (by kernel_rfl) ((HIP.out W9 (HWQ.out.trans (Q24.out.trans ((Q.refl w4).drew.trans hq)))).mono ?_)
       rintro e w9 ⟨rfl, h1⟩
       exact ⟨_, rfl, h1, rfl⟩
      ·refine ⟨rfl, fun f0 W9 hq hf Ac hA hB hO => ?_⟩
       have e1 := (hA 210 10).trans (hf 10)
       exact Ri.wp_value _ (Ri.run_not rfl e1) rfl
     ·intro f0 w8 hq8 hf
      have hl9 := hf 11 (by simp)
      simp only [Ri.phi, List.getD_cons_zero, List.getD_cons_succ, Ri.isV] at hl9
      simp only [Ri.acts, Act.put, List.setIfInBounds_toArray, List.set_cons_zero, List.set_cons_succ, Nat.zero_add, Nat.reduceAdd]
      rw [hl9]
      have HQ8 := hide (Q24.out.trans hq8)
      clear hf hl9 hq8
      cases r with
      | false =>
       have RES : Hid (res = false) := hide (by rw [RES0.out, all_range_no HLT.out HFJ.out]; rfl)
       go_wp2_with fail
       go_ret
       exact ⟨by rw [RES.out] <;> rfl, HQ2.out.trans HQ8.out⟩
      | true =>
       have HNX := hide (show (List.range (j + 1)).all F = true by rw [all_range_succ, HALL.out, HFJ.out]; rfl)
       go_wp2_with fail
       go_roundw
       case rel => exact ⟨j + 1, by omega, by go_num, HNX.out, HQ8.out⟩
       case measure => simp [intOf] <;> omega
    ·have hd1 : decide ((j : Int) < (n2 : Int)) = false := by simp; omega
     have hd0 : decide (j < n2) = false := by simp; omega
     obtain rfl : j = n2 := by omega
     have RES : Hid (res = true) := hide (by rw [RES0.out, HALL.out]; rfl)
     clear hq hall
     go_wp2_with fail
     go_ret
     exact ⟨by rw [RES.out] <;> rfl, HQ2.out.trans HQ.out⟩
theorem rCell_p6t {w : World} {k n : Int} {f : Bool} {A : Option Addr} {len cap : Nat} {ps : List Lay} (hl : LayR w (.mk k n f A len cap ps)) (hv : VL (.mk k n f A len cap ps)) (hcnt : (Lay.mk k n f A len cap ps).count ≤ 1048576) (wd : Int) (hw : okW wd) (b : Bool) {x : Int} {nul und pk : Bool} (ho : pk = false → Okw wd (.mk k n f A len cap ps)) {A2 : Option Addr} {n2 c2 : Nat} {qs : List Cel} (hq2 : Sl 4 encC w A2 n2 c2 qs) (hn2 : n2 ≤ 140737488351232) (ih : ∀ q ∈ qs, ∀ p ∈ ps, ∀ pk : Bool, (pk = false → Okw wd p) → (pk = true → p.k = 1 ∨ p.k = 2) → ∀ W, Q w W → Calls Try.prog 84 #[p.v, tgW wd b, q.v, .bool pk] W (R1 W (.bool (q.isC wd p && !(pk && q.und))))) (hu : und = false) (hnl : nul = true) (hk0 : k = 6) (hpk : pk = true → k = 1 ∨ k = 2) : ∀ W, Q w W → Calls Try.prog 84 #[.agg #[.int .i64 k, .int .i64 n, .bool f, .slice A len cap], tgW wd b, .agg #[.int .i64 x, .bool nul, .bool und, .slice A2 n2 c2], .bool pk] W (R1 W (.bool (cellC wd (.mk k n f A len cap ps) x nul und (qs.map (Cel.isC wd)) (qs.map Cel.und) && !(pk && und)))) := by
 intro W hqW
 unfold R1
 have hk : (Lay.mk k n f A len cap ps).k = k := rfl
 have hql : ((qs.map (Cel.isC wd)).length : Int) = (n2 : Int) := by rw [List.length_map, hq2.len]
 subst hu hnl hk0
 have HSL : Hid (Sl 4 encL w A len cap ps) := by cases hl with | @mk _ _ _ _ _ _ _ hk hn hsl hnil hcap hall => exact hide hsl
 have hlb : (len : Int) ≤ 140737488351232 := by cases hl with | @mk _ _ _ _ _ _ _ hk hn hsl hnil hcap hall => omega
 have H := hide hl
 have HV := hide hv
 have HSQ := hide hq2
 have HIH := hide ih
 have HOK := hide ho
 have HQW := hide hqW
 obtain ⟨w2, hw2⟩ : ∃ w2, ((W.alloc (.cells #[.int .i64 6, .int .i64 n, .bool f, .slice A len cap] 24)).alloc (.cells #[.int .i64 wd, .bool b] 26)).alloc (.cells #[.int .i64 x, .bool true, .bool false, .slice A2 n2 c2] 31) = w2 := ⟨_, rfl⟩
 obtain ⟨hqq, hs2, hc, hd, hx⟩ := box3 hw2
 have hb0 : W.heap.size < w2.heap.size := by omega
 have hb1 : W.heap.size + 1 < w2.heap.size := by omega
 have hb2 : W.heap.size + 2 < w2.heap.size := by omega
 have KA := hide fun X (hX : Q w2 X) => (cs42 hX hb0 hc hb1 hd : Cs42 X W.heap.size (.int .i64 6) (.int .i64 n) (.bool f) (.slice A len cap) (W.heap.size + 1) (.int .i64 wd) (.bool b))
 have KX := hide fun X (hX : Q w2 X) => (cs4 hX hb2 hx : Cs4 X (W.heap.size + 2) (.int .i64 x) (.bool true) (.bool false) (.slice A2 n2 c2))
 have HW2 := hide hw2
 have HQ2 := hide hqq
 have HWQ := hide (hqW.trans hqq)
 have hpk0 : pk = false := by
  cases pk with
  | false => rfl
  | true => have := hpk rfl; omega
 subst hpk0
 obtain ⟨e1, he1⟩ : ∃ e, (x != 0) = e := ⟨_, rfl⟩
 obtain ⟨res, hres⟩ : ∃ r, (cellC wd (.mk 6 n f A len cap ps) x true false (qs.map (Cel.isC wd)) (qs.map Cel.und) && !(false && false)) = r := ⟨_, rfl⟩
 have hres2 : res = cellC wd (.mk 6 n f A len cap ps) x true false (qs.map (Cel.isC wd)) (qs.map Cel.und) := by rw [← hres]; simp
 rw [hres]
 clear hres
 have RES : Hid (res = false) := hide (by rw [hres2, cellC_nul rfl rfl, hk]; rfl)
 clear hres2
 clear hl hv hq2 ih ho hqW hw2 hd hc hx hqq hql hk
 obtain ⟨k0, k1, k2, k3, t0, t1⟩ := KA.out w2 (Q.refl _)
 obtain ⟨c0, c1, c2', c3⟩ := KX.out w2 (Q.refl _)
 go_enter Try.func84, Try.ntmps84
 go_upto_region 1 with fail
 rw [HW2.out]
 cases e1 with
 | false =>
  go_wp2_with fail
  go_ret
  exact ⟨by rw [RES.out] <;> rfl, HQ2.out⟩
 | true =>
  go_wp2_with fail
  go_ret
  exact ⟨by rw [RES.out] <;> rfl, HQ2.out⟩
theorem rCell_p6f {w : World} {k n : Int} {f : Bool} {A : Option Addr} {len cap : Nat} {ps : List Lay} (hl : LayR w (.mk k n f A len cap ps)) (hv : VL (.mk k n f A len cap ps)) (hcnt : (Lay.mk k n f A len cap ps).count ≤ 1048576) (wd : Int) (hw : okW wd) (b : Bool) {x : Int} {nul und pk : Bool} (ho : pk = false → Okw wd (.mk k n f A len cap ps)) {A2 : Option Addr} {n2 c2 : Nat} {qs : List Cel} (hq2 : Sl 4 encC w A2 n2 c2 qs) (hn2 : n2 ≤ 140737488351232) (ih : ∀ q ∈ qs, ∀ p ∈ ps, ∀ pk : Bool, (pk = false → Okw wd p) → (pk = true → p.k = 1 ∨ p.k = 2) → ∀ W, Q w W → Calls Try.prog 84 #[p.v, tgW wd b, q.v, .bool pk] W (R1 W (.bool (q.isC wd p && !(pk && q.und))))) (hu : und = false) (hnl : nul = false) (hk0 : k = 6) (hpk : pk = true → k = 1 ∨ k = 2) : ∀ W, Q w W → Calls Try.prog 84 #[.agg #[.int .i64 k, .int .i64 n, .bool f, .slice A len cap], tgW wd b, .agg #[.int .i64 x, .bool nul, .bool und, .slice A2 n2 c2], .bool pk] W (R1 W (.bool (cellC wd (.mk k n f A len cap ps) x nul und (qs.map (Cel.isC wd)) (qs.map Cel.und) && !(pk && und)))) := by
 intro W hqW
 unfold R1
 have hk : (Lay.mk k n f A len cap ps).k = k := rfl
 have hql : ((qs.map (Cel.isC wd)).length : Int) = (n2 : Int) := by rw [List.length_map, hq2.len]
 subst hu hnl hk0
 have HSL : Hid (Sl 4 encL w A len cap ps) := by cases hl with | @mk _ _ _ _ _ _ _ hk hn hsl hnil hcap hall => exact hide hsl
 have hlb : (len : Int) ≤ 140737488351232 := by cases hl with | @mk _ _ _ _ _ _ _ hk hn hsl hnil hcap hall => omega
 have H := hide hl
 have HV := hide hv
 have HSQ := hide hq2
 have HIH := hide ih
 have HOK := hide ho
 have HQW := hide hqW
 obtain ⟨w2, hw2⟩ : ∃ w2, ((W.alloc (.cells #[.int .i64 6, .int .i64 n, .bool f, .slice A len cap] 24)).alloc (.cells #[.int .i64 wd, .bool b] 26)).alloc (.cells #[.int .i64 x, .bool false, .bool false, .slice A2 n2 c2] 31) = w2 := ⟨_, rfl⟩
 obtain ⟨hqq, hs2, hc, hd, hx⟩ := box3 hw2
 have hb0 : W.heap.size < w2.heap.size := by omega
 have hb1 : W.heap.size + 1 < w2.heap.size := by omega
 have hb2 : W.heap.size + 2 < w2.heap.size := by omega
 have KA := hide fun X (hX : Q w2 X) => (cs42 hX hb0 hc hb1 hd : Cs42 X W.heap.size (.int .i64 6) (.int .i64 n) (.bool f) (.slice A len cap) (W.heap.size + 1) (.int .i64 wd) (.bool b))
 have KX := hide fun X (hX : Q w2 X) => (cs4 hX hb2 hx : Cs4 X (W.heap.size + 2) (.int .i64 x) (.bool false) (.bool false) (.slice A2 n2 c2))
 have HW2 := hide hw2
 have HQ2 := hide hqq
 have HWQ := hide (hqW.trans hqq)
 have hpk0 : pk = false := by
  cases pk with
  | false => rfl
  | true => have := hpk rfl; omega
 subst hpk0
 have ho9 := ho rfl
 have hpl := HSL.out.len
 obtain ⟨F, hF⟩ : ∃ F : Nat → Bool, F = fun j => (((qs.map (Cel.isC wd))[j]?).getD (fun _ => false)) (prtL (.mk 6 n f A len cap ps) j) && !(false && ((qs.map Cel.und)[j]?).getD false) := ⟨_, rfl⟩
 obtain ⟨e1, he1⟩ : ∃ e, (x == 0) = e := ⟨_, rfl⟩
 obtain ⟨e2, he2⟩ : ∃ e, ((n2 : Int) == (len : Int)) = e := ⟨_, rfl⟩
 have hn1 : (x != 0) = !e1 := by rw [← he1]; rfl
 have hn3 : ((n2 : Int) != (len : Int)) = !e2 := by rw [← he2]; rfl
 obtain ⟨res, hres⟩ : ∃ r, (cellC wd (.mk 6 n f A len cap ps) x false false (qs.map (Cel.isC wd)) (qs.map Cel.und) && !(false && false)) = r := ⟨_, rfl⟩
 have hres2 : res = cellC wd (.mk 6 n f A len cap ps) x false false (qs.map (Cel.isC wd)) (qs.map Cel.und) := by rw [← hres]; simp
 rw [hres]
 clear hres
 have RES0 : Hid (res = (e1 && (e2 && (List.range n2).all F))) := hide (by
  rw [hres2, cellC_p rfl rfl (by rw [hk]; decide), he1]
  congr 1
  unfold areC
  have e1 : cntL (.mk 6 n f A len cap ps) = (len : Int) := by
   unfold cntL
   rw [if_neg (by rw [hk]; decide)]
   show (ps.length : Int) = _
   rw [hpl]
  rw [e1, hql, he2, hF]
  have e9 : (qs.map (Cel.isC wd)).length = n2 := by omega
  rw [e9]
  rfl)
 have HSTEP : Hid (∀ (j : Nat) (q : Cel) (p : Lay), qs[j]? = some q → prtL (.mk 6 n f A len cap ps) j = p → F j = (q.isC wd p && !(false && q.und))) := hide (fun j q p hq hp => by
  rw [hF]
  dsimp only
  rw [List.getElem?_map, List.getElem?_map, hq, hp]
  rfl)
 have HPL := hide hpl
 clear hv
 have HO9 := hide ho9
 clear hres2 hF he1 hpl ho9
 clear hl hq2 ih ho hqW hw2 hd hc hx hqq hql hk
 obtain ⟨k0, k1, k2, k3, t0, t1⟩ := KA.out w2 (Q.refl _)
 obtain ⟨c0, c1, c2', c3⟩ := KX.out w2 (Q.refl _)
 go_enter Try.func84, Try.ntmps84
 go_upto_region 1 with fail
 rw [HW2.out]
 cases e1 with
 | false =>
  have RES : Hid (res = false) := hide (by rw [RES0.out]; rfl)
  go_wp2_with fail
  go_ret
  exact ⟨by rw [RES.out] <;> rfl, HQ2.out⟩
 | true =>
  cases e2 with
  | false =>
   have RES : Hid (res = false) := hide (by rw [RES0.out]; rfl)
   go_wp2_with fail
   go_ret
   exact ⟨by rw [RES.out] <;> rfl, HQ2.out⟩
  | true =>
   have hct : (n2 : Int) = (len : Int) := by simpa using he2
   clear he2
   go_wp2_with fail
   clear k0 k1 k2 k3 t0 t1 c0 c1 c2' c3
   go_loopw [12] (fun vi wr => ∃ j : Nat, j ≤ n2 ∧ vi = .int .i64 j ∧ (List.range j).all F = true ∧ Q w2 wr) (fun vi _ => n2 - (intOf vi).toNat)
   case atStart => exact ⟨0, by omega, by go_num, by simp, Q.refl _⟩
   case round =>
    obtain ⟨j, hj, rfl, hall, hq⟩ := hrel
    have HQ := hide hq
    have HALL := hide hall
    by_cases hlt9 : j < n2
    ·have hlt8 : (j : Int) < (len : Int) := by omega
     have hd1 : decide ((j : Int) < (n2 : Int)) = true := by simp; omega
     have hd0 : decide (j < n2) = true := by simp; omega
     have hlti : (j : Int) < (n2 : Int) := by omega
     obtain ⟨g2, o2, m2, x2, y2, B2, l2, d2, qq, e, hbq, hxq, v0, v1, v2, v3⟩ := cel_at (HSQ.out.up (HWQ.out.trans hq)) hlt9
     cases e
     obtain ⟨q, hqe⟩ : ∃ q, Cel.mk m2 x2 y2 B2 l2 d2 qq = q := ⟨_, rfl⟩
     have hqv : q.v = .agg #[.int .i64 m2, .bool x2, .bool y2, .slice B2 l2 d2] := by rw [← hqe]; rfl
     rw [hqe] at hxq
     obtain ⟨g9, o9, m9, x9, y9, B9, l9, d9, qs9, e, hb9, hx9, y0, y1, y2', y3⟩ := lay_at (HSL.out.up (HWQ.out.trans hq)) (show 0 < len by omega)
     obtain ⟨g, o, m', x', y', B, l', d', qs1, e8, hbp, hxp, z0, z1, z2, z3⟩ := lay_at (HSL.out.up (HWQ.out.trans hq)) (show j < len by omega)
     obtain ⟨rfl, rfl⟩ : g9 = g ∧ o9 = o := by rw [e] at e8; injection e8 with e8; injection e8 with e8 e7; exact ⟨e8, e7⟩
     clear e8
     cases e
     obtain ⟨p, hpe⟩ : ∃ p, Lay.mk m' x' y' B l' d' qs1 = p := ⟨_, rfl⟩
     have hpv : p.v = .agg #[.int .i64 m', .int .i64 x', .bool y', .slice B l' d'] := by rw [← hpe]; rfl
     rw [hpe] at hxp
     rw [Nat.zero_mul, Nat.add_zero] at y0 y1 y2' y3
     have hl0 : (0 : Int) < (len : Int) := by omega
     have hjl : (j : Int) < (len : Int) := by omega
     have hprt : prtL (.mk 6 n f (some ⟨g9, o9, none⟩) len cap ps) j = p := by
      unfold prtL
      show (ps[min j (ps.length - 1)]?).getD noL = p
      rw [HPL.out, show min j (len - 1) = j by omega, hxp]
      rfl
     have HFJ := hide (HSTEP.out j q p hxq hprt)
     have hpm := List.mem_of_getElem? hxp
     have HIP := hide (HIH.out q (List.mem_of_getElem? hxq) p hpm false (fun _ => HO9.out.part H.out hpm (fun h => absurd h (by show ¬ (6 : Int) = 5; decide)) (by intro h9; exact absurd h9 (by show ¬ (6 : Int) = 9; decide))) (fun h => nomatch h))
     obtain ⟨r, hr⟩ : ∃ r, (q.isC wd p && !(false && q.und)) = r := ⟨_, rfl⟩
     rw [hqv, hpv, hr] at HIP
     unfold R1 at HIP
     rw [hr] at HFJ
     have HLT := hide hlt9
     have KQ : Hid (∀ X, Q wr X → X.cell? ⟨g2, o2 + j * 4, none⟩ = some (.int .i64 m2) ∧ X.cell? ⟨g2, o2 + j * 4 + 1, none⟩ = some (.bool x2) ∧ X.cell? ⟨g2, o2 + j * 4 + 2, none⟩ = some (.bool y2) ∧ X.cell? ⟨g2, o2 + j * 4 + 3, none⟩ = some (.slice B2 l2 d2)) := hide fun X hX => ⟨(hX.facts.1 _ _ hbq).trans v0, (hX.facts.1 _ _ hbq).trans v1, (hX.facts.1 _ _ hbq).trans v2, (hX.facts.1 _ _ hbq).trans v3⟩
     obtain ⟨w3, hw3⟩ : ∃ w3, wr.alloc (.cells #[.int .i64 m9, .int .i64 x9, .bool y9, .slice B9 l9 d9] 24) = w3 := ⟨_, rfl⟩
     have hq3 : Q wr w3 := by rw [← hw3]; exact (Q.refl _).alloc _
     have hb3 : w3.heap[wr.heap.size]? = some (.cells #[.int .i64 m9, .int .i64 x9, .bool y9, .slice B9 l9 d9] 24 (0, 0)) := by rw [← hw3]; exact heap_alloc_new wr _
     have HSET := hide (set4row hb3 (.int .i64 m') (.int .i64 x') (.bool y') (.slice B l' d'))
     obtain ⟨w4, hw4⟩ : ∃ w4, w3.setRow wr.heap.size #[.int .i64 m', .int .i64 x', .bool y', .slice B l' d'] = w4 := ⟨_, rfl⟩
     have hq4 : Q wr w4 := by rw [← hw4]; exact q_setRow hq3 (Nat.le_refl _)
     have hb4 : w4.heap[wr.heap.size]? = some (.cells #[.int .i64 m', .int .i64 x', .bool y', .slice B l' d'] 24 (0, 0)) := by rw [← hw4]; exact setRow_heap w3 _ _ _ _ _ hb3
     have HW3 := hide hw3
     have HW4 := hide hw4
     have HB3 := hide hb3
     have HB4 := hide hb4
     have Q43 := hide (hq.trans hq3)
     have Q44 := hide hq4
     have Q24 := hide (hq.trans hq4)
     have k3 := (KA.out wr hq).2.2.2.1
     have u0 := (hq3.facts.1 _ _ hbp).trans z0
     have u1 := (hq3.facts.1 _ _ hbp).trans z1
     have u2 := (hq3.facts.1 _ _ hbp).trans z2
     have u3 := (hq3.facts.1 _ _ hbp).trans z3
     clear hq hall hxq hqe hqv hxp hpe hpv hprt hpm hr hw3 hw4 hb3 hb4 hq3 hq4 v0 v1 v2 v3 hbp hbq hb9 z0 z1 z2 z3
     go_upto_region 27 with fail
     rw [HW3.out]
     clear k3 y0 y1 y2' y3
     have k0 := (KA.out w3 Q43.out).1
     have k3 := (KA.out w3 Q43.out).2.2.2.1
     have hb3 := HB3.out
     have b0 : w3.cell? ⟨wr.heap.size, 0, none⟩ = some (.int .i64 m9) := cell_blkJ hb3 rfl
     have b1 : w3.cell? ⟨wr.heap.size, 1, none⟩ = some (.int .i64 x9) := cell_blkJ hb3 rfl
     have b2 : w3.cell? ⟨wr.heap.size, 2, none⟩ = some (.bool y9) := cell_blkJ hb3 rfl
     have b3 : w3.cell? ⟨wr.heap.size, 3, none⟩ = some (.slice B9 l9 d9) := cell_blkJ hb3 rfl
     have f0 : w3.frozen? ⟨wr.heap.size, 0, none⟩ = false := frz_new (j := 0) hb3
     have f1 : w3.frozen? ⟨wr.heap.size, 1, none⟩ = false := frz_new (j := 1) hb3
     have f2 : w3.frozen? ⟨wr.heap.size, 2, none⟩ = false := frz_new (j := 2) hb3
     have f3 : w3.frozen? ⟨wr.heap.size, 3, none⟩ = false := frz_new (j := 3) hb3
     clear hb3
     go_upto_region 29 with fail
     rw [HSET.out, HW4.out]
     clear k0 k3 b0 b1 b2 b3 f0 f1 f2 f3 u0 u1 u2 u3
     refine Ri.made (Ri.phi [Ri.isV (.agg #[.int .i64 m', .int .i64 x', .bool y', .slice B l' d']), Ri.isV (tgW wd b), Ri.isV (.pointer (some ⟨W.heap.size + 2, 3, none⟩)), Ri.isV (.slice (some ⟨g2, o2, none⟩) n2 c2), Ri.isV (.int .i64 ((j : Nat) : Int)), Ri.isV (.pointer (some ⟨g2, o2 + j * 4, none⟩)), Ri.isV (.agg #[.int .i64 m2, .bool x2, .bool y2, .slice B2 l2 d2]), Ri.isV (.pointer (some ⟨W.heap.size, 0, none⟩)), Ri.isV (.int .i64 6), Ri.isV (.bool false), Ri.isV (.bool r), Ri.isV (.bool (!r))]) (by kernel_rfl) (by kernel_rfl) (Ri.phi_mono ?_) ?_ ?_
     ·repeat' first | exact trivial | exact fun _ _ _ h _ => h | refine ⟨?_, ?_⟩
     ·refine Ri.All.cons ?_ (.cons ?_ (.cons ?_ (.cons ?_ (.cons ?_ (.cons ?_ (.cons ?_ (.cons ?_ (.cons ?_ (.cons ?_ (.cons ?_ (.cons ?_ (Ri.All.nil))))))))))))
      ·refine ⟨rfl, fun f0 W9 hq hf Ac hA hB hO => ?_⟩
       have e1 := (hB 13).trans (show _ = .pointer (some ⟨wr.heap.size, 0, none⟩) by simp [Act.eval])
       exact Ri.wp_value _ (Ri.run_ldrow rfl e1 (blk_q HB4.out ((Q.refl w4).drew.trans hq)) Try.underlying24 rfl (by kernel_rfl)) rfl
      ·refine ⟨rfl, fun f0 W9 hq hf Ac hA hB hO => ?_⟩
       have e1 := (hB 5).trans (show _ = .pointer (some ⟨W.heap.size + 1, 0, none⟩) by simp [Act.eval])
       obtain ⟨-, -, -, -, u0, u1⟩ := KA.out W9 (Q24.out.trans ((Q.refl w4).drew.trans hq))
       exact Ri.wp_value _ (Ri.run_ldagg (cs := [.int .i64 wd, .bool b]) rfl e1 (c2L u0 u1) Try.underlying26 rfl (by kernel_rfl)) rfl
      ·refine ⟨rfl, fun f0 W9 hq hf Ac hA hB hO => ?_⟩
       have e1 := (hB 6).trans (show _ = .pointer (some ⟨W.heap.size + 2, 0, none⟩) by simp [Act.eval])
       exact Ri.wp_value _ (Ri.run_fld (f := _) rfl e1 Try.underlying31 rfl (sz := 0) (by kernel_rfl)) rfl
      ·refine ⟨rfl, fun f0 W9 hq hf Ac hA hB hO => ?_⟩
       have e1 := (hA 202 2).trans (hf 2)
       exact Ri.wp_value _ (Ri.run_ld1 rfl e1 Try.underlying29 rfl ((KX.out W9 (Q24.out.trans ((Q.refl w4).drew.trans hq))).2.2.2)) rfl
      ·refine ⟨rfl, fun f0 W9 hq hf Ac hA hB hO => ?_⟩
       have e1 := (hB 12).trans (show _ = .int .i64 (j : Nat) by simp [Act.eval])
       exact Ri.wp_value _ (Ri.run_mv rfl e1) rfl
      ·refine ⟨rfl, fun f0 W9 hq hf Ac hA hB hO => ?_⟩
       have e1 := (hA 203 3).trans (hf 3)
       have e2 := (hA 204 4).trans (hf 4)
       exact Ri.wp_value _ (Ri.run_idx rfl e1 e2 Try.underlying29 (sz := 4) (by kernel_rfl) HLT.out) rfl
      ·refine ⟨rfl, fun f0 W9 hq hf Ac hA hB hO => ?_⟩
       have e1 := (hA 205 5).trans (hf 5)
       obtain ⟨b0, b1, b2, b3⟩ := KQ.out W9 (Q44.out.trans ((Q.refl w4).drew.trans hq))
       exact Ri.wp_value _ (Ri.run_ldagg rfl e1 (c4G b0 b1 b2 b3) Try.underlying31 rfl (by kernel_rfl)) rfl
      ·refine ⟨rfl, fun f0 W9 hq hf Ac hA hB hO => ?_⟩
       have e1 := (hB 4).trans (show _ = .pointer (some ⟨W.heap.size, 0, none⟩) by simp [Act.eval])
       exact Ri.wp_value _ (Ri.run_fld (f := _) rfl e1 Try.underlying24 rfl (sz := 0) (by kernel_rfl)) rfl
      ·refine ⟨rfl, fun f0 W9 hq hf Ac hA hB hO => ?_⟩
       have e1 := (hA 207 7).trans (hf 7)
       exact Ri.wp_value _ (Ri.run_ld1 rfl e1 Try.underlying3 rfl ((KA.out W9 (Q24.out.trans ((Q.refl w4).drew.trans hq))).1)) rfl
      ·refine ⟨rfl, fun f0 W9 hq hf Ac hA hB hO => ?_⟩
       have e1 := (hA 208 8).trans (hf 8)
       have e2 : Ac.eval (.const (.int .i64 9)) = .int .i64 9 := rfl
       exact Ri.wp_value _ ((Ri.run_eqlC rfl e1 e2 Try.underlying3).trans (by rfl)) rfl
      ·refine ⟨rfl, fun f0 W9 hq hf Ac hA hB hO => ?_⟩
       have e1 := (hA 200 0).trans (hf 0)
       have e2 := (hA 201 1).trans (hf 1)
       have e3 := (hA 206 6).trans (hf 6)
       have e4 := (hA 209 9).trans (hf 9)
       refine Ri.wp_call #[.agg #[.int .i64 m', .int .i64 x', .bool y', .slice B l' d'], tgW wd b, .agg #[.int .i64 m2, .bool x2, .bool y2, .slice B2 l2 d2], .bool false] rfl (by simp [e1, e2, e3, e4]) Try.func84 (by kernel_rfl) (by kernel_rfl) ((HIP.out W9 (HWQ.out.trans (Q24.out.trans ((Q.refl w4).drew.trans hq)))).mono ?_)
       rintro e w9 ⟨rfl, h1⟩
       exact ⟨_, rfl, h1, rfl⟩
      ·refine ⟨rfl, fun f0 W9 hq hf Ac hA hB hO => ?_⟩
       have e1 := (hA 210 10).trans (hf 10)
       exact Ri.wp_value _ (Ri.run_not rfl e1) rfl
     ·intro f0 w8 hq8 hf
      have hl9 := hf 11 (by simp)
      simp only [Ri.phi, List.getD_cons_zero, List.getD_cons_succ, Ri.isV] at hl9
      simp only [Ri.acts, Act.put, List.setIfInBounds_toArray, List.set_cons_zero, List.set_cons_succ, Nat.zero_add, Nat.reduceAdd]
      rw [hl9]
      have HQ8 := hide (Q24.out.trans hq8)
      clear hf hl9 hq8
      cases r with
      | false =>
       have RES : Hid (res = false) := hide (by rw [RES0.out, all_range_no HLT.out HFJ.out]; rfl)
       go_wp2_with fail
       go_ret
       exact ⟨by rw [RES.out] <;> rfl, HQ2.out.trans HQ8.out⟩
      | true =>
       have HNX := hide (show (List.range (j + 1)).all F = true by rw [all_range_succ, HALL.out, HFJ.out]; rfl)
       go_wp2_with fail
       go_roundw
       case rel => exact ⟨j + 1, by omega, by go_num, HNX.out, HQ8.out⟩
       case measure => simp [intOf] <;> omega
    ·have hd1 : decide ((j : Int) < (n2 : Int)) = false := by simp; omega
     have hd0 : decide (j < n2) = false := by simp; omega
     obtain rfl : j = n2 := by omega
     have RES : Hid (res = true) := hide (by rw [RES0.out, HALL.out]; rfl)
     clear hq hall
     go_wp2_with fail
     go_ret
     exact ⟨by rw [RES.out] <;> rfl, HQ2.out.trans HQ.out⟩
theorem rCell_p9t {w : World} {k n : Int} {f : Bool} {A : Option Addr} {len cap : Nat} {ps : List Lay} (hl : LayR w (.mk k n f A len cap ps)) (hv : VL (.mk k n f A len cap ps)) (hcnt : (Lay.mk k n f A len cap ps).count ≤ 1048576) (wd : Int) (hw : okW wd) (b : Bool) {x : Int} {nul und pk : Bool} (ho : pk = false → Okw wd (.mk k n f A len cap ps)) {A2 : Option Addr} {n2 c2 : Nat} {qs : List Cel} (hq2 : Sl 4 encC w A2 n2 c2 qs) (hn2 : n2 ≤ 140737488351232) (ih : ∀ q ∈ qs, ∀ p ∈ ps, ∀ pk : Bool, (pk = false → Okw wd p) → (pk = true → p.k = 1 ∨ p.k = 2) → ∀ W, Q w W → Calls Try.prog 84 #[p.v, tgW wd b, q.v, .bool pk] W (R1 W (.bool (q.isC wd p && !(pk && q.und))))) (hu : und = false) (hnl : nul = true) (hk0 : k = 9) (hpk : pk = true → k = 1 ∨ k = 2) : ∀ W, Q w W → Calls Try.prog 84 #[.agg #[.int .i64 k, .int .i64 n, .bool f, .slice A len cap], tgW wd b, .agg #[.int .i64 x, .bool nul, .bool und, .slice A2 n2 c2], .bool pk] W (R1 W (.bool (cellC wd (.mk k n f A len cap ps) x nul und (qs.map (Cel.isC wd)) (qs.map Cel.und) && !(pk && und)))) := by
 intro W hqW
 unfold R1
 have hk : (Lay.mk k n f A len cap ps).k = k := rfl
 have hql : ((qs.map (Cel.isC wd)).length : Int) = (n2 : Int) := by rw [List.length_map, hq2.len]
 subst hu hnl hk0
 have HSL : Hid (Sl 4 encL w A len cap ps) := by cases hl with | @mk _ _ _ _ _ _ _ hk hn hsl hnil hcap hall => exact hide hsl
 have hlb : (len : Int) ≤ 140737488351232 := by cases hl with | @mk _ _ _ _ _ _ _ hk hn hsl hnil hcap hall => omega
 have H := hide hl
 have HV := hide hv
 have HSQ := hide hq2
 have HIH := hide ih
 have HOK := hide ho
 have HQW := hide hqW
 obtain ⟨w2, hw2⟩ : ∃ w2, ((W.alloc (.cells #[.int .i64 9, .int .i64 n, .bool f, .slice A len cap] 24)).alloc (.cells #[.int .i64 wd, .bool b] 26)).alloc (.cells #[.int .i64 x, .bool true, .bool false, .slice A2 n2 c2] 31) = w2 := ⟨_, rfl⟩
 obtain ⟨hqq, hs2, hc, hd, hx⟩ := box3 hw2
 have hb0 : W.heap.size < w2.heap.size := by omega
 have hb1 : W.heap.size + 1 < w2.heap.size := by omega
 have hb2 : W.heap.size + 2 < w2.heap.size := by omega
 have KA := hide fun X (hX : Q w2 X) => (cs42 hX hb0 hc hb1 hd : Cs42 X W.heap.size (.int .i64 9) (.int .i64 n) (.bool f) (.slice A len cap) (W.heap.size + 1) (.int .i64 wd) (.bool b))
 have KX := hide fun X (hX : Q w2 X) => (cs4 hX hb2 hx : Cs4 X (W.heap.size + 2) (.int .i64 x) (.bool true) (.bool false) (.slice A2 n2 c2))
 have HW2 := hide hw2
 have HQ2 := hide hqq
 have HWQ := hide (hqW.trans hqq)
 have hpk0 : pk = false := by
  cases pk with
  | false => rfl
  | true => have := hpk rfl; omega
 subst hpk0
 obtain ⟨e1, he1⟩ : ∃ e, (x != 0) = e := ⟨_, rfl⟩
 obtain ⟨res, hres⟩ : ∃ r, (cellC wd (.mk 9 n f A len cap ps) x true false (qs.map (Cel.isC wd)) (qs.map Cel.und) && !(false && false)) = r := ⟨_, rfl⟩
 have hres2 : res = cellC wd (.mk 9 n f A len cap ps) x true false (qs.map (Cel.isC wd)) (qs.map Cel.und) := by rw [← hres]; simp
 rw [hres]
 clear hres
 have RES : Hid (res = false) := hide (by rw [hres2, cellC_nul rfl rfl, hk]; rfl)
 clear hres2
 clear hl hv hq2 ih ho hqW hw2 hd hc hx hqq hql hk
 obtain ⟨k0, k1, k2, k3, t0, t1⟩ := KA.out w2 (Q.refl _)
 obtain ⟨c0, c1, c2', c3⟩ := KX.out w2 (Q.refl _)
 go_enter Try.func84, Try.ntmps84
 go_upto_region 1 with fail
 rw [HW2.out]
 cases e1 with
 | false =>
  go_wp2_with fail
  go_ret
  exact ⟨by rw [RES.out] <;> rfl, HQ2.out⟩
 | true =>
  go_wp2_with fail
  go_ret
  exact ⟨by rw [RES.out] <;> rfl, HQ2.out⟩
theorem rCell_p9f {w : World} {k n : Int} {f : Bool} {A : Option Addr} {len cap : Nat} {ps : List Lay} (hl : LayR w (.mk k n f A len cap ps)) (hv : VL (.mk k n f A len cap ps)) (hcnt : (Lay.mk k n f A len cap ps).count ≤ 1048576) (wd : Int) (hw : okW wd) (b : Bool) {x : Int} {nul und pk : Bool} (ho : pk = false → Okw wd (.mk k n f A len cap ps)) {A2 : Option Addr} {n2 c2 : Nat} {qs : List Cel} (hq2 : Sl 4 encC w A2 n2 c2 qs) (hn2 : n2 ≤ 140737488351232) (ih : ∀ q ∈ qs, ∀ p ∈ ps, ∀ pk : Bool, (pk = false → Okw wd p) → (pk = true → p.k = 1 ∨ p.k = 2) → ∀ W, Q w W → Calls Try.prog 84 #[p.v, tgW wd b, q.v, .bool pk] W (R1 W (.bool (q.isC wd p && !(pk && q.und))))) (hu : und = false) (hnl : nul = false) (hk0 : k = 9) (hpk : pk = true → k = 1 ∨ k = 2) : ∀ W, Q w W → Calls Try.prog 84 #[.agg #[.int .i64 k, .int .i64 n, .bool f, .slice A len cap], tgW wd b, .agg #[.int .i64 x, .bool nul, .bool und, .slice A2 n2 c2], .bool pk] W (R1 W (.bool (cellC wd (.mk k n f A len cap ps) x nul und (qs.map (Cel.isC wd)) (qs.map Cel.und) && !(pk && und)))) := by
 intro W hqW
 unfold R1
 have hk : (Lay.mk k n f A len cap ps).k = k := rfl
 have hql : ((qs.map (Cel.isC wd)).length : Int) = (n2 : Int) := by rw [List.length_map, hq2.len]
 subst hu hnl hk0
 have HSL : Hid (Sl 4 encL w A len cap ps) := by cases hl with | @mk _ _ _ _ _ _ _ hk hn hsl hnil hcap hall => exact hide hsl
 have hlb : (len : Int) ≤ 140737488351232 := by cases hl with | @mk _ _ _ _ _ _ _ hk hn hsl hnil hcap hall => omega
 have H := hide hl
 have HV := hide hv
 have HSQ := hide hq2
 have HIH := hide ih
 have HOK := hide ho
 have HQW := hide hqW
 obtain ⟨w2, hw2⟩ : ∃ w2, ((W.alloc (.cells #[.int .i64 9, .int .i64 n, .bool f, .slice A len cap] 24)).alloc (.cells #[.int .i64 wd, .bool b] 26)).alloc (.cells #[.int .i64 x, .bool false, .bool false, .slice A2 n2 c2] 31) = w2 := ⟨_, rfl⟩
 obtain ⟨hqq, hs2, hc, hd, hx⟩ := box3 hw2
 have hb0 : W.heap.size < w2.heap.size := by omega
 have hb1 : W.heap.size + 1 < w2.heap.size := by omega
 have hb2 : W.heap.size + 2 < w2.heap.size := by omega
 have KA := hide fun X (hX : Q w2 X) => (cs42 hX hb0 hc hb1 hd : Cs42 X W.heap.size (.int .i64 9) (.int .i64 n) (.bool f) (.slice A len cap) (W.heap.size + 1) (.int .i64 wd) (.bool b))
 have KX := hide fun X (hX : Q w2 X) => (cs4 hX hb2 hx : Cs4 X (W.heap.size + 2) (.int .i64 x) (.bool false) (.bool false) (.slice A2 n2 c2))
 have HW2 := hide hw2
 have HQ2 := hide hqq
 have HWQ := hide (hqW.trans hqq)
 have hpk0 : pk = false := by
  cases pk with
  | false => rfl
  | true => have := hpk rfl; omega
 subst hpk0
 have ho9 := ho rfl
 have hpl := HSL.out.len
 obtain ⟨F, hF⟩ : ∃ F : Nat → Bool, F = fun j => (((qs.map (Cel.isC wd))[j]?).getD (fun _ => false)) (prtL (.mk 9 n f A len cap ps) j) && !(true && ((qs.map Cel.und)[j]?).getD false) := ⟨_, rfl⟩
 obtain ⟨e1, he1⟩ : ∃ e, (x == 0) = e := ⟨_, rfl⟩
 obtain ⟨e2, he2⟩ : ∃ e, ((n2 : Int) == (len : Int)) = e := ⟨_, rfl⟩
 have hn1 : (x != 0) = !e1 := by rw [← he1]; rfl
 have hn3 : ((n2 : Int) != (len : Int)) = !e2 := by rw [← he2]; rfl
 obtain ⟨res, hres⟩ : ∃ r, (cellC wd (.mk 9 n f A len cap ps) x false false (qs.map (Cel.isC wd)) (qs.map Cel.und) && !(false && false)) = r := ⟨_, rfl⟩
 have hres2 : res = cellC wd (.mk 9 n f A len cap ps) x false false (qs.map (Cel.isC wd)) (qs.map Cel.und) := by rw [← hres]; simp
 rw [hres]
 clear hres
 have RES0 : Hid (res = (e1 && (e2 && (List.range n2).all F))) := hide (by
  rw [hres2, cellC_p rfl rfl (by rw [hk]; decide), he1]
  congr 1
  unfold areC
  have e1 : cntL (.mk 9 n f A len cap ps) = (len : Int) := by
   unfold cntL
   rw [if_neg (by rw [hk]; decide)]
   show (ps.length : Int) = _
   rw [hpl]
  rw [e1, hql, he2, hF]
  have e9 : (qs.map (Cel.isC wd)).length = n2 := by omega
  rw [e9]
  rfl)
 have HSTEP : Hid (∀ (j : Nat) (q : Cel) (p : Lay), qs[j]? = some q → prtL (.mk 9 n f A len cap ps) j = p → F j = (q.isC wd p && !(true && q.und))) := hide (fun j q p hq hp => by
  rw [hF]
  dsimp only
  rw [List.getElem?_map, List.getElem?_map, hq, hp]
  rfl)
 have HPL := hide hpl
 clear hv
 have HO9 := hide ho9
 clear hres2 hF he1 hpl ho9
 clear hl hq2 ih ho hqW hw2 hd hc hx hqq hql hk
 obtain ⟨k0, k1, k2, k3, t0, t1⟩ := KA.out w2 (Q.refl _)
 obtain ⟨c0, c1, c2', c3⟩ := KX.out w2 (Q.refl _)
 go_enter Try.func84, Try.ntmps84
 go_upto_region 1 with fail
 rw [HW2.out]
 cases e1 with
 | false =>
  have RES : Hid (res = false) := hide (by rw [RES0.out]; rfl)
  go_wp2_with fail
  go_ret
  exact ⟨by rw [RES.out] <;> rfl, HQ2.out⟩
 | true =>
  cases e2 with
  | false =>
   have RES : Hid (res = false) := hide (by rw [RES0.out]; rfl)
   go_wp2_with fail
   go_ret
   exact ⟨by rw [RES.out] <;> rfl, HQ2.out⟩
  | true =>
   have hct : (n2 : Int) = (len : Int) := by simpa using he2
   clear he2
   go_wp2_with fail
   clear k0 k1 k2 k3 t0 t1 c0 c1 c2' c3
   go_loopw [12] (fun vi wr => ∃ j : Nat, j ≤ n2 ∧ vi = .int .i64 j ∧ (List.range j).all F = true ∧ Q w2 wr) (fun vi _ => n2 - (intOf vi).toNat)
   case atStart => exact ⟨0, by omega, by go_num, by simp, Q.refl _⟩
   case round =>
    obtain ⟨j, hj, rfl, hall, hq⟩ := hrel
    have HQ := hide hq
    have HALL := hide hall
    by_cases hlt9 : j < n2
    ·have hlt8 : (j : Int) < (len : Int) := by omega
     have hd1 : decide ((j : Int) < (n2 : Int)) = true := by simp; omega
     have hd0 : decide (j < n2) = true := by simp; omega
     have hlti : (j : Int) < (n2 : Int) := by omega
     obtain ⟨g2, o2, m2, x2, y2, B2, l2, d2, qq, e, hbq, hxq, v0, v1, v2, v3⟩ := cel_at (HSQ.out.up (HWQ.out.trans hq)) hlt9
     cases e
     obtain ⟨q, hqe⟩ : ∃ q, Cel.mk m2 x2 y2 B2 l2 d2 qq = q := ⟨_, rfl⟩
     have hqv : q.v = .agg #[.int .i64 m2, .bool x2, .bool y2, .slice B2 l2 d2] := by rw [← hqe]; rfl
     rw [hqe] at hxq
     obtain ⟨g9, o9, m9, x9, y9, B9, l9, d9, qs9, e, hb9, hx9, y0, y1, y2', y3⟩ := lay_at (HSL.out.up (HWQ.out.trans hq)) (show 0 < len by omega)
     obtain ⟨g, o, m', x', y', B, l', d', qs1, e8, hbp, hxp, z0, z1, z2, z3⟩ := lay_at (HSL.out.up (HWQ.out.trans hq)) (show j < len by omega)
     obtain ⟨rfl, rfl⟩ : g9 = g ∧ o9 = o := by rw [e] at e8; injection e8 with e8; injection e8 with e8 e7; exact ⟨e8, e7⟩
     clear e8
     cases e
     obtain ⟨p, hpe⟩ : ∃ p, Lay.mk m' x' y' B l' d' qs1 = p := ⟨_, rfl⟩
     have hpv : p.v = .agg #[.int .i64 m', .int .i64 x', .bool y', .slice B l' d'] := by rw [← hpe]; rfl
     rw [hpe] at hxp
     rw [Nat.zero_mul, Nat.add_zero] at y0 y1 y2' y3
     have hl0 : (0 : Int) < (len : Int) := by omega
     have hjl : (j : Int) < (len : Int) := by omega
     have hprt : prtL (.mk 9 n f (some ⟨g9, o9, none⟩) len cap ps) j = p := by
      unfold prtL
      show (ps[min j (ps.length - 1)]?).getD noL = p
      rw [HPL.out, show min j (len - 1) = j by omega, hxp]
      rfl
     have HFJ := hide (HSTEP.out j q p hxq hprt)
     have hpm := List.mem_of_getElem? hxp
     have HIP := hide (HIH.out q (List.mem_of_getElem? hxq) p hpm true (fun h => nomatch h) (fun _ => pk_kind HV.out hpm))
     obtain ⟨r, hr⟩ : ∃ r, (q.isC wd p && !(true && q.und)) = r := ⟨_, rfl⟩
     rw [hqv, hpv, hr] at HIP
     unfold R1 at HIP
     rw [hr] at HFJ
     have HLT := hide hlt9
     have KQ : Hid (∀ X, Q wr X → X.cell? ⟨g2, o2 + j * 4, none⟩ = some (.int .i64 m2) ∧ X.cell? ⟨g2, o2 + j * 4 + 1, none⟩ = some (.bool x2) ∧ X.cell? ⟨g2, o2 + j * 4 + 2, none⟩ = some (.bool y2) ∧ X.cell? ⟨g2, o2 + j * 4 + 3, none⟩ = some (.slice B2 l2 d2)) := hide fun X hX => ⟨(hX.facts.1 _ _ hbq).trans v0, (hX.facts.1 _ _ hbq).trans v1, (hX.facts.1 _ _ hbq).trans v2, (hX.facts.1 _ _ hbq).trans v3⟩
     obtain ⟨w3, hw3⟩ : ∃ w3, wr.alloc (.cells #[.int .i64 m9, .int .i64 x9, .bool y9, .slice B9 l9 d9] 24) = w3 := ⟨_, rfl⟩
     have hq3 : Q wr w3 := by rw [← hw3]; exact (Q.refl _).alloc _
     have hb3 : w3.heap[wr.heap.size]? = some (.cells #[.int .i64 m9, .int .i64 x9, .bool y9, .slice B9 l9 d9] 24 (0, 0)) := by rw [← hw3]; exact heap_alloc_new wr _
     have HSET := hide (set4row hb3 (.int .i64 m') (.int .i64 x') (.bool y') (.slice B l' d'))
     obtain ⟨w4, hw4⟩ : ∃ w4, w3.setRow wr.heap.size #[.int .i64 m', .int .i64 x', .bool y', .slice B l' d'] = w4 := ⟨_, rfl⟩
     have hq4 : Q wr w4 := by rw [← hw4]; exact q_setRow hq3 (Nat.le_refl _)
     have hb4 : w4.heap[wr.heap.size]? = some (.cells #[.int .i64 m', .int .i64 x', .bool y', .slice B l' d'] 24 (0, 0)) := by rw [← hw4]; exact setRow_heap w3 _ _ _ _ _ hb3
     have HW3 := hide hw3
     have HW4 := hide hw4
     have HB3 := hide hb3
     have HB4 := hide hb4
     have Q43 := hide (hq.trans hq3)
     have Q44 := hide hq4
     have Q24 := hide (hq.trans hq4)
     have k3 := (KA.out wr hq).2.2.2.1
     have u0 := (hq3.facts.1 _ _ hbp).trans z0
     have u1 := (hq3.facts.1 _ _ hbp).trans z1
     have u2 := (hq3.facts.1 _ _ hbp).trans z2
     have u3 := (hq3.facts.1 _ _ hbp).trans z3
     clear hq hall hxq hqe hqv hxp hpe hpv hprt hpm hr hw3 hw4 hb3 hb4 hq3 hq4 v0 v1 v2 v3 hbp hbq hb9 z0 z1 z2 z3
     go_upto_region 27 with fail
     rw [HW3.out]
     clear k3 y0 y1 y2' y3
     have k0 := (KA.out w3 Q43.out).1
     have k3 := (KA.out w3 Q43.out).2.2.2.1
     have hb3 := HB3.out
     have b0 : w3.cell? ⟨wr.heap.size, 0, none⟩ = some (.int .i64 m9) := cell_blkJ hb3 rfl
     have b1 : w3.cell? ⟨wr.heap.size, 1, none⟩ = some (.int .i64 x9) := cell_blkJ hb3 rfl
     have b2 : w3.cell? ⟨wr.heap.size, 2, none⟩ = some (.bool y9) := cell_blkJ hb3 rfl
     have b3 : w3.cell? ⟨wr.heap.size, 3, none⟩ = some (.slice B9 l9 d9) := cell_blkJ hb3 rfl
     have f0 : w3.frozen? ⟨wr.heap.size, 0, none⟩ = false := frz_new (j := 0) hb3
     have f1 : w3.frozen? ⟨wr.heap.size, 1, none⟩ = false := frz_new (j := 1) hb3
     have f2 : w3.frozen? ⟨wr.heap.size, 2, none⟩ = false := frz_new (j := 2) hb3
     have f3 : w3.frozen? ⟨wr.heap.size, 3, none⟩ = false := frz_new (j := 3) hb3
     clear hb3
     go_upto_region 29 with fail
     rw [HSET.out, HW4.out]
     clear k0 k3 b0 b1 b2 b3 f0 f1 f2 f3 u0 u1 u2 u3
     refine Ri.made (Ri.phi [Ri.isV (.agg #[.int .i64 m', .int .i64 x', .bool y', .slice B l' d']), Ri.isV (tgW wd b), Ri.isV (.pointer (some ⟨W.heap.size + 2, 3, none⟩)), Ri.isV (.slice (some ⟨g2, o2, none⟩) n2 c2), Ri.isV (.int .i64 ((j : Nat) : Int)), Ri.isV (.pointer (some ⟨g2, o2 + j * 4, none⟩)), Ri.isV (.agg #[.int .i64 m2, .bool x2, .bool y2, .slice B2 l2 d2]), Ri.isV (.pointer (some ⟨W.heap.size, 0, none⟩)), Ri.isV (.int .i64 9), Ri.isV (.bool true), Ri.isV (.bool r), Ri.isV (.bool (!r))]) (by kernel_rfl) (by kernel_rfl) (Ri.phi_mono ?_) ?_ ?_
     ·repeat' first | exact trivial | exact fun _ _ _ h _ => h | refine ⟨?_, ?_⟩
     ·refine Ri.All.cons ?_ (.cons ?_ (.cons ?_ (.cons ?_ (.cons ?_ (.cons ?_ (.cons ?_ (.cons ?_ (.cons ?_ (.cons ?_ (.cons ?_ (.cons ?_ (Ri.All.nil))))))))))))
      ·refine ⟨rfl, fun f0 W9 hq hf Ac hA hB hO => ?_⟩
       have e1 := (hB 13).trans (show _ = .pointer (some ⟨wr.heap.size, 0, none⟩) by simp [Act.eval])
       exact Ri.wp_value _ (Ri.run_ldrow rfl e1 (blk_q HB4.out ((Q.refl w4).drew.trans hq)) Try.underlying24 rfl (by kernel_rfl)) rfl
      ·refine ⟨rfl, fun f0 W9 hq hf Ac hA hB hO => ?_⟩
       have e1 := (hB 5).trans (show _ = .pointer (some ⟨W.heap.size + 1, 0, none⟩) by simp [Act.eval])
       obtain ⟨-, -, -, -, u0, u1⟩ := KA.out W9 (Q24.out.trans ((Q.refl w4).drew.trans hq))
       exact Ri.wp_value _ (Ri.run_ldagg (cs := [.int .i64 wd, .bool b]) rfl e1 (c2L u0 u1) Try.underlying26 rfl (by kernel_rfl)) rfl
      ·refine ⟨rfl, fun f0 W9 hq hf Ac hA hB hO => ?_⟩
       have e1 := (hB 6).trans (show _ = .pointer (some ⟨W.heap.size + 2, 0, none⟩) by simp [Act.eval])
       exact Ri.wp_value _ (Ri.run_fld (f := _) rfl e1 Try.underlying31 rfl (sz := 0) (by kernel_rfl)) rfl
      ·refine ⟨rfl, fun f0 W9 hq hf Ac hA hB hO => ?_⟩
       have e1 := (hA 202 2).trans (hf 2)
       exact Ri.wp_value _ (Ri.run_ld1 rfl e1 Try.underlying29 rfl ((KX.out W9 (Q24.out.trans ((Q.refl w4).drew.trans hq))).2.2.2)) rfl
      ·refine ⟨rfl, fun f0 W9 hq hf Ac hA hB hO => ?_⟩
       have e1 := (hB 12).trans (show _ = .int .i64 (j : Nat) by simp [Act.eval])
       exact Ri.wp_value _ (Ri.run_mv rfl e1) rfl
      ·refine ⟨rfl, fun f0 W9 hq hf Ac hA hB hO => ?_⟩
       have e1 := (hA 203 3).trans (hf 3)
       have e2 := (hA 204 4).trans (hf 4)
       exact Ri.wp_value _ (Ri.run_idx rfl e1 e2 Try.underlying29 (sz := 4) (by kernel_rfl) HLT.out) rfl
      ·refine ⟨rfl, fun f0 W9 hq hf Ac hA hB hO => ?_⟩
       have e1 := (hA 205 5).trans (hf 5)
       obtain ⟨b0, b1, b2, b3⟩ := KQ.out W9 (Q44.out.trans ((Q.refl w4).drew.trans hq))
       exact Ri.wp_value _ (Ri.run_ldagg rfl e1 (c4G b0 b1 b2 b3) Try.underlying31 rfl (by kernel_rfl)) rfl
      ·refine ⟨rfl, fun f0 W9 hq hf Ac hA hB hO => ?_⟩
       have e1 := (hB 4).trans (show _ = .pointer (some ⟨W.heap.size, 0, none⟩) by simp [Act.eval])
       exact Ri.wp_value _ (Ri.run_fld (f := _) rfl e1 Try.underlying24 rfl (sz := 0) (by kernel_rfl)) rfl
      ·refine ⟨rfl, fun f0 W9 hq hf Ac hA hB hO => ?_⟩
       have e1 := (hA 207 7).trans (hf 7)
       exact Ri.wp_value _ (Ri.run_ld1 rfl e1 Try.underlying3 rfl ((KA.out W9 (Q24.out.trans ((Q.refl w4).drew.trans hq))).1)) rfl
      ·refine ⟨rfl, fun f0 W9 hq hf Ac hA hB hO => ?_⟩
       have e1 := (hA 208 8).trans (hf 8)
       have e2 : Ac.eval (.const (.int .i64 9)) = .int .i64 9 := rfl
       exact Ri.wp_value _ ((Ri.run_eqlC rfl e1 e2 Try.underlying3).trans (by rfl)) rfl
      ·refine ⟨rfl, fun f0 W9 hq hf Ac hA hB hO => ?_⟩
       have e1 := (hA 200 0).trans (hf 0)
       have e2 := (hA 201 1).trans (hf 1)
       have e3 := (hA 206 6).trans (hf 6)
       have e4 := (hA 209 9).trans (hf 9)
       refine Ri.wp_call #[.agg #[.int .i64 m', .int .i64 x', .bool y', .slice B l' d'], tgW wd b, .agg #[.int .i64 m2, .bool x2, .bool y2, .slice B2 l2 d2], .bool true] rfl (by simp [e1, e2, e3, e4]) Try.func84 (by kernel_rfl) (by kernel_rfl) ((HIP.out W9 (HWQ.out.trans (Q24.out.trans ((Q.refl w4).drew.trans hq)))).mono ?_)
       rintro e w9 ⟨rfl, h1⟩
       exact ⟨_, rfl, h1, rfl⟩
      ·refine ⟨rfl, fun f0 W9 hq hf Ac hA hB hO => ?_⟩
       have e1 := (hA 210 10).trans (hf 10)
       exact Ri.wp_value _ (Ri.run_not rfl e1) rfl
     ·intro f0 w8 hq8 hf
      have hl9 := hf 11 (by simp)
      simp only [Ri.phi, List.getD_cons_zero, List.getD_cons_succ, Ri.isV] at hl9
      simp only [Ri.acts, Act.put, List.setIfInBounds_toArray, List.set_cons_zero, List.set_cons_succ, Nat.zero_add, Nat.reduceAdd]
      rw [hl9]
      have HQ8 := hide (Q24.out.trans hq8)
      clear hf hl9 hq8
      cases r with
      | false =>
       have RES : Hid (res = false) := hide (by rw [RES0.out, all_range_no HLT.out HFJ.out]; rfl)
       go_wp2_with fail
       go_ret
       exact ⟨by rw [RES.out] <;> rfl, HQ2.out.trans HQ8.out⟩
      | true =>
       have HNX := hide (show (List.range (j + 1)).all F = true by rw [all_range_succ, HALL.out, HFJ.out]; rfl)
       go_wp2_with fail
       go_roundw
       case rel => exact ⟨j + 1, by omega, by go_num, HNX.out, HQ8.out⟩
       case measure => simp [intOf] <;> omega
    ·have hd1 : decide ((j : Int) < (n2 : Int)) = false := by simp; omega
     have hd0 : decide (j < n2) = false := by simp; omega
     obtain rfl : j = n2 := by omega
     have RES : Hid (res = true) := hide (by rw [RES0.out, HALL.out]; rfl)
     clear hq hall
     go_wp2_with fail
     go_ret
     exact ⟨by rw [RES.out] <;> rfl, HQ2.out.trans HQ.out⟩
theorem rCell_any {w : World} {c : Cel} (hc : CelR w c) (wd : Int) (hw : okW wd) (b : Bool) : ∀ l, LayR w l → VL l → l.count ≤ 1048576 → ∀ pk : Bool, (pk = false → Okw wd l) → (pk = true → l.k = 1 ∨ l.k = 2) → ∀ W, Q w W → Calls Try.prog 84 #[l.v, tgW wd b, c.v, .bool pk] W (R1 W (.bool (c.isC wd l && !(pk && c.und)))) := by
 induction hc with
 | @mk x nul und A2 n2 c2 qs h1 h2 h3 h4 h5 ih =>
  intro l hl hv hcnt pk ho hpk
  cases l with
  | mk k n f A len cap ps =>
   have hi : ∀ q ∈ qs, ∀ p ∈ ps, ∀ pk : Bool, (pk = false → Okw wd p) → (pk = true → p.k = 1 ∨ p.k = 2) → ∀ W, Q w W → Calls Try.prog 84 #[p.v, tgW wd b, q.v, .bool pk] W (R1 W (.bool (q.isC wd p && !(pk && q.und)))) := fun q hq p hp => ih q hq p (lay_part hl hp) (hv.part (l := .mk k n f A len cap ps) hp) (by have := count_part (l := .mk k n f A len cap ps) hp; omega)
   rw [isC_mk]
   show ∀ W, Q w W → Calls _ _ #[.agg #[.int .i64 k, .int .i64 n, .bool f, .slice A len cap], tgW wd b, .agg #[.int .i64 x, .bool nul, .bool und, .slice A2 n2 c2], .bool pk] W (R1 W (.bool (cellC wd (.mk k n f A len cap ps) x nul und (qs.map (Cel.isC wd)) (qs.map Cel.und) && !(pk && und))))
   have hk := hv.kind
   have hpk' : pk = true → k = 1 ∨ k = 2 := hpk
   cases und with
   | true => exact rCell_und hl hv hcnt wd hw b ho h2 h4 hi rfl
   | false =>
    cases nul with
    | true =>
     by_cases k0 : k = 0
     ·exact rCell_0t hl hv hcnt wd hw b ho h2 h4 hi rfl rfl k0
     by_cases k4 : k = 4
     ·exact rCell_4t hl hv hcnt wd hw b ho h2 h4 hi rfl rfl k4 hpk'
     by_cases k8 : k = 8
     ·exact rCell_8t hl hv hcnt wd hw b ho h2 h4 hi rfl rfl k8 hpk'
     by_cases k5 : k = 5
     ·exact rCell_p5t hl hv hcnt wd hw b ho h2 h4 hi rfl rfl k5 hpk'
     by_cases k6 : k = 6
     ·exact rCell_p6t hl hv hcnt wd hw b ho h2 h4 hi rfl rfl k6 hpk'
     by_cases k9 : k = 9
     ·exact rCell_p9t hl hv hcnt wd hw b ho h2 h4 hi rfl rfl k9 hpk'
     exact rCell_nt hl hv hcnt wd hw b ho h2 h4 hi rfl rfl (by omega)
    | false =>
     by_cases k0 : k = 0
     ·exact rCell_0f hl hv hcnt wd hw b ho h2 h4 hi rfl rfl k0
     by_cases k4 : k = 4
     ·exact rCell_4f hl hv hcnt wd hw b ho h2 h4 hi rfl rfl k4 hpk'
     by_cases k8 : k = 8
     ·exact rCell_8f hl hv hcnt wd hw b ho h2 h4 hi rfl rfl k8 hpk'
     by_cases k5 : k = 5
     ·exact rCell_p5f hl hv hcnt wd hw b ho h2 h4 hi rfl rfl k5 hpk'
     by_cases k6 : k = 6
     ·exact rCell_p6f hl hv hcnt wd hw b ho h2 h4 hi rfl rfl k6 hpk'
     by_cases k9 : k = 9
     ·exact rCell_p9f hl hv hcnt wd hw b ho h2 h4 hi rfl rfl k9 hpk'
     exact rCell_nf hl hv hcnt wd hw b ho h2 h4 hi rfl rfl (by omega)
def vlC (wd : Int) (l : Lay) (c : Cel) : Int := if eL wd l = 0 then (if c.isC wd l = true then 0 else 6) else eL wd l
theorem vlC_ok {wd : Int} {l : Lay} {c : Cel} (h : eL wd l = 0) : vlC wd l c = if c.isC wd l = true then 0 else 6 := if_pos h
theorem vlC_bad {wd : Int} {l : Lay} {c : Cel} (h : eL wd l ≠ 0) : vlC wd l c = eL wd l := if_neg h
def Cel.isDef : Cel → Bool
 | .mk _ _ und _ _ _ qs => !und && (qs.attach.all fun q => Cel.isDef q.1)
termination_by c => SizeOf.sizeOf c
decreasing_by
 have := List.sizeOf_lt_of_mem q.2
 simp
 omega
theorem all_attach {α : Type} (f : α → Bool) (l : List α) : (l.attach.all fun p => f p.1) = l.all f := by
 conv => rhs; rw [← List.attach_map_subtype_val l]
 rw [List.all_map]
 rfl
theorem isDef_mk (n : Int) (nul und : Bool) (A : Option Addr) (len cap : Nat) (qs : List Cel) : (Cel.mk n nul und A len cap qs).isDef = (!und && qs.all Cel.isDef) := by
 rw [Cel.isDef, all_attach]
theorem any_takeC {qs : List Cel} {j : Nat} {q : Cel} (t : Cel → Bool) (h : qs[j]? = some q) : (qs.take (j + 1)).any t = ((qs.take j).any t || t q) := by
 rw [List.take_add_one, h, List.any_append]
 simp
theorem any_hitC {qs : List Cel} {j : Nat} {q : Cel} {t : Cel → Bool} (h : qs[j]? = some q) (ht : t q = true) : qs.any t = true := by
 rw [List.any_eq_true]
 exact ⟨q, List.mem_of_getElem? h, ht⟩
theorem CValidate_any {w : World} {l : Lay} (h : LayR w l) (hcnt : l.count ≤ 1048576) {c : Cel} (hc : CelR w c) (wd : Int) (b : Bool) : ∀ W, Q w W → Calls Try.prog 29 #[l.v, tgW wd b, c.v] W (R1 W (.int .i64 (vlC wd l c))) := by
 intro W hqW
 unfold R1
 obtain ⟨k, n, f, A, len, cap, hlv, hle⟩ := enc_v l
 obtain ⟨x, nul, und, A2, n2, c2, hcv, hce⟩ := cel_enc c
 have HLV := hide hlv
 have HCV := hide hcv
 rw [hlv, hcv]
 obtain ⟨w2, hw2⟩ : ∃ w2, ((W.alloc (.cells #[.int .i64 k, .int .i64 n, .bool f, .slice A len cap] 24)).alloc (.cells #[.int .i64 wd, .bool b] 26)).alloc (.cells #[.int .i64 x, .bool nul, .bool und, .slice A2 n2 c2] 31) = w2 := ⟨_, rfl⟩
 obtain ⟨hqq, hs2, hd, he, hx⟩ := box3 hw2
 have hb0 : W.heap.size < w2.heap.size := by omega
 have hb1 : W.heap.size + 1 < w2.heap.size := by omega
 have hb2 : W.heap.size + 2 < w2.heap.size := by omega
 have KA := hide fun X (hX : Q w2 X) => (cs42 hX hb0 hd hb1 he : Cs42 X W.heap.size (.int .i64 k) (.int .i64 n) (.bool f) (.slice A len cap) (W.heap.size + 1) (.int .i64 wd) (.bool b))
 have KX := hide fun X (hX : Q w2 X) => (cs4 hX hb2 hx : Cs4 X (W.heap.size + 2) (.int .i64 x) (.bool nul) (.bool und) (.slice A2 n2 c2))
 have HW2 := hide hw2
 have HQ2 := hide hqq
 have HWQ := hide (hqW.trans hqq)
 have H := hide h
 have HC := hide hc
 clear h hc hlv hle hcv hce hw2 hd he hx hqq hqW
 have HSZ := hide (open_any H.out hcnt wd b)
 obtain ⟨ee, hee⟩ : ∃ ee, eL wd l = ee := ⟨_, rfl⟩
 obtain ⟨sv, hsv⟩ : ∃ sv, szL wd l = sv := ⟨_, rfl⟩
 obtain ⟨cw, hcw⟩ : ∃ cw, cdW wd l = cw := ⟨_, rfl⟩
 obtain ⟨cb, hcb⟩ : ∃ cb, cdB b l = cb := ⟨_, rfl⟩
 rw [HLV.out, hee, hsv, hcw, hcb] at HSZ
 unfold R1 at HSZ
 have HEE := hide hee
 have HCW := hide hcw
 have HCB := hide hcb
 obtain ⟨vl, hvl⟩ : ∃ vl, vlC wd l c = vl := ⟨_, rfl⟩
 have HVL := hide hvl
 rw [hvl]
 clear hee hsv hcw hcb hvl
 obtain ⟨k0, k1, k2, k3, t0, t1⟩ := KA.out w2 (Q.refl _)
 obtain ⟨c0, c1, c2', c3⟩ := KX.out w2 (Q.refl _)
 go_enter Try.func29, Try.ntmps29
 go_upto_region 1 with fail
 rw [HW2.out]
 go_wp2_with fail
 refine (HSZ.out w2 HWQ.out).mono ?_
 rintro e w3 ⟨rfl, hq3⟩
 have Q23 := hide hq3
 clear hq3 k0 k1 k2 k3 t0 t1 c0 c1 c2' c3
 obtain ⟨w4, hw4⟩ : ∃ w4, w3.alloc (.cells #[.int .i64 cw, .bool cb] 60) = w4 := ⟨_, rfl⟩
 obtain ⟨hq4, hs4, hc4⟩ := box1 hw4
 have r0 := hc4 0 _ rfl
 have r1 := hc4 1 _ rfl
 have HW4 := hide hw4
 have Q24 := hide (Q23.out.trans hq4)
 clear hw4 hc4 hq4
 obtain ⟨k0, k1, k2, k3, t0, t1⟩ := KA.out w4 Q24.out
 obtain ⟨c0, c1, c2', c3⟩ := KX.out w4 Q24.out
 go_upto_region 2 with fail
 rw [HW4.out]
 by_cases hz : ee = 0
 ·have dz : (ee != 0) = false := by simp [hz]
  have ho := eL_zero.1 (HEE.out.trans hz)
  obtain ⟨x1, x2⟩ := cd_ok (wd := wd) (b := b) ho.valid
  rw [HCW.out] at x1
  rw [HCB.out] at x2
  subst x1 x2
  have HIC := hide (isCell_any HC.out cw ho.word cb l H.out ho.vl hcnt)
  rw [HLV.out, HCV.out] at HIC
  unfold R1 at HIC
  obtain ⟨r, hr⟩ : ∃ r, c.isC cw l = r := ⟨_, rfl⟩
  rw [hr] at HIC
  have RES : Hid (vl = if r = true then 0 else 6) := hide (by rw [← HVL.out, vlC_ok (HEE.out.trans hz), hr])
  clear hz ho hr
  go_wp2_with fail
  refine (HIC.out w4 (HWQ.out.trans Q24.out)).mono ?_
  rintro e w7 ⟨rfl, hq7⟩
  have Q27 := hide (Q24.out.trans hq7)
  clear hq7 k0 k1 k2 k3 t0 t1 c0 c1 c2' c3 r0 r1
  cases r with
  | true =>
   go_wp2_with fail
   go_ret
   exact ⟨by rw [RES.out] <;> rfl, HQ2.out.trans Q27.out⟩
  | false =>
   go_wp2_with fail
   go_ret
   exact ⟨by rw [RES.out] <;> rfl, HQ2.out.trans Q27.out⟩
 ·have dz : (ee != 0) = true := by simp [hz]
  have RES : Hid (vl = ee) := hide (by rw [← HVL.out, vlC_bad (by rw [HEE.out]; exact hz), HEE.out])
  clear hz
  go_wp2_with fail
  go_ret
  exact ⟨by rw [RES.out] <;> rfl, HQ2.out.trans Q24.out⟩
theorem rCValidate_any {w : World} {l : Lay} (h : LayR w l) (hcnt : l.count ≤ 1048576) {c : Cel} (hc : CelR w c) (wd : Int) (b : Bool) : ∀ W, Q w W → Calls Try.prog 54 #[l.v, tgW wd b, c.v] W (R1 W (.int .i64 (vlC wd l c))) := by
 intro W hqW
 unfold R1
 obtain ⟨k, n, f, A, len, cap, hlv, hle⟩ := enc_v l
 obtain ⟨x, nul, und, A2, n2, c2, hcv, hce⟩ := cel_enc c
 have HLV := hide hlv
 have HCV := hide hcv
 rw [hlv, hcv]
 obtain ⟨w2, hw2⟩ : ∃ w2, ((W.alloc (.cells #[.int .i64 k, .int .i64 n, .bool f, .slice A len cap] 24)).alloc (.cells #[.int .i64 wd, .bool b] 26)).alloc (.cells #[.int .i64 x, .bool nul, .bool und, .slice A2 n2 c2] 31) = w2 := ⟨_, rfl⟩
 obtain ⟨hqq, hs2, hd, he, hx⟩ := box3 hw2
 have hb0 : W.heap.size < w2.heap.size := by omega
 have hb1 : W.heap.size + 1 < w2.heap.size := by omega
 have hb2 : W.heap.size + 2 < w2.heap.size := by omega
 have KA := hide fun X (hX : Q w2 X) => (cs42 hX hb0 hd hb1 he : Cs42 X W.heap.size (.int .i64 k) (.int .i64 n) (.bool f) (.slice A len cap) (W.heap.size + 1) (.int .i64 wd) (.bool b))
 have KX := hide fun X (hX : Q w2 X) => (cs4 hX hb2 hx : Cs4 X (W.heap.size + 2) (.int .i64 x) (.bool nul) (.bool und) (.slice A2 n2 c2))
 have HW2 := hide hw2
 have HQ2 := hide hqq
 have HWQ := hide (hqW.trans hqq)
 have H := hide h
 have HC := hide hc
 clear h hc hlv hle hcv hce hw2 hd he hx hqq hqW
 have HSZ := hide (sized06_any H.out hcnt wd b)
 obtain ⟨ee, hee⟩ : ∃ ee, eL wd l = ee := ⟨_, rfl⟩
 rw [HLV.out, hee] at HSZ
 unfold R1 at HSZ
 have HEE := hide hee
 obtain ⟨vl, hvl⟩ : ∃ vl, vlC wd l c = vl := ⟨_, rfl⟩
 have HVL := hide hvl
 rw [hvl]
 clear hee hvl
 obtain ⟨k0, k1, k2, k3, t0, t1⟩ := KA.out w2 (Q.refl _)
 obtain ⟨c0, c1, c2', c3⟩ := KX.out w2 (Q.refl _)
 go_enter Try.func54, Try.ntmps54
 go_upto_region 1 with fail
 rw [HW2.out]
 go_wp2_with fail
 refine (HSZ.out w2 HWQ.out).mono ?_
 rintro e w3 ⟨rfl, hq3⟩
 have Q23 := hide hq3
 clear hq3 k0 k1 k2 k3 t0 t1 c0 c1 c2' c3
 obtain ⟨k0, k1, k2, k3, t0, t1⟩ := KA.out w3 Q23.out
 obtain ⟨c0, c1, c2', c3⟩ := KX.out w3 Q23.out
 by_cases hz : ee = 0
 ·have dz : (ee != 0) = false := by simp [hz]
  have ho := eL_zero.1 (HEE.out.trans hz)
  have HIC := hide (rCell_any HC.out wd ho.word b l H.out ho.vl hcnt false (fun _ => ho) (fun h => nomatch h))
  rw [HLV.out, HCV.out, Bool.false_and, Bool.not_false, Bool.and_true] at HIC
  unfold R1 at HIC
  obtain ⟨r, hr⟩ : ∃ r, c.isC wd l = r := ⟨_, rfl⟩
  rw [hr] at HIC
  have RES : Hid (vl = if r = true then 0 else 6) := hide (by rw [← HVL.out, vlC_ok (HEE.out.trans hz), hr])
  clear hz ho hr
  go_wp2_with fail
  refine (HIC.out w3 (HWQ.out.trans Q23.out)).mono ?_
  rintro e w7 ⟨rfl, hq7⟩
  have Q27 := hide (Q23.out.trans hq7)
  clear hq7 k0 k1 k2 k3 t0 t1 c0 c1 c2' c3
  cases r with
  | true =>
   go_wp2_with fail
   go_ret
   exact ⟨by rw [RES.out] <;> rfl, HQ2.out.trans Q27.out⟩
  | false =>
   go_wp2_with fail
   go_ret
   exact ⟨by rw [RES.out] <;> rfl, HQ2.out.trans Q27.out⟩
 ·have dz : (ee != 0) = true := by simp [hz]
  have RES : Hid (vl = ee) := hide (by rw [← HVL.out, vlC_bad (by rw [HEE.out]; exact hz), HEE.out])
  clear hz
  go_wp2_with fail
  go_ret
  exact ⟨by rw [RES.out] <;> rfl, HQ2.out.trans Q23.out⟩
theorem index4 {A : Option Addr} {n c : Nat} {ps : List Cel} {w : World} (hs : Sl 4 encC w A n c ps) (hc : n ≤ 140737488351232) (t : Cel → Bool) (hf : ∀ W, Q w W → ∀ p ∈ ps, Calls Try.prog 83 #[p.v] W (R1 W (.bool (t p)))) :
  Calls Try.prog 111 #[.slice A n c, .func (.func 83) #[] #[]] w fun e w' => (∃ r : Int, e = .returned (.int .i64 r) ∧ decide (0 ≤ r) = ps.any t) ∧ Q w w' := by
 have hni : (n : Int) ≤ 140737488351232 := by have := hs.cap; omega
 have HS := hide hs
 have HF := hide hf
 have HPL := hide hs.len
 clear hs hc hf
 go_enter Try.func111, Try.ntmps111
 go_wp2_with fail
 go_loopw [8] (fun vi wr => ∃ j : Nat, j ≤ n ∧ vi = .int .i64 j ∧ (ps.take j).any t = false ∧ Q w wr) (fun vi _ => n - (intOf vi).toNat)
 case atStart => exact ⟨0, by omega, by go_num, by simp, Q.refl _⟩
 case round =>
  obtain ⟨j, hj, rfl, hany, hq⟩ := hrel
  have HANY := hide hany
  have HQ := hide hq
  clear hany
  by_cases hlt9 : j < n
  ·have hd1 : decide ((j : Int) < (n : Int)) = true := by simp; omega
   have hd0 : decide (j < n) = true := by simp; omega
   have hlti : (j : Int) < (n : Int) := by omega
   obtain ⟨b, o, m', x', y', B, l', d', qs, e, hb, hx, z0, z1, z2, z3⟩ := cel_at (HS.out.up hq) hlt9
   cases e
   obtain ⟨p, hpe⟩ : ∃ p, Cel.mk m' x' y' B l' d' qs = p := ⟨_, rfl⟩
   have hpv : p.v = .agg #[.int .i64 m', .bool x', .bool y', .slice B l' d'] := by rw [← hpe]; rfl
   rw [hpe] at hx
   have HC := hide (HF.out wr hq p (List.mem_of_getElem? hx))
   unfold R1 at HC
   rw [hpv] at HC
   obtain ⟨r, hr⟩ : ∃ r, t p = r := ⟨_, rfl⟩
   rw [hr] at HC
   have HR := hide hr
   have HX := hide hx
   clear hpe hpv hx hr hq
   go_wp2_with fail
   refine HC.out.mono ?_
   rintro e w5 ⟨rfl, hq5⟩
   have HQ5 := hide (HQ.out.trans hq5)
   clear hq5 z0 z1 z2 z3
   cases r with
   | true =>
    go_wp2_with fail
    go_ret
    exact ⟨⟨(j : Int), rfl, by rw [any_hitC HX.out HR.out]; simp⟩, HQ5.out⟩
   | false =>
    go_wp2_with fail
    go_roundw
    case rel => exact ⟨j + 1, by omega, by go_num, by rw [any_takeC t HX.out, HANY.out, HR.out]; rfl, HQ5.out⟩
    case measure => simp [intOf] <;> omega
  ·have hd1 : decide ((j : Int) < (n : Int)) = false := by simp; omega
   have hd0 : decide (j < n) = false := by simp; omega
   obtain rfl : j = n := by omega
   have HA := hide (show ps.any t = false by
    have h9 := HANY.out
    rwa [List.take_of_length_le (by have := HPL.out; omega)] at h9)
   clear hq
   go_wp2_with fail
   go_ret
   exact ⟨⟨-1, rfl, by rw [HA.out]; rfl⟩, HQ.out⟩
theorem contains4 {A : Option Addr} {n c : Nat} {ps : List Cel} {w : World} (hs : Sl 4 encC w A n c ps) (hc : n ≤ 140737488351232) (t : Cel → Bool) (hf : ∀ W, Q w W → ∀ p ∈ ps, Calls Try.prog 83 #[p.v] W (R1 W (.bool (t p)))) :
  Calls Try.prog 82 #[.slice A n c, .func (.func 83) #[] #[]] w (R1 w (.bool (ps.any t))) := by
 have HC := hide (index4 hs hc t hf)
 unfold R1
 go_enter Try.func82, Try.ntmps82
 go_wp2_with fail
 refine HC.out.mono ?_
 rintro e w1 ⟨⟨r, rfl, hr⟩, hq1⟩
 have HR := hide hr
 clear hr
 go_wp2_with fail
 go_ret
 exact ⟨by rw [← HR.out]; rfl, hq1⟩
theorem isDefined_any {w : World} {c : Cel} (hc : CelR w c) : ∀ W, Q w W → Calls Try.prog 53 #[c.v] W (R1 W (.bool c.isDef)) := by
 induction hc with
 | @mk x nul und A2 n2 c2 qs h1 h2 h3 h4 h5 ih =>
  intro W hqW
  unfold R1
  have HSL := hide h2
  have HIH := hide ih
  have HQW := hide hqW
  have HN2 := hide h4
  have HALL := hide h5
  have HRES := hide (isDef_mk x nul und A2 n2 c2 qs)
  show Calls _ _ #[.agg #[.int .i64 x, .bool nul, .bool und, .slice A2 n2 c2]] W _
  have HCL : Hid (∀ W', Q W W' → ∀ p ∈ qs, Calls Try.prog 83 #[p.v] W' (R1 W' (.bool (!p.isDef)))) := hide fun W' hW' p hp => by
   have HIP := hide (fun W2 (h2 : Q W' W2) => HIH.out p hp W2 (HQW.out.trans (hW'.trans h2)))
   unfold R1 at HIP ⊢
   obtain ⟨rp, hrp⟩ : ∃ rp, p.isDef = rp := ⟨_, rfl⟩
   rw [hrp] at HIP ⊢
   obtain ⟨m', x', y', B, l', d', hpv, -⟩ := cel_enc p
   rw [hpv] at HIP ⊢
   obtain ⟨wb, hwb⟩ : ∃ wb, W'.alloc (.cells #[.int .i64 m', .bool x', .bool y', .slice B l' d'] 31) = wb := ⟨_, rfl⟩
   obtain ⟨hqb, hsb, hcb⟩ := box1 hwb
   have t0 := hcb 0 _ rfl
   have t1 := hcb 1 _ rfl
   have t2 := hcb 2 _ rfl
   have t3 := hcb 3 _ rfl
   have HIB := hide (HIP.out wb hqb)
   have HWB := hide hwb
   have HQB := hide hqb
   clear hrp hpv hwb hqb hcb HIP HIH HALL HSL HRES h1 h2 h3 h4 h5 ih hqW
   go_enter Try.func83, Try.ntmps83
   go_upto_region 1 with fail
   rw [HWB.out]
   go_wp2_with fail
   refine HIB.out.mono ?_
   rintro e wc ⟨rfl, hqc⟩
   clear t0 t1 t2 t3
   cases rp <;>
   ·go_wp2_with fail
    go_ret
    exact ⟨rfl, HQB.out.trans hqc⟩
  have HCF : Hid (∀ W', Q W W' → Calls Try.prog 82 #[.slice A2 n2 c2, .func (.func 83) #[] #[]] W' (R1 W' (.bool (!qs.all Cel.isDef)))) := hide fun W' hW' => by
   have h9 := contains4 (HSL.out.up (HQW.out.trans hW')) HN2.out (fun p => !p.isDef) (fun W2 h2 p hp => HCL.out W2 (hW'.trans h2) p hp)
   have e9 : (qs.any fun p => !p.isDef) = !qs.all Cel.isDef := by rw [List.not_all_eq_any_not]
   rw [e9] at h9
   exact h9
  unfold R1 at HCF
  obtain ⟨w2, hw2⟩ : ∃ w2, W.alloc (.cells #[.int .i64 x, .bool nul, .bool und, .slice A2 n2 c2] 31) = w2 := ⟨_, rfl⟩
  obtain ⟨hq2, hs2, hcc⟩ := box1 hw2
  have k2 := hcc 2 _ rfl
  have k3 := hcc 3 _ rfl
  have HW2 := hide hw2
  have HQ2 := hide hq2
  obtain ⟨r, hr⟩ : ∃ r, qs.all Cel.isDef = r := ⟨_, rfl⟩
  rw [hr] at HRES HCF
  clear h1 h2 h3 h4 h5 ih hqW hw2 hq2 hcc hr
  go_enter Try.func53, Try.ntmps53
  go_upto_region 1 with fail
  rw [HW2.out]
  cases und with
  | true =>
   go_wp2_with fail
   go_ret
   exact ⟨by rw [HRES.out] <;> rfl, HQ2.out⟩
  | false =>
   go_wp2_with fail
   refine (HCF.out w2 HQ2.out).mono ?_
   rintro e w3 ⟨rfl, hq3⟩
   have HQ3 := hide (HQ2.out.trans hq3)
   clear hq3 k2 k3
   cases r <;>
   ·go_wp2_with fail
    go_ret
    exact ⟨by rw [HRES.out] <;> rfl, HQ3.out⟩
theorem rdefined_any {w : World} {c : Cel} (hc : CelR w c) : ∀ W, Q w W → Calls Try.prog 55 #[c.v] W (R1 W (.bool c.isDef)) := by
 induction hc with
 | @mk x nul und A2 n2 c2 qs h1 h2 h3 h4 h5 ih =>
  intro W hqW
  unfold R1
  have HSL := hide h2
  have HIH := hide ih
  have hln := h2.len
  have HLN := hide hln
  have HRES := hide (isDef_mk x nul und A2 n2 c2 qs)
  show Calls _ _ #[.agg #[.int .i64 x, .bool nul, .bool und, .slice A2 n2 c2]] W _
  obtain ⟨w2, hw2⟩ : ∃ w2, W.alloc (.cells #[.int .i64 x, .bool nul, .bool und, .slice A2 n2 c2] 31) = w2 := ⟨_, rfl⟩
  obtain ⟨hq2, hs2, hcc⟩ := box1 hw2
  have hb0 : W.heap.size < w2.heap.size := by omega
  have KX : Hid (∀ X, Q w2 X → X.cell? ⟨W.heap.size, 2, none⟩ = some (.bool und) ∧ X.cell? ⟨W.heap.size, 3, none⟩ = some (.slice A2 n2 c2)) := hide fun X hX => ⟨(hX.facts.1 _ 2 hb0).trans (hcc 2 _ rfl), (hX.facts.1 _ 3 hb0).trans (hcc 3 _ rfl)⟩
  have HW2 := hide hw2
  have HQ2 := hide hq2
  have HWQ := hide (hqW.trans hq2)
  clear h1 h2 h3 h5 ih hqW hw2 hq2 hcc hln
  go_enter Try.func55, Try.ntmps55
  go_upto_region 1 with fail
  rw [HW2.out]
  go_wp2_with fail
  go_loopw [3] (fun vi wr => ∃ j : Nat, j ≤ n2 ∧ vi = .int .i64 j ∧ (qs.take j).any (fun q => !q.isDef) = false ∧ Q w2 wr) (fun vi _ => n2 - (intOf vi).toNat)
  case atStart => exact ⟨0, by omega, by go_num, by simp, Q.refl _⟩
  case round =>
   obtain ⟨j, hj, rfl, hany, hq⟩ := hrel
   have HQ := hide hq
   have HANY := hide hany
   obtain ⟨k2, k3⟩ := KX.out wr hq
   by_cases hlt9 : j < n2
   ·have hd1 : decide ((j : Int) < (n2 : Int)) = true := by simp; omega
    have hd0 : decide (j < n2) = true := by simp; omega
    have hlti : (j : Int) < (n2 : Int) := by omega
    obtain ⟨g, o, m', x', y', B, l', d', qq, e, hb, hx, z0, z1, z2, z3⟩ := cel_at (HSL.out.up (HWQ.out.trans hq)) hlt9
    cases e
    obtain ⟨q, hqe⟩ : ∃ q, Cel.mk m' x' y' B l' d' qq = q := ⟨_, rfl⟩
    have hqv : q.v = .agg #[.int .i64 m', .bool x', .bool y', .slice B l' d'] := by rw [← hqe]; rfl
    rw [hqe] at hx
    have HIP := hide (HIH.out q (List.mem_of_getElem? hx) wr (HWQ.out.trans hq))
    obtain ⟨r, hr⟩ : ∃ r, q.isDef = r := ⟨_, rfl⟩
    rw [hqv, hr] at HIP
    unfold R1 at HIP
    have HX := hide hx
    have HR := hide hr
    clear hany hq hx hqe hqv hr
    go_wp2_with fail
    refine HIP.out.mono ?_
    rintro e w3 ⟨rfl, hq3⟩
    have HQ3 := hide (HQ.out.trans hq3)
    clear hq3 k2 k3 z0 z1 z2 z3
    cases r with
    | false =>
     have HB : Hid (qs.all Cel.isDef = false) := hide (by
      have h9 := any_hitC (t := fun q => !q.isDef) HX.out (by rw [HR.out]; rfl)
      rw [← List.not_all_eq_any_not] at h9
      simpa using h9)
     go_wp2_with fail
     go_ret
     exact ⟨by rw [HRES.out, HB.out, Bool.and_false] <;> rfl, HQ2.out.trans HQ3.out⟩
    | true =>
     go_wp2_with fail
     go_roundw
     case rel => exact ⟨j + 1, by omega, by go_num, by rw [any_takeC _ HX.out, HANY.out, HR.out]; rfl, HQ3.out⟩
     case measure => simp [intOf] <;> omega
   ·have hd1 : decide ((j : Int) < (n2 : Int)) = false := by simp; omega
    have hd0 : decide (j < n2) = false := by simp; omega
    obtain rfl : j = n2 := by omega
    have HA : Hid (qs.all Cel.isDef = true) := hide (by
     have h9 := HANY.out
     rw [List.take_of_length_le (by have := HLN.out; omega), ← List.not_all_eq_any_not] at h9
     simpa using h9)
    clear hany hq
    cases und <;>
    ·go_wp2_with fail
     go_ret
     exact ⟨by rw [HRES.out, HA.out] <;> rfl, HQ2.out.trans HQ.out⟩
def dfC (wd : Int) (l : Lay) (c : Cel) : Bool := if vlC wd l c = 0 then c.isDef else false
theorem dfC_ok {wd : Int} {l : Lay} {c : Cel} (h : vlC wd l c = 0) : dfC wd l c = c.isDef := if_pos h
theorem dfC_bad {wd : Int} {l : Lay} {c : Cel} (h : vlC wd l c ≠ 0) : dfC wd l c = false := if_neg h
theorem IsDefined_any {w : World} {l : Lay} (h : LayR w l) (hcnt : l.count ≤ 1048576) {c : Cel} (hc : CelR w c) (wd : Int) (b : Bool) : ∀ W, Q w W → Calls Try.prog 27 #[l.v, tgW wd b, c.v] W (R1 W (.tuple #[.bool (dfC wd l c), .int .i64 (vlC wd l c)])) := by
 intro W hqW
 unfold R1
 obtain ⟨k, n, f, A, len, cap, hlv, hle⟩ := enc_v l
 obtain ⟨x, nul, und, A2, n2, c2, hcv, hce⟩ := cel_enc c
 have HLV := hide hlv
 have HCV := hide hcv
 rw [hlv, hcv]
 obtain ⟨w2, hw2⟩ : ∃ w2, ((W.alloc (.cells #[.int .i64 k, .int .i64 n, .bool f, .slice A len cap] 24)).alloc (.cells #[.int .i64 wd, .bool b] 26)).alloc (.cells #[.int .i64 x, .bool nul, .bool und, .slice A2 n2 c2] 31) = w2 := ⟨_, rfl⟩
 obtain ⟨hqq, hs2, hd, he, hx⟩ := box3 hw2
 have hb0 : W.heap.size < w2.heap.size := by omega
 have hb1 : W.heap.size + 1 < w2.heap.size := by omega
 have hb2 : W.heap.size + 2 < w2.heap.size := by omega
 have KA := hide fun X (hX : Q w2 X) => (cs42 hX hb0 hd hb1 he : Cs42 X W.heap.size (.int .i64 k) (.int .i64 n) (.bool f) (.slice A len cap) (W.heap.size + 1) (.int .i64 wd) (.bool b))
 have KX := hide fun X (hX : Q w2 X) => (cs4 hX hb2 hx : Cs4 X (W.heap.size + 2) (.int .i64 x) (.bool nul) (.bool und) (.slice A2 n2 c2))
 have HW2 := hide hw2
 have HQ2 := hide hqq
 have HWQ := hide (hqW.trans hqq)
 have H := hide h
 have HC := hide hc
 clear h hc hlv hle hcv hce hw2 hd he hx hqq hqW
 have HVA := hide (CValidate_any H.out hcnt HC.out wd b)
 have HDE := hide (isDefined_any HC.out)
 obtain ⟨vl, hvl⟩ : ∃ vl, vlC wd l c = vl := ⟨_, rfl⟩
 obtain ⟨r, hr⟩ : ∃ r, c.isDef = r := ⟨_, rfl⟩
 rw [HLV.out, HCV.out, hvl] at HVA
 rw [HCV.out, hr] at HDE
 unfold R1 at HVA HDE
 obtain ⟨dv, hdv⟩ : ∃ dv, dfC wd l c = dv := ⟨_, rfl⟩
 have HDV := hide hdv
 have HVL := hide hvl
 have HRR := hide hr
 rw [hvl, hdv]
 clear hvl hr hdv
 obtain ⟨k0, k1, k2, k3, t0, t1⟩ := KA.out w2 (Q.refl _)
 obtain ⟨c0, c1, c2', c3⟩ := KX.out w2 (Q.refl _)
 go_enter Try.func27, Try.ntmps27
 go_upto_region 1 with fail
 rw [HW2.out]
 go_wp2_with fail
 refine (HVA.out w2 HWQ.out).mono ?_
 rintro e w3 ⟨rfl, hq3⟩
 have Q23 := hide hq3
 clear hq3 k0 k1 k2 k3 t0 t1 c0 c1 c2' c3
 obtain ⟨c0, c1, c2', c3⟩ := KX.out w3 Q23.out
 by_cases hz : vl = 0
 ·have RES : Hid (dv = r) := hide (by rw [← HDV.out, dfC_ok (HVL.out.trans hz), HRR.out])
  have dz : (vl != 0) = false := by simp [hz]
  have HZ := hide hz
  clear hz
  go_wp2_with fail
  refine (HDE.out w3 (HWQ.out.trans Q23.out)).mono ?_
  rintro e w4 ⟨rfl, hq4⟩
  have Q24 := hide (Q23.out.trans hq4)
  clear hq4 c0 c1 c2' c3
  go_wp2_with fail
  go_ret2
  exact ⟨by rw [RES.out, HZ.out] <;> rfl, HQ2.out.trans Q24.out⟩
 ·have RES : Hid (dv = false) := hide (by rw [← HDV.out, dfC_bad (by rw [HVL.out]; exact hz)])
  have dz : (vl != 0) = true := by simp [hz]
  clear hz
  go_wp2_with fail
  go_ret2
  exact ⟨by rw [RES.out] <;> rfl, HQ2.out.trans Q23.out⟩
theorem rIsDefined_any {w : World} {l : Lay} (h : LayR w l) (hcnt : l.count ≤ 1048576) {c : Cel} (hc : CelR w c) (wd : Int) (b : Bool) : ∀ W, Q w W → Calls Try.prog 28 #[l.v, tgW wd b, c.v] W (R1 W (.tuple #[.bool (dfC wd l c), .int .i64 (vlC wd l c)])) := by
 intro W hqW
 unfold R1
 obtain ⟨k, n, f, A, len, cap, hlv, hle⟩ := enc_v l
 obtain ⟨x, nul, und, A2, n2, c2, hcv, hce⟩ := cel_enc c
 have HLV := hide hlv
 have HCV := hide hcv
 rw [hlv, hcv]
 obtain ⟨w2, hw2⟩ : ∃ w2, ((W.alloc (.cells #[.int .i64 k, .int .i64 n, .bool f, .slice A len cap] 24)).alloc (.cells #[.int .i64 wd, .bool b] 26)).alloc (.cells #[.int .i64 x, .bool nul, .bool und, .slice A2 n2 c2] 31) = w2 := ⟨_, rfl⟩
 obtain ⟨hqq, hs2, hd, he, hx⟩ := box3 hw2
 have hb0 : W.heap.size < w2.heap.size := by omega
 have hb1 : W.heap.size + 1 < w2.heap.size := by omega
 have hb2 : W.heap.size + 2 < w2.heap.size := by omega
 have KA := hide fun X (hX : Q w2 X) => (cs42 hX hb0 hd hb1 he : Cs42 X W.heap.size (.int .i64 k) (.int .i64 n) (.bool f) (.slice A len cap) (W.heap.size + 1) (.int .i64 wd) (.bool b))
 have KX := hide fun X (hX : Q w2 X) => (cs4 hX hb2 hx : Cs4 X (W.heap.size + 2) (.int .i64 x) (.bool nul) (.bool und) (.slice A2 n2 c2))
 have HW2 := hide hw2
 have HQ2 := hide hqq
 have HWQ := hide (hqW.trans hqq)
 have H := hide h
 have HC := hide hc
 clear h hc hlv hle hcv hce hw2 hd he hx hqq hqW
 have HVA := hide (rCValidate_any H.out hcnt HC.out wd b)
 have HDE := hide (rdefined_any HC.out)
 obtain ⟨vl, hvl⟩ : ∃ vl, vlC wd l c = vl := ⟨_, rfl⟩
 obtain ⟨r, hr⟩ : ∃ r, c.isDef = r := ⟨_, rfl⟩
 rw [HLV.out, HCV.out, hvl] at HVA
 rw [HCV.out, hr] at HDE
 unfold R1 at HVA HDE
 obtain ⟨dv, hdv⟩ : ∃ dv, dfC wd l c = dv := ⟨_, rfl⟩
 have HDV := hide hdv
 have HVL := hide hvl
 have HRR := hide hr
 rw [hvl, hdv]
 clear hvl hr hdv
 obtain ⟨k0, k1, k2, k3, t0, t1⟩ := KA.out w2 (Q.refl _)
 obtain ⟨c0, c1, c2', c3⟩ := KX.out w2 (Q.refl _)
 go_enter Try.func28, Try.ntmps28
 go_upto_region 1 with fail
 rw [HW2.out]
 go_wp2_with fail
 refine (HVA.out w2 HWQ.out).mono ?_
 rintro e w3 ⟨rfl, hq3⟩
 have Q23 := hide hq3
 clear hq3 k0 k1 k2 k3 t0 t1 c0 c1 c2' c3
 obtain ⟨c0, c1, c2', c3⟩ := KX.out w3 Q23.out
 by_cases hz : vl = 0
 ·have RES : Hid (dv = r) := hide (by rw [← HDV.out, dfC_ok (HVL.out.trans hz), HRR.out])
  have dz : (vl != 0) = false := by simp [hz]
  have HZ := hide hz
  clear hz
  go_wp2_with fail
  refine (HDE.out w3 (HWQ.out.trans Q23.out)).mono ?_
  rintro e w4 ⟨rfl, hq4⟩
  have Q24 := hide (Q23.out.trans hq4)
  clear hq4 c0 c1 c2' c3
  go_wp2_with fail
  go_ret2
  exact ⟨by rw [RES.out, HZ.out] <;> rfl, HQ2.out.trans Q24.out⟩
 ·have RES : Hid (dv = false) := hide (by rw [← HDV.out, dfC_bad (by rw [HVL.out]; exact hz)])
  have dz : (vl != 0) = true := by simp [hz]
  clear hz
  go_wp2_with fail
  go_ret2
  exact ⟨by rw [RES.out] <;> rfl, HQ2.out.trans Q23.out⟩
end Go.Proofs.Ytbgbalfhbficaaa
