/- isCell of the program, of any cell and layout. Conditions: as each theorem says. -/
import Derived.Test.YtbgbalfhbficaaaCz14
namespace Go.Proofs.Ytbgbalfhbficaaa
set_option maxRecDepth 100000
set_option maxHeartbeats 2000000
open Go.RowKit
set_option linter.unusedVariables false
set_option linter.unusedSimpArgs false
theorem isCell_4 {w : World} {k n : Int} {f : Bool} {A : Option Addr} {len cap : Nat} {ps : List Lay} (hl : LayR w (.mk k n f A len cap ps)) (hv : VL (.mk k n f A len cap ps)) (hcnt : (Lay.mk k n f A len cap ps).count ≤ 1048576) (wd : Int) (hw : okW wd) (b : Bool) {x : Int} {nul und : Bool} {A2 : Option Addr} {n2 c2 : Nat} {qs : List Cel} (hq2 : Sl 4 encC w A2 n2 c2 qs) (hn2 : n2 ≤ 140737488351232) (ih : ∀ q ∈ qs, ∀ p ∈ ps, ∀ W, Q w W → Calls Try.prog 45 #[tgW wd b, p.v, q.v] W (R1 W (.bool (q.isC wd p)))) (hu : und = false) (hnl : nul = false) (hk0 : k = 4) : ∀ W, Q w W → Calls Try.prog 45 #[tgW wd b, .agg #[.int .i64 k, .int .i64 n, .bool f, .slice A len cap], .agg #[.int .i64 x, .bool nul, .bool und, .slice A2 n2 c2]] W (R1 W (.bool (cellC wd (.mk k n f A len cap ps) x nul und (qs.map (Cel.isC wd)) (qs.map Cel.und)))) := by
 intro W hqW
 unfold R1
 have hk : (Lay.mk k n f A len cap ps).k = k := rfl
 have hql : ((qs.map (Cel.isC wd)).length : Int) = (n2 : Int) := by rw [List.length_map, hq2.len]
 subst hu hnl hk0
 have HSL : Hid (Sl 4 encL w A len cap ps) := by cases hl with | @mk _ _ _ _ _ _ _ hk hn hsl hnil hcap hall => exact hide hsl
 have hlb : (len : Int) ≤ 140737488351232 := by cases hl with | @mk _ _ _ _ _ _ _ hk hn hsl hnil hcap hall => omega
 have H := hide hl
 have HV := hide hv
 have HSQ := hide hq2
 have HIH := hide ih
 have HQW := hide hqW
 obtain ⟨w2, hw2⟩ : ∃ w2, ((W.alloc (.cells #[.int .i64 wd, .bool b] 60)).alloc (.cells #[.int .i64 4, .int .i64 n, .bool f, .slice A len cap] 24)).alloc (.cells #[.int .i64 x, .bool false, .bool false, .slice A2 n2 c2] 31) = w2 := ⟨_, rfl⟩
 obtain ⟨hqq, hs2, hd, hc, hx⟩ := box3 hw2
 have hb0 : W.heap.size < w2.heap.size := by omega
 have hb1 : W.heap.size + 1 < w2.heap.size := by omega
 have hb2 : W.heap.size + 2 < w2.heap.size := by omega
 have KA := hide fun X (hX : Q w2 X) => (cs42 hX hb1 hc hb0 hd : Cs42 X (W.heap.size + 1) (.int .i64 4) (.int .i64 n) (.bool f) (.slice A len cap) W.heap.size (.int .i64 wd) (.bool b))
 have KX := hide fun X (hX : Q w2 X) => (cs4 hX hb2 hx : Cs4 X (W.heap.size + 2) (.int .i64 x) (.bool false) (.bool false) (.slice A2 n2 c2))
 have HW2 := hide hw2
 have HQ2 := hide hqq
 have HWQ := hide (hqW.trans hqq)
 have hlen1 : len = 1 := by
  have h8 := hv.kind.2.2.1
  unfold numL at h8
  rw [if_pos (.inl rfl), decide_eq_true_eq] at h8
  exact HSL.out.len.symm.trans h8
 obtain ⟨e1, he1⟩ : ∃ e, (x == 0) = e := ⟨_, rfl⟩
 obtain ⟨e2, he2⟩ : ∃ e, ((n2 : Int) == 1) = e := ⟨_, rfl⟩
 have RES0 := hide (cellC_4 (wd := wd) (l := .mk 4 n f A len cap ps) (n := x) (fs := qs.map (Cel.isC wd)) (us := qs.map Cel.und) (rfl : false = false) (rfl : false = false) hk)
 rw [hql, he1, he2] at RES0
 have HE1 := hide he1
 have HE2 := hide he2
 cases e1 with
 | false =>
  have RES : Hid (cellC wd (.mk 4 n f A len cap ps) x false false (qs.map (Cel.isC wd)) (qs.map Cel.und) = false) := hide (by rw [RES0.out]; rfl)
  clear hlen1 he1 he2 hv hl hq2 ih hqW hw2 hd hc hx hqq hql hk
  obtain ⟨k0, k1, k2, k3, t0, t1⟩ := KA.out w2 (Q.refl _)
  obtain ⟨c0, c1, c2', c3⟩ := KX.out w2 (Q.refl _)
  go_enter Try.func45, Try.ntmps45
  go_upto_region 1 with fail
  rw [HW2.out]
  go_upto_region 9 with fail
  clear k0 k1 k2 k3 t0 t1 c0 c1 c2' c3
  refine Ri.madeZ (C := fun W0 => Q w2 W0) [] [0, 1, 2, 3, 4, 5, 6, 7, 8, 9, 10, 11, 12, 13, 14, 15, 16, 17, 18, 19, 20, 21] (fun w1 w3 X hq => X.trans hq) (Ri.phi [Ri.isV (.pointer (some ⟨W.heap.size + 2, 0, none⟩)), Ri.isV (.int .i64 x), Ri.isV (.bool false), Ri.isV (.bool false), Ri.isV (undef), Ri.isV (undef), Ri.isV (undef), Ri.isV (undef), Ri.isV (.bool false), Ri.isV (.bool false), Ri.isV (undef), Ri.isV (undef), Ri.isV (undef), Ri.isV (undef), Ri.isV (undef), Ri.isV (undef), Ri.isV (undef), Ri.isV (undef), Ri.isV (undef), Ri.isV (undef), Ri.isV (.bool false), Ri.isV (.bool false)]) (by kernel_rfl) (by kernel_rfl) (by kernel_rfl) ((Q.refl _).drew) (Ri.phi_mono ?_) (Ri.phi_fix ?_) ?_ ?_
  ·repeat' first | exact trivial | exact fun _ _ _ h _ => h | refine ⟨?_, ?_⟩
  ·repeat' first | exact trivial | exact fun _ _ _ _ h => h | refine ⟨?_, ?_⟩
  ·refine Ri.All.cons ?_ (.cons ?_ (.cons ?_ (.cons ?_ (.cons ?_ (.cons ?_ (.cons ?_ (.cons ?_ (.cons ?_ (.cons ?_ (.cons ?_ (.cons ?_ (.cons ?_ (.cons ?_ (.cons ?_ (.cons ?_ (.cons ?_ (.cons ?_ (.cons ?_ (.cons ?_ (.cons ?_ (.cons ?_ (Ri.All.nil))))))))))))))))))))))
   ·refine Ri.StepZ.q (h := fun f0 W9 hq hf Ac hA hB hO => ?_)
    have e1 := (hB 5).trans (show _ = .pointer (some ⟨W.heap.size + 2, 0, none⟩) by simp [Act.eval])
    exact Ri.wp_value _ (Ri.run_fld (f := _) rfl e1 Try.underlying31 rfl (sz := 0) (by kernel_rfl)) rfl
   ·refine Ri.StepZ.q (h := fun f0 W9 hq hf Ac hA hB hO => ?_)
    have e1 := (hA 59 0).trans (hf 0)
    exact Ri.wp_value _ (Ri.run_ld1 rfl e1 Try.underlying3 rfl ((KX.out W9 hq).1)) rfl
   ·refine Ri.StepZ.q (h := fun f0 W9 hq hf Ac hA hB hO => ?_)
    have e1 := (hA 60 1).trans (hf 1)
    have e2 : Ac.eval (.const (.int .i64 0)) = .int .i64 0 := rfl
    exact Ri.wp_value _ ((Ri.run_eqlC rfl e1 e2 Try.underlying3).trans (by rw [HE1.out])) rfl
   ·refine Ri.StepZ.q (h := fun f0 W9 hq hf Ac hA hB hO => ?_)
    have e1 := (hA 61 2).trans (hf 2)
    exact Ri.wp_value _ (Ri.run_mv rfl e1) rfl
   iterate 4 · refine Ri.StepZ.off rfl rfl (by simp) fun f0 W9 hq hf => ⟨hf 3, rfl⟩
   ·refine Ri.StepZ.q (h := fun f0 W9 hq hf Ac hA hB hO => ?_)
    have e1 := (hA 62 3).trans (hf 3)
    exact Ri.wp_value _ (Ri.run_pick rfl e1 (by simp [Act.eval])) rfl
   ·refine Ri.StepZ.q (h := fun f0 W9 hq hf Ac hA hB hO => ?_)
    have e1 := (hA 67 8).trans (hf 8)
    exact Ri.wp_value _ (Ri.run_mv rfl e1) rfl
   iterate 10 · refine Ri.StepZ.off rfl rfl (by simp) fun f0 W9 hq hf => ⟨hf 9, rfl⟩
   ·refine Ri.StepZ.q (h := fun f0 W9 hq hf Ac hA hB hO => ?_)
    have e1 := (hA 68 9).trans (hf 9)
    exact Ri.wp_value _ (Ri.run_pick rfl e1 (by simp [Act.eval])) rfl
   ·refine Ri.StepZ.q (h := fun f0 W9 hq hf Ac hA hB hO => ?_)
    have e1 := (hA 79 20).trans (hf 20)
    exact Ri.wp_value _ (Ri.run_asg rfl e1) rfl
  ·intro f0 w8 hq8 hf
   have hl9 := hf 21 (by simp) (by kernel_rfl)
   simp only [Ri.phi, List.getD_cons_zero, List.getD_cons_succ, Ri.isV] at hl9
   simp only [Ri.acts, Act.put, List.setIfInBounds_toArray, List.set_cons_zero, List.set_cons_succ, Nat.zero_add, Nat.reduceAdd]
   rw [hl9]
   have HQ8 := hide (HQ2.out.trans hq8)
   clear hf hl9 hq8
   go_wp2_with fail
   go_ret
   exact ⟨by rw [RES.out] <;> rfl, HQ8.out⟩
 | true =>
  cases e2 with
  | false =>
   have RES : Hid (cellC wd (.mk 4 n f A len cap ps) x false false (qs.map (Cel.isC wd)) (qs.map Cel.und) = false) := hide (by rw [RES0.out]; rfl)
   clear hlen1 he1 he2 hv hl hq2 ih hqW hw2 hd hc hx hqq hql hk
   obtain ⟨k0, k1, k2, k3, t0, t1⟩ := KA.out w2 (Q.refl _)
   obtain ⟨c0, c1, c2', c3⟩ := KX.out w2 (Q.refl _)
   go_enter Try.func45, Try.ntmps45
   go_upto_region 1 with fail
   rw [HW2.out]
   go_upto_region 9 with fail
   clear k0 k1 k2 k3 t0 t1 c0 c1 c2' c3
   refine Ri.madeZ (C := fun W0 => Q w2 W0) [] [0, 1, 2, 3, 4, 5, 6, 7, 8, 9, 10, 11, 12, 13, 14, 15, 16, 17, 18, 19, 20, 21] (fun w1 w3 X hq => X.trans hq) (Ri.phi [Ri.isV (.pointer (some ⟨W.heap.size + 2, 0, none⟩)), Ri.isV (.int .i64 x), Ri.isV (.bool true), Ri.isV (.bool true), Ri.isV (.pointer (some ⟨W.heap.size + 2, 3, none⟩)), Ri.isV (.slice A2 n2 c2), Ri.isV (.int .i64 (n2 : Nat)), Ri.isV (.bool false), Ri.isV (.bool false), Ri.isV (.bool false), Ri.isV (undef), Ri.isV (undef), Ri.isV (undef), Ri.isV (undef), Ri.isV (undef), Ri.isV (undef), Ri.isV (undef), Ri.isV (undef), Ri.isV (undef), Ri.isV (undef), Ri.isV (.bool false), Ri.isV (.bool false)]) (by kernel_rfl) (by kernel_rfl) (by kernel_rfl) ((Q.refl _).drew) (Ri.phi_mono ?_) (Ri.phi_fix ?_) ?_ ?_
   ·repeat' first | exact trivial | exact fun _ _ _ h _ => h | refine ⟨?_, ?_⟩
   ·repeat' first | exact trivial | exact fun _ _ _ _ h => h | refine ⟨?_, ?_⟩
   ·refine Ri.All.cons ?_ (.cons ?_ (.cons ?_ (.cons ?_ (.cons ?_ (.cons ?_ (.cons ?_ (.cons ?_ (.cons ?_ (.cons ?_ (.cons ?_ (.cons ?_ (.cons ?_ (.cons ?_ (.cons ?_ (.cons ?_ (.cons ?_ (.cons ?_ (.cons ?_ (.cons ?_ (.cons ?_ (.cons ?_ (Ri.All.nil))))))))))))))))))))))
    ·refine Ri.StepZ.q (h := fun f0 W9 hq hf Ac hA hB hO => ?_)
     have e1 := (hB 5).trans (show _ = .pointer (some ⟨W.heap.size + 2, 0, none⟩) by simp [Act.eval])
     exact Ri.wp_value _ (Ri.run_fld (f := _) rfl e1 Try.underlying31 rfl (sz := 0) (by kernel_rfl)) rfl
    ·refine Ri.StepZ.q (h := fun f0 W9 hq hf Ac hA hB hO => ?_)
     have e1 := (hA 59 0).trans (hf 0)
     exact Ri.wp_value _ (Ri.run_ld1 rfl e1 Try.underlying3 rfl ((KX.out W9 hq).1)) rfl
    ·refine Ri.StepZ.q (h := fun f0 W9 hq hf Ac hA hB hO => ?_)
     have e1 := (hA 60 1).trans (hf 1)
     have e2 : Ac.eval (.const (.int .i64 0)) = .int .i64 0 := rfl
     exact Ri.wp_value _ ((Ri.run_eqlC rfl e1 e2 Try.underlying3).trans (by rw [HE1.out])) rfl
    ·refine Ri.StepZ.q (h := fun f0 W9 hq hf Ac hA hB hO => ?_)
     have e1 := (hA 61 2).trans (hf 2)
     exact Ri.wp_value _ (Ri.run_mv rfl e1) rfl
    ·refine Ri.StepZ.gq (by kernel_rfl) rfl rfl (by simp) fun f0 W9 hq hf Ac hA hB hO => ⟨hf 3, ?_⟩
     have e1 := (hB 5).trans (show _ = .pointer (some ⟨W.heap.size + 2, 0, none⟩) by simp [Act.eval])
     exact Ri.wp_value _ (Ri.run_fld (f := _) rfl e1 Try.underlying31 rfl (sz := 0) (by kernel_rfl)) rfl
    ·refine Ri.StepZ.gq (by kernel_rfl) rfl rfl (by simp) fun f0 W9 hq hf Ac hA hB hO => ⟨hf 3, ?_⟩
     have e1 := (hA 63 4).trans (hf 4)
     exact Ri.wp_value _ (Ri.run_ld1 rfl e1 Try.underlying29 rfl ((KX.out W9 hq).2.2.2)) rfl
    ·refine Ri.StepZ.gq (by kernel_rfl) rfl rfl (by simp) fun f0 W9 hq hf Ac hA hB hO => ⟨hf 3, ?_⟩
     have e1 := (hA 64 5).trans (hf 5)
     exact Ri.wp_value _ (Ri.run_lenC rfl e1 Try.underlying29) rfl
    ·refine Ri.StepZ.gq (by kernel_rfl) rfl rfl (by simp) fun f0 W9 hq hf Ac hA hB hO => ⟨hf 3, ?_⟩
     have e1 := (hA 65 6).trans (hf 6)
     have e2 : Ac.eval (.const (.int .i64 1)) = .int .i64 1 := rfl
     exact Ri.wp_value _ ((Ri.run_eqlC rfl e1 e2 Try.underlying3).trans (by rw [HE2.out])) rfl
    ·refine Ri.StepZ.q (h := fun f0 W9 hq hf Ac hA hB hO => ?_)
     have e1 := (hA 62 3).trans (hf 3)
     have e2 := (hA 66 7).trans (hf 7)
     exact Ri.wp_value _ (Ri.run_pick rfl e1 (by simpa [Act.eval] using e2)) rfl
    ·refine Ri.StepZ.q (h := fun f0 W9 hq hf Ac hA hB hO => ?_)
     have e1 := (hA 67 8).trans (hf 8)
     exact Ri.wp_value _ (Ri.run_mv rfl e1) rfl
    iterate 10 · refine Ri.StepZ.off rfl rfl (by simp) fun f0 W9 hq hf => ⟨hf 9, rfl⟩
    ·refine Ri.StepZ.q (h := fun f0 W9 hq hf Ac hA hB hO => ?_)
     have e1 := (hA 68 9).trans (hf 9)
     exact Ri.wp_value _ (Ri.run_pick rfl e1 (by simp [Act.eval])) rfl
    ·refine Ri.StepZ.q (h := fun f0 W9 hq hf Ac hA hB hO => ?_)
     have e1 := (hA 79 20).trans (hf 20)
     exact Ri.wp_value _ (Ri.run_asg rfl e1) rfl
   ·intro f0 w8 hq8 hf
    have hl9 := hf 21 (by simp) (by kernel_rfl)
    simp only [Ri.phi, List.getD_cons_zero, List.getD_cons_succ, Ri.isV] at hl9
    simp only [Ri.acts, Act.put, List.setIfInBounds_toArray, List.set_cons_zero, List.set_cons_succ, Nat.zero_add, Nat.reduceAdd]
    rw [hl9]
    have HQ8 := hide (HQ2.out.trans hq8)
    clear hf hl9 hq8
    go_wp2_with fail
    go_ret
    exact ⟨by rw [RES.out] <;> rfl, HQ8.out⟩
  | true =>
   have hn1 : n2 = 1 := by (have : (n2 : Int) = 1 := by simpa using he2); omega
   have HLQ := hide (show 0 < n2 by omega)
   have HLP := hide (show 0 < len by omega)
   obtain ⟨g2, o2, m2, x2, y2, B2, l2, d2, qq, e, hbq, hxq, v0, v1, v2, v3⟩ := cel_at (HSQ.out.up HWQ.out) (show 0 < n2 by omega)
   cases e
   obtain ⟨q, hqe⟩ : ∃ q, Cel.mk m2 x2 y2 B2 l2 d2 qq = q := ⟨_, rfl⟩
   have hqv : q.v = .agg #[.int .i64 m2, .bool x2, .bool y2, .slice B2 l2 d2] := by rw [← hqe]; rfl
   rw [hqe] at hxq
   have KQ : Hid (∀ X, Q w2 X → X.cell? ⟨g2, o2 + 0 * 4, none⟩ = some (.int .i64 m2) ∧ X.cell? ⟨g2, o2 + 0 * 4 + 1, none⟩ = some (.bool x2) ∧ X.cell? ⟨g2, o2 + 0 * 4 + 2, none⟩ = some (.bool y2) ∧ X.cell? ⟨g2, o2 + 0 * 4 + 3, none⟩ = some (.slice B2 l2 d2)) := hide fun X hX => ⟨(hX.facts.1 _ _ hbq).trans v0, (hX.facts.1 _ _ hbq).trans v1, (hX.facts.1 _ _ hbq).trans v2, (hX.facts.1 _ _ hbq).trans v3⟩
   obtain ⟨g, o, m', x', y', B, l', d', qs1, e, hbp, hxp, z0, z1, z2, z3⟩ := lay_at (HSL.out.up HWQ.out) (show 0 < len by omega)
   cases e
   obtain ⟨p, hpe⟩ : ∃ p, Lay.mk m' x' y' B l' d' qs1 = p := ⟨_, rfl⟩
   have hpv : p.v = .agg #[.int .i64 m', .int .i64 x', .bool y', .slice B l' d'] := by rw [← hpe]; rfl
   rw [hpe] at hxp
   have KP : Hid (∀ X, Q w2 X → X.cell? ⟨g, o + 0 * 4, none⟩ = some (.int .i64 m') ∧ X.cell? ⟨g, o + 0 * 4 + 1, none⟩ = some (.int .i64 x') ∧ X.cell? ⟨g, o + 0 * 4 + 2, none⟩ = some (.bool y') ∧ X.cell? ⟨g, o + 0 * 4 + 3, none⟩ = some (.slice B l' d')) := hide fun X hX => ⟨(hX.facts.1 _ _ hbp).trans z0, (hX.facts.1 _ _ hbp).trans z1, (hX.facts.1 _ _ hbp).trans z2, (hX.facts.1 _ _ hbp).trans z3⟩
   obtain ⟨r, hr⟩ : ∃ r, q.isC wd p = r := ⟨_, rfl⟩
   have HIP := hide (HIH.out q (List.mem_of_getElem? hxq) p (List.mem_of_getElem? hxp))
   rw [hqv, hpv, hr] at HIP
   unfold R1 at HIP
   have RES : Hid (cellC wd (.mk 4 n f (some ⟨g, o, none⟩) len cap ps) x false false (qs.map (Cel.isC wd)) (qs.map Cel.und) = r) := hide (by
    rw [RES0.out]
    have h1 : (qs.map (Cel.isC wd)).headD (fun _ => false) = q.isC wd := by
     cases qs with
     | nil => simp at hxq
     | cons a t => injection hxq with hxq; subst hxq; rfl
    have h2 : ((Lay.mk 4 n f (some ⟨g, o, none⟩) len cap ps).parts[0]?).getD noL = p := by
     show (ps[0]?).getD noL = p
     rw [hxp]
     rfl
    rw [h1, h2, hr]
    rfl)
   clear hlen1 he1 he2 hv hl hq2 ih hqW hw2 hd hc hx hqq hql hk hn1 hbq hxq hqe hqv v0 v1 v2 v3 hbp hxp hpe hpv z0 z1 z2 z3 hr
   obtain ⟨k0, k1, k2, k3, t0, t1⟩ := KA.out w2 (Q.refl _)
   obtain ⟨c0, c1, c2', c3⟩ := KX.out w2 (Q.refl _)
   go_enter Try.func45, Try.ntmps45
   go_upto_region 1 with fail
   rw [HW2.out]
   go_upto_region 9 with fail
   clear k0 k1 k2 k3 t0 t1 c0 c1 c2' c3
   refine Ri.madeZ (C := fun W0 => Q w2 W0) [] [0, 1, 2, 3, 4, 5, 6, 7, 8, 9, 10, 11, 12, 13, 14, 15, 16, 17, 18, 19, 20, 21] (fun w1 w3 X hq => X.trans hq) (Ri.phi [Ri.isV (.pointer (some ⟨W.heap.size + 2, 0, none⟩)), Ri.isV (.int .i64 x), Ri.isV (.bool true), Ri.isV (.bool true), Ri.isV (.pointer (some ⟨W.heap.size + 2, 3, none⟩)), Ri.isV (.slice (some ⟨g2, o2, none⟩) n2 c2), Ri.isV (.int .i64 (n2 : Nat)), Ri.isV (.bool true), Ri.isV (.bool true), Ri.isV (.bool true), Ri.isV (tgW wd b), Ri.isV (.pointer (some ⟨W.heap.size + 1, 3, none⟩)), Ri.isV (.slice (some ⟨g, o, none⟩) len cap), Ri.isV (.pointer (some ⟨g, o + 0 * 4, none⟩)), Ri.isV (.agg #[.int .i64 m', .int .i64 x', .bool y', .slice B l' d']), Ri.isV (.pointer (some ⟨W.heap.size + 2, 3, none⟩)), Ri.isV (.slice (some ⟨g2, o2, none⟩) n2 c2), Ri.isV (.pointer (some ⟨g2, o2 + 0 * 4, none⟩)), Ri.isV (.agg #[.int .i64 m2, .bool x2, .bool y2, .slice B2 l2 d2]), Ri.isV (.bool r), Ri.isV (.bool r), Ri.isV (.bool r)]) (by kernel_rfl) (by kernel_rfl) (by kernel_rfl) ((Q.refl _).drew) (Ri.phi_mono ?_) (Ri.phi_fix ?_) ?_ ?_
   ·repeat' first | exact trivial | exact fun _ _ _ h _ => h | refine ⟨?_, ?_⟩
   ·repeat' first | exact trivial | exact fun _ _ _ _ h => h | refine ⟨?_, ?_⟩
   ·refine Ri.All.cons ?_ (.cons ?_ (.cons ?_ (.cons ?_ (.cons ?_ (.cons ?_ (.cons ?_ (.cons ?_ (.cons ?_ (.cons ?_ (.cons ?_ (.cons ?_ (.cons ?_ (.cons ?_ (.cons ?_ (.cons ?_ (.cons ?_ (.cons ?_ (.cons ?_ (.cons ?_ (.cons ?_ (.cons ?_ (Ri.All.nil))))))))))))))))))))))
    ·refine Ri.StepZ.q (h := fun f0 W9 hq hf Ac hA hB hO => ?_)
     have e1 := (hB 5).trans (show _ = .pointer (some ⟨W.heap.size + 2, 0, none⟩) by simp [Act.eval])
     exact Ri.wp_value _ (Ri.run_fld (f := _) rfl e1 Try.underlying31 rfl (sz := 0) (by kernel_rfl)) rfl
    ·refine Ri.StepZ.q (h := fun f0 W9 hq hf Ac hA hB hO => ?_)
     have e1 := (hA 59 0).trans (hf 0)
     exact Ri.wp_value _ (Ri.run_ld1 rfl e1 Try.underlying3 rfl ((KX.out W9 hq).1)) rfl
    ·refine Ri.StepZ.q (h := fun f0 W9 hq hf Ac hA hB hO => ?_)
     have e1 := (hA 60 1).trans (hf 1)
     have e2 : Ac.eval (.const (.int .i64 0)) = .int .i64 0 := rfl
     exact Ri.wp_value _ ((Ri.run_eqlC rfl e1 e2 Try.underlying3).trans (by rw [HE1.out])) rfl
    ·refine Ri.StepZ.q (h := fun f0 W9 hq hf Ac hA hB hO => ?_)
     have e1 := (hA 61 2).trans (hf 2)
     exact Ri.wp_value _ (Ri.run_mv rfl e1) rfl
    ·refine Ri.StepZ.gq (by kernel_rfl) rfl rfl (by simp) fun f0 W9 hq hf Ac hA hB hO => ⟨hf 3, ?_⟩
     have e1 := (hB 5).trans (show _ = .pointer (some ⟨W.heap.size + 2, 0, none⟩) by simp [Act.eval])
     exact Ri.wp_value _ (Ri.run_fld (f := _) rfl e1 Try.underlying31 rfl (sz := 0) (by kernel_rfl)) rfl
    ·refine Ri.StepZ.gq (by kernel_rfl) rfl rfl (by simp) fun f0 W9 hq hf Ac hA hB hO => ⟨hf 3, ?_⟩
     have e1 := (hA 63 4).trans (hf 4)
     exact Ri.wp_value _ (Ri.run_ld1 rfl e1 Try.underlying29 rfl ((KX.out W9 hq).2.2.2)) rfl
    ·refine Ri.StepZ.gq (by kernel_rfl) rfl rfl (by simp) fun f0 W9 hq hf Ac hA hB hO => ⟨hf 3, ?_⟩
     have e1 := (hA 64 5).trans (hf 5)
     exact Ri.wp_value _ (Ri.run_lenC rfl e1 Try.underlying29) rfl
    ·refine Ri.StepZ.gq (by kernel_rfl) rfl rfl (by simp) fun f0 W9 hq hf Ac hA hB hO => ⟨hf 3, ?_⟩
     have e1 := (hA 65 6).trans (hf 6)
     have e2 : Ac.eval (.const (.int .i64 1)) = .int .i64 1 := rfl
     exact Ri.wp_value _ ((Ri.run_eqlC rfl e1 e2 Try.underlying3).trans (by rw [HE2.out])) rfl
    ·refine Ri.StepZ.q (h := fun f0 W9 hq hf Ac hA hB hO => ?_)
     have e1 := (hA 62 3).trans (hf 3)
     have e2 := (hA 66 7).trans (hf 7)
     exact Ri.wp_value _ (Ri.run_pick rfl e1 (by simpa [Act.eval] using e2)) rfl
    ·refine Ri.StepZ.q (h := fun f0 W9 hq hf Ac hA hB hO => ?_)
     have e1 := (hA 67 8).trans (hf 8)
     exact Ri.wp_value _ (Ri.run_mv rfl e1) rfl
    ·refine Ri.StepZ.gq (by kernel_rfl) rfl rfl (by simp) fun f0 W9 hq hf Ac hA hB hO => ⟨hf 9, ?_⟩
     have e1 := (hB 3).trans (show _ = .pointer (some ⟨W.heap.size, 0, none⟩) by simp [Act.eval])
     obtain ⟨-, -, -, -, u0, u1⟩ := KA.out W9 hq
     exact Ri.wp_value _ (Ri.run_ldagg (cs := [.int .i64 wd, .bool b]) rfl e1 (c2L u0 u1) Try.underlying60 rfl (by kernel_rfl)) rfl
    ·refine Ri.StepZ.gq (by kernel_rfl) rfl rfl (by simp) fun f0 W9 hq hf Ac hA hB hO => ⟨hf 9, ?_⟩
     have e1 := (hB 4).trans (show _ = .pointer (some ⟨W.heap.size + 1, 0, none⟩) by simp [Act.eval])
     exact Ri.wp_value _ (Ri.run_fld (f := _) rfl e1 Try.underlying24 rfl (sz := 0) (by kernel_rfl)) rfl
    ·refine Ri.StepZ.gq (by kernel_rfl) rfl rfl (by simp) fun f0 W9 hq hf Ac hA hB hO => ⟨hf 9, ?_⟩
     have e1 := (hA 70 11).trans (hf 11)
     exact Ri.wp_value _ (Ri.run_ld1 rfl e1 Try.underlying22 rfl ((KA.out W9 hq).2.2.2.1)) rfl
    ·refine Ri.StepZ.gq (by kernel_rfl) rfl rfl (by simp) fun f0 W9 hq hf Ac hA hB hO => ⟨hf 9, ?_⟩
     have e1 := (hA 71 12).trans (hf 12)
     have e2 : Ac.eval (.const (.int .i64 0)) = .int .i64 ((0 : Nat) : Int) := rfl
     exact Ri.wp_value _ (Ri.run_idx rfl e1 e2 Try.underlying22 (sz := 4) (by kernel_rfl) HLP.out) rfl
    ·refine Ri.StepZ.gq (by kernel_rfl) rfl rfl (by simp) fun f0 W9 hq hf Ac hA hB hO => ⟨hf 9, ?_⟩
     have e1 := (hA 72 13).trans (hf 13)
     obtain ⟨b0, b1, b2, b3⟩ := KP.out W9 hq
     exact Ri.wp_value _ (Ri.run_ldagg rfl e1 (c4G b0 b1 b2 b3) Try.underlying24 rfl (by kernel_rfl)) rfl
    ·refine Ri.StepZ.gq (by kernel_rfl) rfl rfl (by simp) fun f0 W9 hq hf Ac hA hB hO => ⟨hf 9, ?_⟩
     have e1 := (hB 5).trans (show _ = .pointer (some ⟨W.heap.size + 2, 0, none⟩) by simp [Act.eval])
     exact Ri.wp_value _ (Ri.run_fld (f := _) rfl e1 Try.underlying31 rfl (sz := 0) (by kernel_rfl)) rfl
    ·refine Ri.StepZ.gq (by kernel_rfl) rfl rfl (by simp) fun f0 W9 hq hf Ac hA hB hO => ⟨hf 9, ?_⟩
     have e1 := (hA 74 15).trans (hf 15)
     exact Ri.wp_value _ (Ri.run_ld1 rfl e1 Try.underlying29 rfl ((KX.out W9 hq).2.2.2)) rfl
    ·refine Ri.StepZ.gq (by kernel_rfl) rfl rfl (by simp) fun f0 W9 hq hf Ac hA hB hO => ⟨hf 9, ?_⟩
     have e1 := (hA 75 16).trans (hf 16)
     have e2 : Ac.eval (.const (.int .i64 0)) = .int .i64 ((0 : Nat) : Int) := rfl
     exact Ri.wp_value _ (Ri.run_idx rfl e1 e2 Try.underlying29 (sz := 4) (by kernel_rfl) HLQ.out) rfl
    ·refine Ri.StepZ.gq (by kernel_rfl) rfl rfl (by simp) fun f0 W9 hq hf Ac hA hB hO => ⟨hf 9, ?_⟩
     have e1 := (hA 76 17).trans (hf 17)
     obtain ⟨b0, b1, b2, b3⟩ := KQ.out W9 hq
     exact Ri.wp_value _ (Ri.run_ldagg rfl e1 (c4G b0 b1 b2 b3) Try.underlying31 rfl (by kernel_rfl)) rfl
    ·refine Ri.StepZ.gq (by kernel_rfl) rfl rfl (by simp) fun f0 W9 hq hf Ac hA hB hO => ⟨hf 9, ?_⟩
     have e1 := (hA 69 10).trans (hf 10)
     have e2 := (hA 73 14).trans (hf 14)
     have e3 := (hA 77 18).trans (hf 18)
     refine Ri.wp_call #[tgW wd b, .agg #[.int .i64 m', .int .i64 x', .bool y', .slice B l' d'], .agg #[.int .i64 m2, .bool x2, .bool y2, .slice B2 l2 d2]] rfl (by simp [e1, e2, e3]) Try.func45 (by kernel_rfl) (by kernel_rfl) ((HIP.out W9 (HWQ.out.trans hq)).mono ?_)
     rintro e w9 ⟨rfl, h1⟩
     exact ⟨_, rfl, h1, rfl⟩
    ·refine Ri.StepZ.q (h := fun f0 W9 hq hf Ac hA hB hO => ?_)
     have e1 := (hA 68 9).trans (hf 9)
     have e2 := (hA 78 19).trans (hf 19)
     exact Ri.wp_value _ (Ri.run_pick rfl e1 (by simpa [Act.eval] using e2)) rfl
    ·refine Ri.StepZ.q (h := fun f0 W9 hq hf Ac hA hB hO => ?_)
     have e1 := (hA 79 20).trans (hf 20)
     exact Ri.wp_value _ (Ri.run_asg rfl e1) rfl
   ·intro f0 w8 hq8 hf
    have hl9 := hf 21 (by simp) (by kernel_rfl)
    simp only [Ri.phi, List.getD_cons_zero, List.getD_cons_succ, Ri.isV] at hl9
    simp only [Ri.acts, Act.put, List.setIfInBounds_toArray, List.set_cons_zero, List.set_cons_succ, Nat.zero_add, Nat.reduceAdd]
    rw [hl9]
    have HQ8 := hide (HQ2.out.trans hq8)
    clear hf hl9 hq8
    go_wp2_with fail
    go_ret
    exact ⟨by rw [RES.out] <;> rfl, HQ8.out⟩
theorem isCell_8 {w : World} {k n : Int} {f : Bool} {A : Option Addr} {len cap : Nat} {ps : List Lay} (hl : LayR w (.mk k n f A len cap ps)) (hv : VL (.mk k n f A len cap ps)) (hcnt : (Lay.mk k n f A len cap ps).count ≤ 1048576) (wd : Int) (hw : okW wd) (b : Bool) {x : Int} {nul und : Bool} {A2 : Option Addr} {n2 c2 : Nat} {qs : List Cel} (hq2 : Sl 4 encC w A2 n2 c2 qs) (hn2 : n2 ≤ 140737488351232) (ih : ∀ q ∈ qs, ∀ p ∈ ps, ∀ W, Q w W → Calls Try.prog 45 #[tgW wd b, p.v, q.v] W (R1 W (.bool (q.isC wd p)))) (hu : und = false) (hnl : nul = false) (hk0 : k = 8) : ∀ W, Q w W → Calls Try.prog 45 #[tgW wd b, .agg #[.int .i64 k, .int .i64 n, .bool f, .slice A len cap], .agg #[.int .i64 x, .bool nul, .bool und, .slice A2 n2 c2]] W (R1 W (.bool (cellC wd (.mk k n f A len cap ps) x nul und (qs.map (Cel.isC wd)) (qs.map Cel.und)))) := by
 intro W hqW
 unfold R1
 have hk : (Lay.mk k n f A len cap ps).k = k := rfl
 have hql : ((qs.map (Cel.isC wd)).length : Int) = (n2 : Int) := by rw [List.length_map, hq2.len]
 subst hu hnl hk0
 have HSL : Hid (Sl 4 encL w A len cap ps) := by cases hl with | @mk _ _ _ _ _ _ _ hk hn hsl hnil hcap hall => exact hide hsl
 have hlb : (len : Int) ≤ 140737488351232 := by cases hl with | @mk _ _ _ _ _ _ _ hk hn hsl hnil hcap hall => omega
 have H := hide hl
 have HV := hide hv
 have HSQ := hide hq2
 have HIH := hide ih
 have HQW := hide hqW
 obtain ⟨w2, hw2⟩ : ∃ w2, ((W.alloc (.cells #[.int .i64 wd, .bool b] 60)).alloc (.cells #[.int .i64 8, .int .i64 n, .bool f, .slice A len cap] 24)).alloc (.cells #[.int .i64 x, .bool false, .bool false, .slice A2 n2 c2] 31) = w2 := ⟨_, rfl⟩
 obtain ⟨hqq, hs2, hd, hc, hx⟩ := box3 hw2
 have hb0 : W.heap.size < w2.heap.size := by omega
 have hb1 : W.heap.size + 1 < w2.heap.size := by omega
 have hb2 : W.heap.size + 2 < w2.heap.size := by omega
 have KA := hide fun X (hX : Q w2 X) => (cs42 hX hb1 hc hb0 hd : Cs42 X (W.heap.size + 1) (.int .i64 8) (.int .i64 n) (.bool f) (.slice A len cap) W.heap.size (.int .i64 wd) (.bool b))
 have KX := hide fun X (hX : Q w2 X) => (cs4 hX hb2 hx : Cs4 X (W.heap.size + 2) (.int .i64 x) (.bool false) (.bool false) (.slice A2 n2 c2))
 have HW2 := hide hw2
 have HQ2 := hide hqq
 have HWQ := hide (hqW.trans hqq)
 have hpl : ((Lay.mk 8 n f A len cap ps).parts.length : Int) = (len : Int) := by
  have := HSL.out.len
  show (ps.length : Int) = len
  omega
 obtain ⟨e1, he1⟩ : ∃ e, decide (0 ≤ x) = e := ⟨_, rfl⟩
 obtain ⟨e2, he2⟩ : ∃ e, decide (x < (len : Int)) = e := ⟨_, rfl⟩
 obtain ⟨e3, he3⟩ : ∃ e, ((n2 : Int) == 1) = e := ⟨_, rfl⟩
 have RES0 := hide (cellC_8 (wd := wd) (l := .mk 8 n f A len cap ps) (n := x) (fs := qs.map (Cel.isC wd)) (us := qs.map Cel.und) (rfl : false = false) (rfl : false = false) hk)
 rw [hql, hpl, he1, he2, he3] at RES0
 have HE1 := hide he1
 have HE2 := hide he2
 have HE3 := hide he3
 clear hpl
 cases e1 with
 | false =>
  have RES : Hid (cellC wd (.mk 8 n f A len cap ps) x false false (qs.map (Cel.isC wd)) (qs.map Cel.und) = false) := hide (by rw [RES0.out]; rfl)
  clear he1 he2 he3 hv hl hq2 ih hqW hw2 hd hc hx hqq hql hk
  obtain ⟨k0, k1, k2, k3, t0, t1⟩ := KA.out w2 (Q.refl _)
  obtain ⟨c0, c1, c2', c3⟩ := KX.out w2 (Q.refl _)
  go_enter Try.func45, Try.ntmps45
  go_upto_region 1 with fail
  rw [HW2.out]
  go_upto_region 11 with fail
  clear k0 k1 k2 k3 t0 t1 c0 c1 c2' c3
  refine Ri.madeZ (C := fun W0 => Q w2 W0) [] [0, 1, 2, 3, 4, 5, 6, 7, 8, 9, 10, 11, 12, 13, 14, 15, 16, 17, 18, 19, 20, 21, 22, 23, 24, 25, 26, 27, 28, 29, 30, 31] (fun w1 w3 X hq => X.trans hq) (Ri.phi [Ri.isV (.pointer (some ⟨W.heap.size + 2, 0, none⟩)), Ri.isV (.int .i64 x), Ri.isV (.bool false), Ri.isV (.bool false), Ri.isV (undef), Ri.isV (undef), Ri.isV (undef), Ri.isV (undef), Ri.isV (undef), Ri.isV (undef), Ri.isV (.bool false), Ri.isV (.bool false), Ri.isV (undef), Ri.isV (undef), Ri.isV (undef), Ri.isV (undef), Ri.isV (.bool false), Ri.isV (.bool false), Ri.isV (undef), Ri.isV (undef), Ri.isV (undef), Ri.isV (undef), Ri.isV (undef), Ri.isV (undef), Ri.isV (undef), Ri.isV (undef), Ri.isV (undef), Ri.isV (undef), Ri.isV (undef), Ri.isV (undef), Ri.isV (.bool false), Ri.isV (.bool false)]) (by kernel_rfl) (by kernel_rfl) (by kernel_rfl) ((Q.refl _).drew) (Ri.phi_mono ?_) (Ri.phi_fix ?_) ?_ ?_
  ·repeat' first | exact trivial | exact fun _ _ _ h _ => h | refine ⟨?_, ?_⟩
  ·repeat' first | exact trivial | exact fun _ _ _ _ h => h | refine ⟨?_, ?_⟩
  ·refine Ri.All.cons ?_ (.cons ?_ (.cons ?_ (.cons ?_ (.cons ?_ (.cons ?_ (.cons ?_ (.cons ?_ (.cons ?_ (.cons ?_ (.cons ?_ (.cons ?_ (.cons ?_ (.cons ?_ (.cons ?_ (.cons ?_ (.cons ?_ (.cons ?_ (.cons ?_ (.cons ?_ (.cons ?_ (.cons ?_ (.cons ?_ (.cons ?_ (.cons ?_ (.cons ?_ (.cons ?_ (.cons ?_ (.cons ?_ (.cons ?_ (.cons ?_ (.cons ?_ (Ri.All.nil))))))))))))))))))))))))))))))))
   ·refine Ri.StepZ.q (h := fun f0 W9 hq hf Ac hA hB hO => ?_)
    have e1 := (hB 5).trans (show _ = .pointer (some ⟨W.heap.size + 2, 0, none⟩) by simp [Act.eval])
    exact Ri.wp_value _ (Ri.run_fld (f := _) rfl e1 Try.underlying31 rfl (sz := 0) (by kernel_rfl)) rfl
   ·refine Ri.StepZ.q (h := fun f0 W9 hq hf Ac hA hB hO => ?_)
    have e1 := (hA 82 0).trans (hf 0)
    exact Ri.wp_value _ (Ri.run_ld1 rfl e1 Try.underlying3 rfl ((KX.out W9 hq).1)) rfl
   ·refine Ri.StepZ.q (h := fun f0 W9 hq hf Ac hA hB hO => ?_)
    have e1 := (hA 83 1).trans (hf 1)
    have e2 : Ac.eval (.const (.int .i64 0)) = .int .i64 0 := rfl
    exact Ri.wp_value _ ((Ri.run_geqJ rfl e1 e2 Try.underlying3).trans (by rw [HE1.out])) rfl
   ·refine Ri.StepZ.q (h := fun f0 W9 hq hf Ac hA hB hO => ?_)
    have e1 := (hA 84 2).trans (hf 2)
    exact Ri.wp_value _ (Ri.run_mv rfl e1) rfl
   iterate 6 · refine Ri.StepZ.off rfl rfl (by simp) fun f0 W9 hq hf => ⟨hf 3, rfl⟩
   ·refine Ri.StepZ.q (h := fun f0 W9 hq hf Ac hA hB hO => ?_)
    have e1 := (hA 85 3).trans (hf 3)
    exact Ri.wp_value _ (Ri.run_pick rfl e1 (by simp [Act.eval])) rfl
   ·refine Ri.StepZ.q (h := fun f0 W9 hq hf Ac hA hB hO => ?_)
    have e1 := (hA 92 10).trans (hf 10)
    exact Ri.wp_value _ (Ri.run_mv rfl e1) rfl
   iterate 4 · refine Ri.StepZ.off rfl rfl (by simp) fun f0 W9 hq hf => ⟨hf 11, rfl⟩
   ·refine Ri.StepZ.q (h := fun f0 W9 hq hf Ac hA hB hO => ?_)
    have e1 := (hA 93 11).trans (hf 11)
    exact Ri.wp_value _ (Ri.run_pick rfl e1 (by simp [Act.eval])) rfl
   ·refine Ri.StepZ.q (h := fun f0 W9 hq hf Ac hA hB hO => ?_)
    have e1 := (hA 98 16).trans (hf 16)
    exact Ri.wp_value _ (Ri.run_mv rfl e1) rfl
   iterate 12 · refine Ri.StepZ.off rfl rfl (by simp) fun f0 W9 hq hf => ⟨hf 17, rfl⟩
   ·refine Ri.StepZ.q (h := fun f0 W9 hq hf Ac hA hB hO => ?_)
    have e1 := (hA 99 17).trans (hf 17)
    exact Ri.wp_value _ (Ri.run_pick rfl e1 (by simp [Act.eval])) rfl
   ·refine Ri.StepZ.q (h := fun f0 W9 hq hf Ac hA hB hO => ?_)
    have e1 := (hA 112 30).trans (hf 30)
    exact Ri.wp_value _ (Ri.run_asg rfl e1) rfl
  ·intro f0 w8 hq8 hf
   have hl9 := hf 31 (by simp) (by kernel_rfl)
   simp only [Ri.phi, List.getD_cons_zero, List.getD_cons_succ, Ri.isV] at hl9
   simp only [Ri.acts, Act.put, List.setIfInBounds_toArray, List.set_cons_zero, List.set_cons_succ, Nat.zero_add, Nat.reduceAdd]
   rw [hl9]
   have HQ8 := hide (HQ2.out.trans hq8)
   clear hf hl9 hq8
   go_wp2_with fail
   go_ret
   exact ⟨by rw [RES.out] <;> rfl, HQ8.out⟩
 | true =>
  cases e2 with
  | false =>
   have RES : Hid (cellC wd (.mk 8 n f A len cap ps) x false false (qs.map (Cel.isC wd)) (qs.map Cel.und) = false) := hide (by rw [RES0.out]; rfl)
   clear he1 he2 he3 hv hl hq2 ih hqW hw2 hd hc hx hqq hql hk
   obtain ⟨k0, k1, k2, k3, t0, t1⟩ := KA.out w2 (Q.refl _)
   obtain ⟨c0, c1, c2', c3⟩ := KX.out w2 (Q.refl _)
   go_enter Try.func45, Try.ntmps45
   go_upto_region 1 with fail
   rw [HW2.out]
   go_upto_region 11 with fail
   clear k0 k1 k2 k3 t0 t1 c0 c1 c2' c3
   refine Ri.madeZ (C := fun W0 => Q w2 W0) [] [0, 1, 2, 3, 4, 5, 6, 7, 8, 9, 10, 11, 12, 13, 14, 15, 16, 17, 18, 19, 20, 21, 22, 23, 24, 25, 26, 27, 28, 29, 30, 31] (fun w1 w3 X hq => X.trans hq) (Ri.phi [Ri.isV (.pointer (some ⟨W.heap.size + 2, 0, none⟩)), Ri.isV (.int .i64 x), Ri.isV (.bool true), Ri.isV (.bool true), Ri.isV (.pointer (some ⟨W.heap.size + 2, 0, none⟩)), Ri.isV (.int .i64 x), Ri.isV (.pointer (some ⟨W.heap.size + 1, 3, none⟩)), Ri.isV (.slice A len cap), Ri.isV (.int .i64 (len : Nat)), Ri.isV (.bool false), Ri.isV (.bool false), Ri.isV (.bool false), Ri.isV (undef), Ri.isV (undef), Ri.isV (undef), Ri.isV (undef), Ri.isV (.bool false), Ri.isV (.bool false), Ri.isV (undef), Ri.isV (undef), Ri.isV (undef), Ri.isV (undef), Ri.isV (undef), Ri.isV (undef), Ri.isV (undef), Ri.isV (undef), Ri.isV (undef), Ri.isV (undef), Ri.isV (undef), Ri.isV (undef), Ri.isV (.bool false), Ri.isV (.bool false)]) (by kernel_rfl) (by kernel_rfl) (by kernel_rfl) ((Q.refl _).drew) (Ri.phi_mono ?_) (Ri.phi_fix ?_) ?_ ?_
   ·repeat' first | exact trivial | exact fun _ _ _ h _ => h | refine ⟨?_, ?_⟩
   ·repeat' first | exact trivial | exact fun _ _ _ _ h => h | refine ⟨?_, ?_⟩
   ·refine Ri.All.cons ?_ (.cons ?_ (.cons ?_ (.cons ?_ (.cons ?_ (.cons ?_ (.cons ?_ (.cons ?_ (.cons ?_ (.cons ?_ (.cons ?_ (.cons ?_ (.cons ?_ (.cons ?_ (.cons ?_ (.cons ?_ (.cons ?_ (.cons ?_ (.cons ?_ (.cons ?_ (.cons ?_ (.cons ?_ (.cons ?_ (.cons ?_ (.cons ?_ (.cons ?_ (.cons ?_ (.cons ?_ (.cons ?_ (.cons ?_ (.cons ?_ (.cons ?_ (Ri.All.nil))))))))))))))))))))))))))))))))
    ·refine Ri.StepZ.q (h := fun f0 W9 hq hf Ac hA hB hO => ?_)
     have e1 := (hB 5).trans (show _ = .pointer (some ⟨W.heap.size + 2, 0, none⟩) by simp [Act.eval])
     exact Ri.wp_value _ (Ri.run_fld (f := _) rfl e1 Try.underlying31 rfl (sz := 0) (by kernel_rfl)) rfl
    ·refine Ri.StepZ.q (h := fun f0 W9 hq hf Ac hA hB hO => ?_)
     have e1 := (hA 82 0).trans (hf 0)
     exact Ri.wp_value _ (Ri.run_ld1 rfl e1 Try.underlying3 rfl ((KX.out W9 hq).1)) rfl
    ·refine Ri.StepZ.q (h := fun f0 W9 hq hf Ac hA hB hO => ?_)
     have e1 := (hA 83 1).trans (hf 1)
     have e2 : Ac.eval (.const (.int .i64 0)) = .int .i64 0 := rfl
     exact Ri.wp_value _ ((Ri.run_geqJ rfl e1 e2 Try.underlying3).trans (by rw [HE1.out])) rfl
    ·refine Ri.StepZ.q (h := fun f0 W9 hq hf Ac hA hB hO => ?_)
     have e1 := (hA 84 2).trans (hf 2)
     exact Ri.wp_value _ (Ri.run_mv rfl e1) rfl
    ·refine Ri.StepZ.gq (by kernel_rfl) rfl rfl (by simp) fun f0 W9 hq hf Ac hA hB hO => ⟨hf 3, ?_⟩
     have e1 := (hB 5).trans (show _ = .pointer (some ⟨W.heap.size + 2, 0, none⟩) by simp [Act.eval])
     exact Ri.wp_value _ (Ri.run_fld (f := _) rfl e1 Try.underlying31 rfl (sz := 0) (by kernel_rfl)) rfl
    ·refine Ri.StepZ.gq (by kernel_rfl) rfl rfl (by simp) fun f0 W9 hq hf Ac hA hB hO => ⟨hf 3, ?_⟩
     have e1 := (hA 86 4).trans (hf 4)
     exact Ri.wp_value _ (Ri.run_ld1 rfl e1 Try.underlying3 rfl ((KX.out W9 hq).1)) rfl
    ·refine Ri.StepZ.gq (by kernel_rfl) rfl rfl (by simp) fun f0 W9 hq hf Ac hA hB hO => ⟨hf 3, ?_⟩
     have e1 := (hB 4).trans (show _ = .pointer (some ⟨W.heap.size + 1, 0, none⟩) by simp [Act.eval])
     exact Ri.wp_value _ (Ri.run_fld (f := _) rfl e1 Try.underlying24 rfl (sz := 0) (by kernel_rfl)) rfl
    ·refine Ri.StepZ.gq (by kernel_rfl) rfl rfl (by simp) fun f0 W9 hq hf Ac hA hB hO => ⟨hf 3, ?_⟩
     have e1 := (hA 88 6).trans (hf 6)
     exact Ri.wp_value _ (Ri.run_ld1 rfl e1 Try.underlying22 rfl ((KA.out W9 hq).2.2.2.1)) rfl
    ·refine Ri.StepZ.gq (by kernel_rfl) rfl rfl (by simp) fun f0 W9 hq hf Ac hA hB hO => ⟨hf 3, ?_⟩
     have e1 := (hA 89 7).trans (hf 7)
     exact Ri.wp_value _ (Ri.run_lenC rfl e1 Try.underlying22) rfl
    ·refine Ri.StepZ.gq (by kernel_rfl) rfl rfl (by simp) fun f0 W9 hq hf Ac hA hB hO => ⟨hf 3, ?_⟩
     have e1 := (hA 87 5).trans (hf 5)
     have e2 := (hA 90 8).trans (hf 8)
     exact Ri.wp_value _ ((Ri.run_lssC rfl e1 e2 Try.underlying3).trans (by rw [HE2.out])) rfl
    ·refine Ri.StepZ.q (h := fun f0 W9 hq hf Ac hA hB hO => ?_)
     have e1 := (hA 85 3).trans (hf 3)
     have e2 := (hA 91 9).trans (hf 9)
     exact Ri.wp_value _ (Ri.run_pick rfl e1 (by simpa [Act.eval] using e2)) rfl
    ·refine Ri.StepZ.q (h := fun f0 W9 hq hf Ac hA hB hO => ?_)
     have e1 := (hA 92 10).trans (hf 10)
     exact Ri.wp_value _ (Ri.run_mv rfl e1) rfl
    iterate 4 · refine Ri.StepZ.off rfl rfl (by simp) fun f0 W9 hq hf => ⟨hf 11, rfl⟩
    ·refine Ri.StepZ.q (h := fun f0 W9 hq hf Ac hA hB hO => ?_)
     have e1 := (hA 93 11).trans (hf 11)
     exact Ri.wp_value _ (Ri.run_pick rfl e1 (by simp [Act.eval])) rfl
    ·refine Ri.StepZ.q (h := fun f0 W9 hq hf Ac hA hB hO => ?_)
     have e1 := (hA 98 16).trans (hf 16)
     exact Ri.wp_value _ (Ri.run_mv rfl e1) rfl
    iterate 12 · refine Ri.StepZ.off rfl rfl (by simp) fun f0 W9 hq hf => ⟨hf 17, rfl⟩
    ·refine Ri.StepZ.q (h := fun f0 W9 hq hf Ac hA hB hO => ?_)
     have e1 := (hA 99 17).trans (hf 17)
     exact Ri.wp_value _ (Ri.run_pick rfl e1 (by simp [Act.eval])) rfl
    ·refine Ri.StepZ.q (h := fun f0 W9 hq hf Ac hA hB hO => ?_)
     have e1 := (hA 112 30).trans (hf 30)
     exact Ri.wp_value _ (Ri.run_asg rfl e1) rfl
   ·intro f0 w8 hq8 hf
    have hl9 := hf 31 (by simp) (by kernel_rfl)
    simp only [Ri.phi, List.getD_cons_zero, List.getD_cons_succ, Ri.isV] at hl9
    simp only [Ri.acts, Act.put, List.setIfInBounds_toArray, List.set_cons_zero, List.set_cons_succ, Nat.zero_add, Nat.reduceAdd]
    rw [hl9]
    have HQ8 := hide (HQ2.out.trans hq8)
    clear hf hl9 hq8
    go_wp2_with fail
    go_ret
    exact ⟨by rw [RES.out] <;> rfl, HQ8.out⟩
  | true =>
   cases e3 with
   | false =>
    have RES : Hid (cellC wd (.mk 8 n f A len cap ps) x false false (qs.map (Cel.isC wd)) (qs.map Cel.und) = false) := hide (by rw [RES0.out]; rfl)
    clear he1 he2 he3 hv hl hq2 ih hqW hw2 hd hc hx hqq hql hk
    obtain ⟨k0, k1, k2, k3, t0, t1⟩ := KA.out w2 (Q.refl _)
    obtain ⟨c0, c1, c2', c3⟩ := KX.out w2 (Q.refl _)
    go_enter Try.func45, Try.ntmps45
    go_upto_region 1 with fail
    rw [HW2.out]
    go_upto_region 11 with fail
    clear k0 k1 k2 k3 t0 t1 c0 c1 c2' c3
    refine Ri.madeZ (C := fun W0 => Q w2 W0) [] [0, 1, 2, 3, 4, 5, 6, 7, 8, 9, 10, 11, 12, 13, 14, 15, 16, 17, 18, 19, 20, 21, 22, 23, 24, 25, 26, 27, 28, 29, 30, 31] (fun w1 w3 X hq => X.trans hq) (Ri.phi [Ri.isV (.pointer (some ⟨W.heap.size + 2, 0, none⟩)), Ri.isV (.int .i64 x), Ri.isV (.bool true), Ri.isV (.bool true), Ri.isV (.pointer (some ⟨W.heap.size + 2, 0, none⟩)), Ri.isV (.int .i64 x), Ri.isV (.pointer (some ⟨W.heap.size + 1, 3, none⟩)), Ri.isV (.slice A len cap), Ri.isV (.int .i64 (len : Nat)), Ri.isV (.bool true), Ri.isV (.bool true), Ri.isV (.bool true), Ri.isV (.pointer (some ⟨W.heap.size + 2, 3, none⟩)), Ri.isV (.slice A2 n2 c2), Ri.isV (.int .i64 (n2 : Nat)), Ri.isV (.bool false), Ri.isV (.bool false), Ri.isV (.bool false), Ri.isV (undef), Ri.isV (undef), Ri.isV (undef), Ri.isV (undef), Ri.isV (undef), Ri.isV (undef), Ri.isV (undef), Ri.isV (undef), Ri.isV (undef), Ri.isV (undef), Ri.isV (undef), Ri.isV (undef), Ri.isV (.bool false), Ri.isV (.bool false)]) (by kernel_rfl) (by kernel_rfl) (by kernel_rfl) ((Q.refl _).drew) (Ri.phi_mono ?_) (Ri.phi_fix ?_) ?_ ?_
    ·repeat' first | exact trivial | exact fun _ _ _ h _ => h | refine ⟨?_, ?_⟩
    ·repeat' first | exact trivial | exact fun _ _ _ _ h => h | refine ⟨?_, ?_⟩
    ·refine Ri.All.cons ?_ (.cons ?_ (.cons ?_ (.cons ?_ (.cons ?_ (.cons ?_ (.cons ?_ (.cons ?_ (.cons ?_ (.cons ?_ (.cons ?_ (.cons ?_ (.cons ?_ (.cons ?_ (.cons ?_ (.cons ?_ (.cons ?_ (.cons ?_ (.cons ?_ (.cons ?_ (.cons ?_ (.cons ?_ (.cons ?_ (.cons ?_ (.cons ?_ (.cons ?_ (.cons ?_ (.cons ?_ (.cons ?_ (.cons ?_ (.cons ?_ (.cons ?_ (Ri.All.nil))))))))))))))))))))))))))))))))
     ·refine Ri.StepZ.q (h := fun f0 W9 hq hf Ac hA hB hO => ?_)
      have e1 := (hB 5).trans (show _ = .pointer (some ⟨W.heap.size + 2, 0, none⟩) by simp [Act.eval])
      exact Ri.wp_value _ (Ri.run_fld (f := _) rfl e1 Try.underlying31 rfl (sz := 0) (by kernel_rfl)) rfl
     ·refine Ri.StepZ.q (h := fun f0 W9 hq hf Ac hA hB hO => ?_)
      have e1 := (hA 82 0).trans (hf 0)
      exact Ri.wp_value _ (Ri.run_ld1 rfl e1 Try.underlying3 rfl ((KX.out W9 hq).1)) rfl
     ·refine Ri.StepZ.q (h := fun f0 W9 hq hf Ac hA hB hO => ?_)
      have e1 := (hA 83 1).trans (hf 1)
      have e2 : Ac.eval (.const (.int .i64 0)) = .int .i64 0 := rfl
      exact Ri.wp_value _ ((Ri.run_geqJ rfl e1 e2 Try.underlying3).trans (by rw [HE1.out])) rfl
     ·refine Ri.StepZ.q (h := fun f0 W9 hq hf Ac hA hB hO => ?_)
      have e1 := (hA 84 2).trans (hf 2)
      exact Ri.wp_value _ (Ri.run_mv rfl e1) rfl
     ·refine Ri.StepZ.gq (by kernel_rfl) rfl rfl (by simp) fun f0 W9 hq hf Ac hA hB hO => ⟨hf 3, ?_⟩
      have e1 := (hB 5).trans (show _ = .pointer (some ⟨W.heap.size + 2, 0, none⟩) by simp [Act.eval])
      exact Ri.wp_value _ (Ri.run_fld (f := _) rfl e1 Try.underlying31 rfl (sz := 0) (by kernel_rfl)) rfl
     ·refine Ri.StepZ.gq (by kernel_rfl) rfl rfl (by simp) fun f0 W9 hq hf Ac hA hB hO => ⟨hf 3, ?_⟩
      have e1 := (hA 86 4).trans (hf 4)
      exact Ri.wp_value _ (Ri.run_ld1 rfl e1 Try.underlying3 rfl ((KX.out W9 hq).1)) rfl
     ·refine Ri.StepZ.gq (by kernel_rfl) rfl rfl (by simp) fun f0 W9 hq hf Ac hA hB hO => ⟨hf 3, ?_⟩
      have e1 := (hB 4).trans (show _ = .pointer (some ⟨W.heap.size + 1, 0, none⟩) by simp [Act.eval])
      exact Ri.wp_value _ (Ri.run_fld (f := _) rfl e1 Try.underlying24 rfl (sz := 0) (by kernel_rfl)) rfl
     ·refine Ri.StepZ.gq (by kernel_rfl) rfl rfl (by simp) fun f0 W9 hq hf Ac hA hB hO => ⟨hf 3, ?_⟩
      have e1 := (hA 88 6).trans (hf 6)
      exact Ri.wp_value _ (Ri.run_ld1 rfl e1 Try.underlying22 rfl ((KA.out W9 hq).2.2.2.1)) rfl
     ·refine Ri.StepZ.gq (by kernel_rfl) rfl rfl (by simp) fun f0 W9 hq hf Ac hA hB hO => ⟨hf 3, ?_⟩
      have e1 := (hA 89 7).trans (hf 7)
      exact Ri.wp_value _ (Ri.run_lenC rfl e1 Try.underlying22) rfl
     ·refine Ri.StepZ.gq (by kernel_rfl) rfl rfl (by simp) fun f0 W9 hq hf Ac hA hB hO => ⟨hf 3, ?_⟩
      have e1 := (hA 87 5).trans (hf 5)
      have e2 := (hA 90 8).trans (hf 8)
      exact Ri.wp_value _ ((Ri.run_lssC rfl e1 e2 Try.underlying3).trans (by rw [HE2.out])) rfl
     ·refine Ri.StepZ.q (h := fun f0 W9 hq hf Ac hA hB hO => ?_)
      have e1 := (hA 85 3).trans (hf 3)
      have e2 := (hA 91 9).trans (hf 9)
      exact Ri.wp_value _ (Ri.run_pick rfl e1 (by simpa [Act.eval] using e2)) rfl
     ·refine Ri.StepZ.q (h := fun f0 W9 hq hf Ac hA hB hO => ?_)
      have e1 := (hA 92 10).trans (hf 10)
      exact Ri.wp_value _ (Ri.run_mv rfl e1) rfl
     ·refine Ri.StepZ.gq (by kernel_rfl) rfl rfl (by simp) fun f0 W9 hq hf Ac hA hB hO => ⟨hf 11, ?_⟩
      have e1 := (hB 5).trans (show _ = .pointer (some ⟨W.heap.size + 2, 0, none⟩) by simp [Act.eval])
      exact Ri.wp_value _ (Ri.run_fld (f := _) rfl e1 Try.underlying31 rfl (sz := 0) (by kernel_rfl)) rfl
     ·refine Ri.StepZ.gq (by kernel_rfl) rfl rfl (by simp) fun f0 W9 hq hf Ac hA hB hO => ⟨hf 11, ?_⟩
      have e1 := (hA 94 12).trans (hf 12)
      exact Ri.wp_value _ (Ri.run_ld1 rfl e1 Try.underlying29 rfl ((KX.out W9 hq).2.2.2)) rfl
     ·refine Ri.StepZ.gq (by kernel_rfl) rfl rfl (by simp) fun f0 W9 hq hf Ac hA hB hO => ⟨hf 11, ?_⟩
      have e1 := (hA 95 13).trans (hf 13)
      exact Ri.wp_value _ (Ri.run_lenC rfl e1 Try.underlying29) rfl
     ·refine Ri.StepZ.gq (by kernel_rfl) rfl rfl (by simp) fun f0 W9 hq hf Ac hA hB hO => ⟨hf 11, ?_⟩
      have e1 := (hA 96 14).trans (hf 14)
      have e2 : Ac.eval (.const (.int .i64 1)) = .int .i64 1 := rfl
      exact Ri.wp_value _ ((Ri.run_eqlC rfl e1 e2 Try.underlying3).trans (by rw [HE3.out])) rfl
     ·refine Ri.StepZ.q (h := fun f0 W9 hq hf Ac hA hB hO => ?_)
      have e1 := (hA 93 11).trans (hf 11)
      have e2 := (hA 97 15).trans (hf 15)
      exact Ri.wp_value _ (Ri.run_pick rfl e1 (by simpa [Act.eval] using e2)) rfl
     ·refine Ri.StepZ.q (h := fun f0 W9 hq hf Ac hA hB hO => ?_)
      have e1 := (hA 98 16).trans (hf 16)
      exact Ri.wp_value _ (Ri.run_mv rfl e1) rfl
     iterate 12 · refine Ri.StepZ.off rfl rfl (by simp) fun f0 W9 hq hf => ⟨hf 17, rfl⟩
     ·refine Ri.StepZ.q (h := fun f0 W9 hq hf Ac hA hB hO => ?_)
      have e1 := (hA 99 17).trans (hf 17)
      exact Ri.wp_value _ (Ri.run_pick rfl e1 (by simp [Act.eval])) rfl
     ·refine Ri.StepZ.q (h := fun f0 W9 hq hf Ac hA hB hO => ?_)
      have e1 := (hA 112 30).trans (hf 30)
      exact Ri.wp_value _ (Ri.run_asg rfl e1) rfl
    ·intro f0 w8 hq8 hf
     have hl9 := hf 31 (by simp) (by kernel_rfl)
     simp only [Ri.phi, List.getD_cons_zero, List.getD_cons_succ, Ri.isV] at hl9
     simp only [Ri.acts, Act.put, List.setIfInBounds_toArray, List.set_cons_zero, List.set_cons_succ, Nat.zero_add, Nat.reduceAdd]
     rw [hl9]
     have HQ8 := hide (HQ2.out.trans hq8)
     clear hf hl9 hq8
     go_wp2_with fail
     go_ret
     exact ⟨by rw [RES.out] <;> rfl, HQ8.out⟩
   | true =>
    have hn1 : (n2 : Int) = 1 := by simpa using he3
    have h0x : 0 ≤ x := by simpa using he1
    have hxl : x < (len : Int) := by simpa using he2
    obtain ⟨i, hxi⟩ : ∃ i : Nat, x = (i : Int) := ⟨x.toNat, by omega⟩
    have hil : i < len := by omega
    have HXI := hide hxi
    have HLQ := hide (show 0 < n2 by omega)
    have HLP := hide hil
    obtain ⟨g2, o2, m2, x2, y2, B2, l2, d2, qq, e, hbq, hxq, v0, v1, v2, v3⟩ := cel_at (HSQ.out.up HWQ.out) (show 0 < n2 by omega)
    cases e
    obtain ⟨q, hqe⟩ : ∃ q, Cel.mk m2 x2 y2 B2 l2 d2 qq = q := ⟨_, rfl⟩
    have hqv : q.v = .agg #[.int .i64 m2, .bool x2, .bool y2, .slice B2 l2 d2] := by rw [← hqe]; rfl
    rw [hqe] at hxq
    have KQ : Hid (∀ X, Q w2 X → X.cell? ⟨g2, o2 + 0 * 4, none⟩ = some (.int .i64 m2) ∧ X.cell? ⟨g2, o2 + 0 * 4 + 1, none⟩ = some (.bool x2) ∧ X.cell? ⟨g2, o2 + 0 * 4 + 2, none⟩ = some (.bool y2) ∧ X.cell? ⟨g2, o2 + 0 * 4 + 3, none⟩ = some (.slice B2 l2 d2)) := hide fun X hX => ⟨(hX.facts.1 _ _ hbq).trans v0, (hX.facts.1 _ _ hbq).trans v1, (hX.facts.1 _ _ hbq).trans v2, (hX.facts.1 _ _ hbq).trans v3⟩
    obtain ⟨g, o, m', x', y', B, l', d', qs1, e, hbp, hxp, z0, z1, z2, z3⟩ := lay_at (HSL.out.up HWQ.out) (show i < len by omega)
    cases e
    obtain ⟨p, hpe⟩ : ∃ p, Lay.mk m' x' y' B l' d' qs1 = p := ⟨_, rfl⟩
    have hpv : p.v = .agg #[.int .i64 m', .int .i64 x', .bool y', .slice B l' d'] := by rw [← hpe]; rfl
    rw [hpe] at hxp
    have KP : Hid (∀ X, Q w2 X → X.cell? ⟨g, o + i * 4, none⟩ = some (.int .i64 m') ∧ X.cell? ⟨g, o + i * 4 + 1, none⟩ = some (.int .i64 x') ∧ X.cell? ⟨g, o + i * 4 + 2, none⟩ = some (.bool y') ∧ X.cell? ⟨g, o + i * 4 + 3, none⟩ = some (.slice B l' d')) := hide fun X hX => ⟨(hX.facts.1 _ _ hbp).trans z0, (hX.facts.1 _ _ hbp).trans z1, (hX.facts.1 _ _ hbp).trans z2, (hX.facts.1 _ _ hbp).trans z3⟩
    obtain ⟨r, hr⟩ : ∃ r, q.isC wd p = r := ⟨_, rfl⟩
    have HIP := hide (HIH.out q (List.mem_of_getElem? hxq) p (List.mem_of_getElem? hxp))
    rw [hqv, hpv, hr] at HIP
    unfold R1 at HIP
    have RES : Hid (cellC wd (.mk 8 n f (some ⟨g, o, none⟩) len cap ps) x false false (qs.map (Cel.isC wd)) (qs.map Cel.und) = r) := hide (by
     rw [RES0.out]
     have h1 : (qs.map (Cel.isC wd)).headD (fun _ => false) = q.isC wd := by
      cases qs with
      | nil => simp at hxq
      | cons a t => injection hxq with hxq; subst hxq; rfl
     have h2 : ((Lay.mk 8 n f (some ⟨g, o, none⟩) len cap ps).parts[x.toNat]?).getD noL = p := by
      show (ps[x.toNat]?).getD noL = p
      rw [hxi, Int.toNat_natCast, hxp]
      rfl
     rw [h1, h2, hr]
     rfl)
    clear h0x hxl hxi hil he1 he2 he3 hv hl hq2 ih hqW hw2 hd hc hx hqq hql hk hn1 hbq hxq hqe hqv v0 v1 v2 v3 hbp hxp hpe hpv z0 z1 z2 z3 hr
    obtain ⟨k0, k1, k2, k3, t0, t1⟩ := KA.out w2 (Q.refl _)
    obtain ⟨c0, c1, c2', c3⟩ := KX.out w2 (Q.refl _)
    go_enter Try.func45, Try.ntmps45
    go_upto_region 1 with fail
    rw [HW2.out]
    go_upto_region 11 with fail
    clear k0 k1 k2 k3 t0 t1 c0 c1 c2' c3
    refine Ri.madeZ (C := fun W0 => Q w2 W0) [] [0, 1, 2, 3, 4, 5, 6, 7, 8, 9, 10, 11, 12, 13, 14, 15, 16, 17, 18, 19, 20, 21, 22, 23, 24, 25, 26, 27, 28, 29, 30, 31] (fun w1 w3 X hq => X.trans hq) (Ri.phi [Ri.isV (.pointer (some ⟨W.heap.size + 2, 0, none⟩)), Ri.isV (.int .i64 x), Ri.isV (.bool true), Ri.isV (.bool true), Ri.isV (.pointer (some ⟨W.heap.size + 2, 0, none⟩)), Ri.isV (.int .i64 x), Ri.isV (.pointer (some ⟨W.heap.size + 1, 3, none⟩)), Ri.isV (.slice (some ⟨g, o, none⟩) len cap), Ri.isV (.int .i64 (len : Nat)), Ri.isV (.bool true), Ri.isV (.bool true), Ri.isV (.bool true), Ri.isV (.pointer (some ⟨W.heap.size + 2, 3, none⟩)), Ri.isV (.slice (some ⟨g2, o2, none⟩) n2 c2), Ri.isV (.int .i64 (n2 : Nat)), Ri.isV (.bool true), Ri.isV (.bool true), Ri.isV (.bool true), Ri.isV (tgW wd b), Ri.isV (.pointer (some ⟨W.heap.size + 1, 3, none⟩)), Ri.isV (.slice (some ⟨g, o, none⟩) len cap), Ri.isV (.pointer (some ⟨W.heap.size + 2, 0, none⟩)), Ri.isV (.int .i64 x), Ri.isV (.pointer (some ⟨g, o + i * 4, none⟩)), Ri.isV (.agg #[.int .i64 m', .int .i64 x', .bool y', .slice B l' d']), Ri.isV (.pointer (some ⟨W.heap.size + 2, 3, none⟩)), Ri.isV (.slice (some ⟨g2, o2, none⟩) n2 c2), Ri.isV (.pointer (some ⟨g2, o2 + 0 * 4, none⟩)), Ri.isV (.agg #[.int .i64 m2, .bool x2, .bool y2, .slice B2 l2 d2]), Ri.isV (.bool r), Ri.isV (.bool r), Ri.isV (.bool r)]) (by kernel_rfl) (by kernel_rfl) (by kernel_rfl) ((Q.refl _).drew) (Ri.phi_mono ?_) (Ri.phi_fix ?_) ?_ ?_
    ·repeat' first | exact trivial | exact fun _ _ _ h _ => h | refine ⟨?_, ?_⟩
    ·repeat' first | exact trivial | exact fun _ _ _ _ h => h | refine ⟨?_, ?_⟩
    ·refine Ri.All.cons ?_ (.cons ?_ (.cons ?_ (.cons ?_ (.cons ?_ (.cons ?_ (.cons ?_ (.cons ?_ (.cons ?_ (.cons ?_ (.cons ?_ (.cons ?_ (.cons ?_ (.cons ?_ (.cons ?_ (.cons ?_ (.cons ?_ (.cons ?_ (.cons ?_ (.cons ?_ (.cons ?_ (.cons ?_ (.cons ?_ (.cons ?_ (.cons ?_ (.cons ?_ (.cons ?_ (.cons ?_ (.cons ?_ (.cons ?_ (.cons ?_ (.cons ?_ (Ri.All.nil))))))))))))))))))))))))))))))))
     ·refine Ri.StepZ.q (h := fun f0 W9 hq hf Ac hA hB hO => ?_)
      have e1 := (hB 5).trans (show _ = .pointer (some ⟨W.heap.size + 2, 0, none⟩) by simp [Act.eval])
      exact Ri.wp_value _ (Ri.run_fld (f := _) rfl e1 Try.underlying31 rfl (sz := 0) (by kernel_rfl)) rfl
     ·refine Ri.StepZ.q (h := fun f0 W9 hq hf Ac hA hB hO => ?_)
      have e1 := (hA 82 0).trans (hf 0)
      exact Ri.wp_value _ (Ri.run_ld1 rfl e1 Try.underlying3 rfl ((KX.out W9 hq).1)) rfl
     ·refine Ri.StepZ.q (h := fun f0 W9 hq hf Ac hA hB hO => ?_)
      have e1 := (hA 83 1).trans (hf 1)
      have e2 : Ac.eval (.const (.int .i64 0)) = .int .i64 0 := rfl
      exact Ri.wp_value _ ((Ri.run_geqJ rfl e1 e2 Try.underlying3).trans (by rw [HE1.out])) rfl
     ·refine Ri.StepZ.q (h := fun f0 W9 hq hf Ac hA hB hO => ?_)
      have e1 := (hA 84 2).trans (hf 2)
      exact Ri.wp_value _ (Ri.run_mv rfl e1) rfl
     ·refine Ri.StepZ.gq (by kernel_rfl) rfl rfl (by simp) fun f0 W9 hq hf Ac hA hB hO => ⟨hf 3, ?_⟩
      have e1 := (hB 5).trans (show _ = .pointer (some ⟨W.heap.size + 2, 0, none⟩) by simp [Act.eval])
      exact Ri.wp_value _ (Ri.run_fld (f := _) rfl e1 Try.underlying31 rfl (sz := 0) (by kernel_rfl)) rfl
     ·refine Ri.StepZ.gq (by kernel_rfl) rfl rfl (by simp) fun f0 W9 hq hf Ac hA hB hO => ⟨hf 3, ?_⟩
      have e1 := (hA 86 4).trans (hf 4)
      exact Ri.wp_value _ (Ri.run_ld1 rfl e1 Try.underlying3 rfl ((KX.out W9 hq).1)) rfl
     ·refine Ri.StepZ.gq (by kernel_rfl) rfl rfl (by simp) fun f0 W9 hq hf Ac hA hB hO => ⟨hf 3, ?_⟩
      have e1 := (hB 4).trans (show _ = .pointer (some ⟨W.heap.size + 1, 0, none⟩) by simp [Act.eval])
      exact Ri.wp_value _ (Ri.run_fld (f := _) rfl e1 Try.underlying24 rfl (sz := 0) (by kernel_rfl)) rfl
     ·refine Ri.StepZ.gq (by kernel_rfl) rfl rfl (by simp) fun f0 W9 hq hf Ac hA hB hO => ⟨hf 3, ?_⟩
      have e1 := (hA 88 6).trans (hf 6)
      exact Ri.wp_value _ (Ri.run_ld1 rfl e1 Try.underlying22 rfl ((KA.out W9 hq).2.2.2.1)) rfl
     ·refine Ri.StepZ.gq (by kernel_rfl) rfl rfl (by simp) fun f0 W9 hq hf Ac hA hB hO => ⟨hf 3, ?_⟩
      have e1 := (hA 89 7).trans (hf 7)
      exact Ri.wp_value _ (Ri.run_lenC rfl e1 Try.underlying22) rfl
     ·refine Ri.StepZ.gq (by kernel_rfl) rfl rfl (by simp) fun f0 W9 hq hf Ac hA hB hO => ⟨hf 3, ?_⟩
      have e1 := (hA 87 5).trans (hf 5)
      have e2 := (hA 90 8).trans (hf 8)
      exact Ri.wp_value _ ((Ri.run_lssC rfl e1 e2 Try.underlying3).trans (by rw [HE2.out])) rfl
     ·refine Ri.StepZ.q (h := fun f0 W9 hq hf Ac hA hB hO => ?_)
      have e1 := (hA 85 3).trans (hf 3)
      have e2 := (hA 91 9).trans (hf 9)
      exact Ri.wp_value _ (Ri.run_pick rfl e1 (by simpa [Act.eval] using e2)) rfl
     ·refine Ri.StepZ.q (h := fun f0 W9 hq hf Ac hA hB hO => ?_)
      have e1 := (hA 92 10).trans (hf 10)
      exact Ri.wp_value _ (Ri.run_mv rfl e1) rfl
     ·refine Ri.StepZ.gq (by kernel_rfl) rfl rfl (by simp) fun f0 W9 hq hf Ac hA hB hO => ⟨hf 11, ?_⟩
      have e1 := (hB 5).trans (show _ = .pointer (some ⟨W.heap.size + 2, 0, none⟩) by simp [Act.eval])
      exact Ri.wp_value _ (Ri.run_fld (f := _) rfl e1 Try.underlying31 rfl (sz := 0) (by kernel_rfl)) rfl
     ·refine Ri.StepZ.gq (by kernel_rfl) rfl rfl (by simp) fun f0 W9 hq hf Ac hA hB hO => ⟨hf 11, ?_⟩
      have e1 := (hA 94 12).trans (hf 12)
      exact Ri.wp_value _ (Ri.run_ld1 rfl e1 Try.underlying29 rfl ((KX.out W9 hq).2.2.2)) rfl
     ·refine Ri.StepZ.gq (by kernel_rfl) rfl rfl (by simp) fun f0 W9 hq hf Ac hA hB hO => ⟨hf 11, ?_⟩
      have e1 := (hA 95 13).trans (hf 13)
      exact Ri.wp_value _ (Ri.run_lenC rfl e1 Try.underlying29) rfl
     ·refine Ri.StepZ.gq (by kernel_rfl) rfl rfl (by simp) fun f0 W9 hq hf Ac hA hB hO => ⟨hf 11, ?_⟩
      have e1 := (hA 96 14).trans (hf 14)
      have e2 : Ac.eval (.const (.int .i64 1)) = .int .i64 1 := rfl
      exact Ri.wp_value _ ((Ri.run_eqlC rfl e1 e2 Try.underlying3).trans (by rw [HE3.out])) rfl
     ·refine Ri.StepZ.q (h := fun f0 W9 hq hf Ac hA hB hO => ?_)
      have e1 := (hA 93 11).trans (hf 11)
      have e2 := (hA 97 15).trans (hf 15)
      exact Ri.wp_value _ (Ri.run_pick rfl e1 (by simpa [Act.eval] using e2)) rfl
     ·refine Ri.StepZ.q (h := fun f0 W9 hq hf Ac hA hB hO => ?_)
      have e1 := (hA 98 16).trans (hf 16)
      exact Ri.wp_value _ (Ri.run_mv rfl e1) rfl
     ·refine Ri.StepZ.gq (by kernel_rfl) rfl rfl (by simp) fun f0 W9 hq hf Ac hA hB hO => ⟨hf 17, ?_⟩
      have e1 := (hB 3).trans (show _ = .pointer (some ⟨W.heap.size, 0, none⟩) by simp [Act.eval])
      obtain ⟨-, -, -, -, u0, u1⟩ := KA.out W9 hq
      exact Ri.wp_value _ (Ri.run_ldagg (cs := [.int .i64 wd, .bool b]) rfl e1 (c2L u0 u1) Try.underlying60 rfl (by kernel_rfl)) rfl
     ·refine Ri.StepZ.gq (by kernel_rfl) rfl rfl (by simp) fun f0 W9 hq hf Ac hA hB hO => ⟨hf 17, ?_⟩
      have e1 := (hB 4).trans (show _ = .pointer (some ⟨W.heap.size + 1, 0, none⟩) by simp [Act.eval])
      exact Ri.wp_value _ (Ri.run_fld (f := _) rfl e1 Try.underlying24 rfl (sz := 0) (by kernel_rfl)) rfl
     ·refine Ri.StepZ.gq (by kernel_rfl) rfl rfl (by simp) fun f0 W9 hq hf Ac hA hB hO => ⟨hf 17, ?_⟩
      have e1 := (hA 101 19).trans (hf 19)
      exact Ri.wp_value _ (Ri.run_ld1 rfl e1 Try.underlying22 rfl ((KA.out W9 hq).2.2.2.1)) rfl
     ·refine Ri.StepZ.gq (by kernel_rfl) rfl rfl (by simp) fun f0 W9 hq hf Ac hA hB hO => ⟨hf 17, ?_⟩
      have e1 := (hB 5).trans (show _ = .pointer (some ⟨W.heap.size + 2, 0, none⟩) by simp [Act.eval])
      exact Ri.wp_value _ (Ri.run_fld (f := _) rfl e1 Try.underlying31 rfl (sz := 0) (by kernel_rfl)) rfl
     ·refine Ri.StepZ.gq (by kernel_rfl) rfl rfl (by simp) fun f0 W9 hq hf Ac hA hB hO => ⟨hf 17, ?_⟩
      have e1 := (hA 103 21).trans (hf 21)
      exact Ri.wp_value _ (Ri.run_ld1 rfl e1 Try.underlying3 rfl ((KX.out W9 hq).1)) rfl
     ·refine Ri.StepZ.gq (by kernel_rfl) rfl rfl (by simp) fun f0 W9 hq hf Ac hA hB hO => ⟨hf 17, ?_⟩
      have e1 := (hA 102 20).trans (hf 20)
      have e2 := (hA 104 22).trans (hf 22)
      exact Ri.wp_value _ (Ri.run_idx rfl e1 (e2.trans (by rw [HXI.out])) Try.underlying22 (sz := 4) (by kernel_rfl) HLP.out) rfl
     ·refine Ri.StepZ.gq (by kernel_rfl) rfl rfl (by simp) fun f0 W9 hq hf Ac hA hB hO => ⟨hf 17, ?_⟩
      have e1 := (hA 105 23).trans (hf 23)
      obtain ⟨b0, b1, b2, b3⟩ := KP.out W9 hq
      exact Ri.wp_value _ (Ri.run_ldagg rfl e1 (c4G b0 b1 b2 b3) Try.underlying24 rfl (by kernel_rfl)) rfl
     ·refine Ri.StepZ.gq (by kernel_rfl) rfl rfl (by simp) fun f0 W9 hq hf Ac hA hB hO => ⟨hf 17, ?_⟩
      have e1 := (hB 5).trans (show _ = .pointer (some ⟨W.heap.size + 2, 0, none⟩) by simp [Act.eval])
      exact Ri.wp_value _ (Ri.run_fld (f := _) rfl e1 Try.underlying31 rfl (sz := 0) (by kernel_rfl)) rfl
     ·refine Ri.StepZ.gq (by kernel_rfl) rfl rfl (by simp) fun f0 W9 hq hf Ac hA hB hO => ⟨hf 17, ?_⟩
      have e1 := (hA 107 25).trans (hf 25)
      exact Ri.wp_value _ (Ri.run_ld1 rfl e1 Try.underlying29 rfl ((KX.out W9 hq).2.2.2)) rfl
     ·refine Ri.StepZ.gq (by kernel_rfl) rfl rfl (by simp) fun f0 W9 hq hf Ac hA hB hO => ⟨hf 17, ?_⟩
      have e1 := (hA 108 26).trans (hf 26)
      have e2 : Ac.eval (.const (.int .i64 0)) = .int .i64 ((0 : Nat) : Int) := rfl
      exact Ri.wp_value _ (Ri.run_idx rfl e1 e2 Try.underlying29 (sz := 4) (by kernel_rfl) HLQ.out) rfl
     ·refine Ri.StepZ.gq (by kernel_rfl) rfl rfl (by simp) fun f0 W9 hq hf Ac hA hB hO => ⟨hf 17, ?_⟩
      have e1 := (hA 109 27).trans (hf 27)
      obtain ⟨b0, b1, b2, b3⟩ := KQ.out W9 hq
      exact Ri.wp_value _ (Ri.run_ldagg rfl e1 (c4G b0 b1 b2 b3) Try.underlying31 rfl (by kernel_rfl)) rfl
     ·refine Ri.StepZ.gq (by kernel_rfl) rfl rfl (by simp) fun f0 W9 hq hf Ac hA hB hO => ⟨hf 17, ?_⟩
      have e1 := (hA 100 18).trans (hf 18)
      have e2 := (hA 106 24).trans (hf 24)
      have e3 := (hA 110 28).trans (hf 28)
      refine Ri.wp_call #[tgW wd b, .agg #[.int .i64 m', .int .i64 x', .bool y', .slice B l' d'], .agg #[.int .i64 m2, .bool x2, .bool y2, .slice B2 l2 d2]] rfl (by simp [e1, e2, e3]) Try.func45 (by kernel_rfl) (by kernel_rfl) ((HIP.out W9 (HWQ.out.trans hq)).mono ?_)
      rintro e w9 ⟨rfl, h1⟩
      exact ⟨_, rfl, h1, rfl⟩
     ·refine Ri.StepZ.q (h := fun f0 W9 hq hf Ac hA hB hO => ?_)
      have e1 := (hA 99 17).trans (hf 17)
      have e2 := (hA 111 29).trans (hf 29)
      exact Ri.wp_value _ (Ri.run_pick rfl e1 (by simpa [Act.eval] using e2)) rfl
     ·refine Ri.StepZ.q (h := fun f0 W9 hq hf Ac hA hB hO => ?_)
      have e1 := (hA 112 30).trans (hf 30)
      exact Ri.wp_value _ (Ri.run_asg rfl e1) rfl
    ·intro f0 w8 hq8 hf
     have hl9 := hf 31 (by simp) (by kernel_rfl)
     simp only [Ri.phi, List.getD_cons_zero, List.getD_cons_succ, Ri.isV] at hl9
     simp only [Ri.acts, Act.put, List.setIfInBounds_toArray, List.set_cons_zero, List.set_cons_succ, Nat.zero_add, Nat.reduceAdd]
     rw [hl9]
     have HQ8 := hide (HQ2.out.trans hq8)
     clear hf hl9 hq8
     go_wp2_with fail
     go_ret
     exact ⟨by rw [RES.out] <;> rfl, HQ8.out⟩
theorem isCell_any {w : World} {c : Cel} (hc : CelR w c) (wd : Int) (hw : okW wd) (b : Bool) : ∀ l, LayR w l → VL l → l.count ≤ 1048576 → ∀ W, Q w W → Calls Try.prog 45 #[tgW wd b, l.v, c.v] W (R1 W (.bool (c.isC wd l))) := by
 induction hc with
 | @mk x nul und A2 n2 c2 qs h1 h2 h3 h4 h5 ih =>
  intro l hl hv hcnt
  cases l with
  | mk k n f A len cap ps =>
   have hi : ∀ q ∈ qs, ∀ p ∈ ps, ∀ W, Q w W → Calls Try.prog 45 #[tgW wd b, p.v, q.v] W (R1 W (.bool (q.isC wd p))) := fun q hq p hp => ih q hq p (lay_part hl hp) (hv.part (l := .mk k n f A len cap ps) hp) (by have := count_part (l := .mk k n f A len cap ps) hp; omega)
   rw [isC_mk]
   show ∀ W, Q w W → Calls _ _ #[tgW wd b, .agg #[.int .i64 k, .int .i64 n, .bool f, .slice A len cap], .agg #[.int .i64 x, .bool nul, .bool und, .slice A2 n2 c2]] W _
   have hk := hv.kind
   cases und with
   | true => exact isCell_und hl hv hcnt wd hw b h2 h4 hi rfl
   | false =>
    cases nul with
    | true => exact isCell_nul hl hv hcnt wd hw b h2 h4 hi rfl rfl
    | false =>
     by_cases k0 : k = 0
     ·exact isCell_0 hl hv hcnt wd hw b h2 h4 hi rfl rfl k0
     by_cases k4 : k = 4
     ·exact isCell_4 hl hv hcnt wd hw b h2 h4 hi rfl rfl k4
     by_cases k8 : k = 8
     ·exact isCell_8 hl hv hcnt wd hw b h2 h4 hi rfl rfl k8
     by_cases k5 : k = 5
     ·exact isCell_p5 hl hv hcnt wd hw b h2 h4 hi rfl rfl k5
     by_cases k6 : k = 6
     ·exact isCell_p6 hl hv hcnt wd hw b h2 h4 hi rfl rfl k6
     by_cases k9 : k = 9
     ·exact isCell_p9 hl hv hcnt wd hw b h2 h4 hi rfl rfl k9
     exact isCell_n hl hv hcnt wd hw b h2 h4 hi rfl rfl (by omega)
end Go.Proofs.Ytbgbalfhbficaaa
