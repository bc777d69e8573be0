/- isCell of the reference, of any cell and layout. Conditions: as each theorem says. -/
import Derived.Test.YtbgbalfhbficaaaCz16
namespace Go.Proofs.Ytbgbalfhbficaaa
set_option maxRecDepth 100000
set_option maxHeartbeats 2000000
open Go.RowKit
set_option linter.unusedVariables false
set_option linter.unusedSimpArgs false
theorem rCell_4t {w : World} {k n : Int} {f : Bool} {A : Option Addr} {len cap : Nat} {ps : List Lay} (hl : LayR w (.mk k n f A len cap ps)) (hv : VL (.mk k n f A len cap ps)) (hcnt : (Lay.mk k n f A len cap ps).count ≤ 1048576) (wd : Int) (hw : okW wd) (b : Bool) {x : Int} {nul und pk : Bool} (ho : pk = false → Okw wd (.mk k n f A len cap ps)) {A2 : Option Addr} {n2 c2 : Nat} {qs : List Cel} (hq2 : Sl 4 encC w A2 n2 c2 qs) (hn2 : n2 ≤ 140737488351232) (ih : ∀ q ∈ qs, ∀ p ∈ ps, ∀ pk : Bool, (pk = false → Okw wd p) → (pk = true → p.k = 1 ∨ p.k = 2) → ∀ W, Q w W → Calls Try.prog 84 #[p.v, tgW wd b, q.v, .bool pk] W (R1 W (.bool (q.isC wd p && !(pk && q.und))))) (hu : und = false) (hnl : nul = true) (hk0 : k = 4) (hpk : pk = true → k = 1 ∨ k = 2) : ∀ W, Q w W → Calls Try.prog 84 #[.agg #[.int .i64 k, .int .i64 n, .bool f, .slice A len cap], tgW wd b, .agg #[.int .i64 x, .bool nul, .bool und, .slice A2 n2 c2], .bool pk] W (R1 W (.bool (cellC wd (.mk k n f A len cap ps) x nul und (qs.map (Cel.isC wd)) (qs.map Cel.und) && !(pk && und)))) := by
 intro W hqW
 unfold R1
 have hk : (Lay.mk k n f A len cap ps).k = k := rfl
 have hql : ((qs.map (Cel.isC wd)).length : Int) = (n2 : Int) := by rw [List.length_map, hq2.len]
 subst hu hnl hk0
 have HSL : Hid (Sl 4 encL w A len cap ps) := by cases hl with | @mk _ _ _ _ _ _ _ hk hn hsl hnil hcap hall => exact hide hsl
 have hlb : (len : Int) ≤ 140737488351232 := by cases hl with | @mk _ _ _ _ _ _ _ hk hn hsl hnil hcap hall => omega
 have H := hide hl
 have HV := hide hv
 have HSQ := hide hq2
 have HIH := hide ih
 have HOK := hide ho
 have HQW := hide hqW
 obtain ⟨w2, hw2⟩ : ∃ w2, ((W.alloc (.cells #[.int .i64 4, .int .i64 n, .bool f, .slice A len cap] 24)).alloc (.cells #[.int .i64 wd, .bool b] 26)).alloc (.cells #[.int .i64 x, .bool true, .bool false, .slice A2 n2 c2] 31) = w2 := ⟨_, rfl⟩
 obtain ⟨hqq, hs2, hc, hd, hx⟩ := box3 hw2
 have hb0 : W.heap.size < w2.heap.size := by omega
 have hb1 : W.heap.size + 1 < w2.heap.size := by omega
 have hb2 : W.heap.size + 2 < w2.heap.size := by omega
 have KA := hide fun X (hX : Q w2 X) => (cs42 hX hb0 hc hb1 hd : Cs42 X W.heap.size (.int .i64 4) (.int .i64 n) (.bool f) (.slice A len cap) (W.heap.size + 1) (.int .i64 wd) (.bool b))
 have KX := hide fun X (hX : Q w2 X) => (cs4 hX hb2 hx : Cs4 X (W.heap.size + 2) (.int .i64 x) (.bool true) (.bool false) (.slice A2 n2 c2))
 have HW2 := hide hw2
 have HQ2 := hide hqq
 have HWQ := hide (hqW.trans hqq)
 have hpk0 : pk = false := by
  cases pk with
  | false => rfl
  | true => have := hpk rfl; omega
 subst hpk0
 obtain ⟨e1, he1⟩ : ∃ e, (x == 0) = e := ⟨_, rfl⟩
 obtain ⟨e3, he3⟩ : ∃ e, ((n2 : Int) == 0) = e := ⟨_, rfl⟩
 obtain ⟨res, hres⟩ : ∃ r, (cellC wd (.mk 4 n f A len cap ps) x true false (qs.map (Cel.isC wd)) (qs.map Cel.und) && !(false && false)) = r := ⟨_, rfl⟩
 have hres2 : res = cellC wd (.mk 4 n f A len cap ps) x true false (qs.map (Cel.isC wd)) (qs.map Cel.und) := by rw [← hres]; simp
 rw [hres]
 clear hres
 have RES : Hid (res = (e1 && e3)) := hide (by rw [hres2, cellC_nul rfl rfl, hk, hql, he1, he3]; rfl)
 clear hres2
 clear hl hv hq2 ih ho hqW hw2 hd hc hx hqq hql hk
 obtain ⟨k0, k1, k2, k3, t0, t1⟩ := KA.out w2 (Q.refl _)
 obtain ⟨c0, c1, c2', c3⟩ := KX.out w2 (Q.refl _)
 go_enter Try.func84, Try.ntmps84
 go_upto_region 1 with fail
 rw [HW2.out]
 cases e1 with
 | false =>
  go_wp2_with fail
  go_ret
  exact ⟨by rw [RES.out] <;> rfl, HQ2.out⟩
 | true =>
  go_wp2_with fail
  go_ret
  exact ⟨by rw [RES.out] <;> rfl, HQ2.out⟩
theorem rCell_4f {w : World} {k n : Int} {f : Bool} {A : Option Addr} {len cap : Nat} {ps : List Lay} (hl : LayR w (.mk k n f A len cap ps)) (hv : VL (.mk k n f A len cap ps)) (hcnt : (Lay.mk k n f A len cap ps).count ≤ 1048576) (wd : Int) (hw : okW wd) (b : Bool) {x : Int} {nul und pk : Bool} (ho : pk = false → Okw wd (.mk k n f A len cap ps)) {A2 : Option Addr} {n2 c2 : Nat} {qs : List Cel} (hq2 : Sl 4 encC w A2 n2 c2 qs) (hn2 : n2 ≤ 140737488351232) (ih : ∀ q ∈ qs, ∀ p ∈ ps, ∀ pk : Bool, (pk = false → Okw wd p) → (pk = true → p.k = 1 ∨ p.k = 2) → ∀ W, Q w W → Calls Try.prog 84 #[p.v, tgW wd b, q.v, .bool pk] W (R1 W (.bool (q.isC wd p && !(pk && q.und))))) (hu : und = false) (hnl : nul = false) (hk0 : k = 4) (hpk : pk = true → k = 1 ∨ k = 2) : ∀ W, Q w W → Calls Try.prog 84 #[.agg #[.int .i64 k, .int .i64 n, .bool f, .slice A len cap], tgW wd b, .agg #[.int .i64 x, .bool nul, .bool und, .slice A2 n2 c2], .bool pk] W (R1 W (.bool (cellC wd (.mk k n f A len cap ps) x nul und (qs.map (Cel.isC wd)) (qs.map Cel.und) && !(pk && und)))) := by
 intro W hqW
 unfold R1
 have hk : (Lay.mk k n f A len cap ps).k = k := rfl
 have hql : ((qs.map (Cel.isC wd)).length : Int) = (n2 : Int) := by rw [List.length_map, hq2.len]
 subst hu hnl hk0
 have HSL : Hid (Sl 4 encL w A len cap ps) := by cases hl with | @mk _ _ _ _ _ _ _ hk hn hsl hnil hcap hall => exact hide hsl
 have hlb : (len : Int) ≤ 140737488351232 := by cases hl with | @mk _ _ _ _ _ _ _ hk hn hsl hnil hcap hall => omega
 have H := hide hl
 have HV := hide hv
 have HSQ := hide hq2
 have HIH := hide ih
 have HOK := hide ho
 have HQW := hide hqW
 obtain ⟨w2, hw2⟩ : ∃ w2, ((W.alloc (.cells #[.int .i64 4, .int .i64 n, .bool f, .slice A len cap] 24)).alloc (.cells #[.int .i64 wd, .bool b] 26)).alloc (.cells #[.int .i64 x, .bool false, .bool false, .slice A2 n2 c2] 31) = w2 := ⟨_, rfl⟩
 obtain ⟨hqq, hs2, hc, hd, hx⟩ := box3 hw2
 have hb0 : W.heap.size < w2.heap.size := by omega
 have hb1 : W.heap.size + 1 < w2.heap.size := by omega
 have hb2 : W.heap.size + 2 < w2.heap.size := by omega
 have KA := hide fun X (hX : Q w2 X) => (cs42 hX hb0 hc hb1 hd : Cs42 X W.heap.size (.int .i64 4) (.int .i64 n) (.bool f) (.slice A len cap) (W.heap.size + 1) (.int .i64 wd) (.bool b))
 have KX := hide fun X (hX : Q w2 X) => (cs4 hX hb2 hx : Cs4 X (W.heap.size + 2) (.int .i64 x) (.bool false) (.bool false) (.slice A2 n2 c2))
 have HW2 := hide hw2
 have HQ2 := hide hqq
 have HWQ := hide (hqW.trans hqq)
 have hpk0 : pk = false := by
  cases pk with
  | false => rfl
  | true => have := hpk rfl; omega
 subst hpk0
 have ho9 := ho rfl
 have hlen1 : len = 1 := by
  have h8 := hv.kind.2.2.1
  unfold numL at h8
  rw [if_pos (.inl rfl), decide_eq_true_eq] at h8
  exact HSL.out.len.symm.trans h8
 obtain ⟨e1, he1⟩ : ∃ e, (x == 0) = e := ⟨_, rfl⟩
 obtain ⟨e2, he2⟩ : ∃ e, ((n2 : Int) == 1) = e := ⟨_, rfl⟩
 obtain ⟨res, hres⟩ : ∃ r, (cellC wd (.mk 4 n f A len cap ps) x false false (qs.map (Cel.isC wd)) (qs.map Cel.und) && !(false && false)) = r := ⟨_, rfl⟩
 have hres2 : res = cellC wd (.mk 4 n f A len cap ps) x false false (qs.map (Cel.isC wd)) (qs.map Cel.und) := by rw [← hres]; simp
 rw [hres]
 clear hres
 rw [cellC_4 rfl rfl hk, hql, he1, he2] at hres2
 have RES0 := hide hres2
 have HE1 := hide he1
 have HE2 := hide he2
 cases e1 with
 | false =>
  have RES : Hid (res = false) := hide (by rw [RES0.out]; rfl)
  clear hres2 hlen1 ho9
  clear hl hv hq2 ih ho hqW hw2 hd hc hx hqq hql hk he1 he2
  obtain ⟨k0, k1, k2, k3, t0, t1⟩ := KA.out w2 (Q.refl _)
  obtain ⟨c0, c1, c2', c3⟩ := KX.out w2 (Q.refl _)
  go_enter Try.func84, Try.ntmps84
  go_upto_region 1 with fail
  rw [HW2.out]
  go_upto_region 15 with fail
  clear k0 k1 k2 k3 t0 t1 c0 c1 c2' c3
  refine Ri.madeZ (C := fun W0 => Q w2 W0) [] [0, 1, 2, 3, 4, 5, 6, 7, 8, 9, 10, 11, 12, 13, 14, 15, 16, 17, 18, 19, 20, 21] (fun w1 w3 X hq => X.trans hq) (Ri.phi [Ri.isV (.pointer (some ⟨W.heap.size + 2, 0, none⟩)), Ri.isV (.int .i64 x), Ri.isV (.bool false), Ri.isV (.bool false), Ri.isV (undef), Ri.isV (undef), Ri.isV (undef), Ri.isV (undef), Ri.isV (.bool false), Ri.isV (.bool false), Ri.isV (undef), Ri.isV (undef), Ri.isV (undef), Ri.isV (undef), Ri.isV (undef), Ri.isV (undef), Ri.isV (undef), Ri.isV (undef), Ri.isV (undef), Ri.isV (undef), Ri.isV (.bool false), Ri.isV (.bool false)]) (by kernel_rfl) (by kernel_rfl) (by kernel_rfl) ((Q.refl _).drew) (Ri.phi_mono ?_) (Ri.phi_fix ?_) ?_ ?_
  ·repeat' first | exact trivial | exact fun _ _ _ h _ => h | refine ⟨?_, ?_⟩
  ·repeat' first | exact trivial | exact fun _ _ _ _ h => h | refine ⟨?_, ?_⟩
  ·refine Ri.All.cons ?_ (.cons ?_ (.cons ?_ (.cons ?_ (.cons ?_ (.cons ?_ (.cons ?_ (.cons ?_ (.cons ?_ (.cons ?_ (.cons ?_ (.cons ?_ (.cons ?_ (.cons ?_ (.cons ?_ (.cons ?_ (.cons ?_ (.cons ?_ (.cons ?_ (.cons ?_ (.cons ?_ (.cons ?_ (Ri.All.nil))))))))))))))))))))))
   ·refine Ri.StepZ.q (h := fun f0 W9 hq hf Ac hA hB hO => ?_)
    have e1 := (hB 6).trans (show _ = .pointer (some ⟨W.heap.size + 2, 0, none⟩) by simp [Act.eval])
    exact Ri.wp_value _ (Ri.run_fld (f := _) rfl e1 Try.underlying31 rfl (sz := 0) (by kernel_rfl)) rfl
   ·refine Ri.StepZ.q (h := fun f0 W9 hq hf Ac hA hB hO => ?_)
    have e1 := (hA 102 0).trans (hf 0)
    exact Ri.wp_value _ (Ri.run_ld1 rfl e1 Try.underlying3 rfl ((KX.out W9 hq).1)) rfl
   ·refine Ri.StepZ.q (h := fun f0 W9 hq hf Ac hA hB hO => ?_)
    have e1 := (hA 103 1).trans (hf 1)
    have e2 : Ac.eval (.const (.int .i64 0)) = .int .i64 0 := rfl
    exact Ri.wp_value _ ((Ri.run_eqlC rfl e1 e2 Try.underlying3).trans (by rw [HE1.out])) rfl
   ·refine Ri.StepZ.q (h := fun f0 W9 hq hf Ac hA hB hO => ?_)
    have e1 := (hA 104 2).trans (hf 2)
    exact Ri.wp_value _ (Ri.run_mv rfl e1) rfl
   iterate 4 · refine Ri.StepZ.off rfl rfl (by simp) fun f0 W9 hq hf => ⟨hf 3, rfl⟩
   ·refine Ri.StepZ.q (h := fun f0 W9 hq hf Ac hA hB hO => ?_)
    have e1 := (hA 105 3).trans (hf 3)
    exact Ri.wp_value _ (Ri.run_pick rfl e1 (by simp [Act.eval])) rfl
   ·refine Ri.StepZ.q (h := fun f0 W9 hq hf Ac hA hB hO => ?_)
    have e1 := (hA 110 8).trans (hf 8)
    exact Ri.wp_value _ (Ri.run_mv rfl e1) rfl
   iterate 10 · refine Ri.StepZ.off rfl rfl (by simp) fun f0 W9 hq hf => ⟨hf 9, rfl⟩
   ·refine Ri.StepZ.q (h := fun f0 W9 hq hf Ac hA hB hO => ?_)
    have e1 := (hA 111 9).trans (hf 9)
    exact Ri.wp_value _ (Ri.run_pick rfl e1 (by simp [Act.eval])) rfl
   ·refine Ri.StepZ.q (h := fun f0 W9 hq hf Ac hA hB hO => ?_)
    have e1 := (hA 122 20).trans (hf 20)
    exact Ri.wp_value _ (Ri.run_asg rfl e1) rfl
  ·intro f0 w8 hq8 hf
   have hl9 := hf 21 (by simp) (by kernel_rfl)
   simp only [Ri.phi, List.getD_cons_zero, List.getD_cons_succ, Ri.isV] at hl9
   simp only [Ri.acts, Act.put, List.setIfInBounds_toArray, List.set_cons_zero, List.set_cons_succ, Nat.zero_add, Nat.reduceAdd]
   rw [hl9]
   have HQ8 := hide (HQ2.out.trans hq8)
   clear hf hl9 hq8
   go_wp2_with fail
   go_ret
   exact ⟨by rw [RES.out] <;> rfl, HQ8.out⟩
 | true =>
  cases e2 with
  | false =>
   have RES : Hid (res = false) := hide (by rw [RES0.out]; rfl)
   clear hres2 hlen1 ho9
   clear hl hv hq2 ih ho hqW hw2 hd hc hx hqq hql hk he1 he2
   obtain ⟨k0, k1, k2, k3, t0, t1⟩ := KA.out w2 (Q.refl _)
   obtain ⟨c0, c1, c2', c3⟩ := KX.out w2 (Q.refl _)
   go_enter Try.func84, Try.ntmps84
   go_upto_region 1 with fail
   rw [HW2.out]
   go_upto_region 15 with fail
   clear k0 k1 k2 k3 t0 t1 c0 c1 c2' c3
   refine Ri.madeZ (C := fun W0 => Q w2 W0) [] [0, 1, 2, 3, 4, 5, 6, 7, 8, 9, 10, 11, 12, 13, 14, 15, 16, 17, 18, 19, 20, 21] (fun w1 w3 X hq => X.trans hq) (Ri.phi [Ri.isV (.pointer (some ⟨W.heap.size + 2, 0, none⟩)), Ri.isV (.int .i64 x), Ri.isV (.bool true), Ri.isV (.bool true), Ri.isV (.pointer (some ⟨W.heap.size + 2, 3, none⟩)), Ri.isV (.slice A2 n2 c2), Ri.isV (.int .i64 (n2 : Nat)), Ri.isV (.bool false), Ri.isV (.bool false), Ri.isV (.bool false), Ri.isV (undef), Ri.isV (undef), Ri.isV (undef), Ri.isV (undef), Ri.isV (undef), Ri.isV (undef), Ri.isV (undef), Ri.isV (undef), Ri.isV (undef), Ri.isV (undef), Ri.isV (.bool false), Ri.isV (.bool false)]) (by kernel_rfl) (by kernel_rfl) (by kernel_rfl) ((Q.refl _).drew) (Ri.phi_mono ?_) (Ri.phi_fix ?_) ?_ ?_
   ·repeat' first | exact trivial | exact fun _ _ _ h _ => h | refine ⟨?_, ?_⟩
   ·repeat' first | exact trivial | exact fun _ _ _ _ h => h | refine ⟨?_, ?_⟩
   ·refine Ri.All.cons ?_ (.cons ?_ (.cons ?_ (.cons ?_ (.cons ?_ (.cons ?_ (.cons ?_ (.cons ?_ (.cons ?_ (.cons ?_ (.cons ?_ (.cons ?_ (.cons ?_ (.cons ?_ (.cons ?_ (.cons ?_ (.cons ?_ (.cons ?_ (.cons ?_ (.cons ?_ (.cons ?_ (.cons ?_ (Ri.All.nil))))))))))))))))))))))
    ·refine Ri.StepZ.q (h := fun f0 W9 hq hf Ac hA hB hO => ?_)
     have e1 := (hB 6).trans (show _ = .pointer (some ⟨W.heap.size + 2, 0, none⟩) by simp [Act.eval])
     exact Ri.wp_value _ (Ri.run_fld (f := _) rfl e1 Try.underlying31 rfl (sz := 0) (by kernel_rfl)) rfl
    ·refine Ri.StepZ.q (h := fun f0 W9 hq hf Ac hA hB hO => ?_)
     have e1 := (hA 102 0).trans (hf 0)
     exact Ri.wp_value _ (Ri.run_ld1 rfl e1 Try.underlying3 rfl ((KX.out W9 hq).1)) rfl
    ·refine Ri.StepZ.q (h := fun f0 W9 hq hf Ac hA hB hO => ?_)
     have e1 := (hA 103 1).trans (hf 1)
     have e2 : Ac.eval (.const (.int .i64 0)) = .int .i64 0 := rfl
     exact Ri.wp_value _ ((Ri.run_eqlC rfl e1 e2 Try.underlying3).trans (by rw [HE1.out])) rfl
    ·refine Ri.StepZ.q (h := fun f0 W9 hq hf Ac hA hB hO => ?_)
     have e1 := (hA 104 2).trans (hf 2)
     exact Ri.wp_value _ (Ri.run_mv rfl e1) rfl
    ·refine Ri.StepZ.gq (by kernel_rfl) rfl rfl (by simp) fun f0 W9 hq hf Ac hA hB hO => ⟨hf 3, ?_⟩
     have e1 := (hB 6).trans (show _ = .pointer (some ⟨W.heap.size + 2, 0, none⟩) by simp [Act.eval])
     exact Ri.wp_value _ (Ri.run_fld (f := _) rfl e1 Try.underlying31 rfl (sz := 0) (by kernel_rfl)) rfl
    ·refine Ri.StepZ.gq (by kernel_rfl) rfl rfl (by simp) fun f0 W9 hq hf Ac hA hB hO => ⟨hf 3, ?_⟩
     have e1 := (hA 106 4).trans (hf 4)
     exact Ri.wp_value _ (Ri.run_ld1 rfl e1 Try.underlying29 rfl ((KX.out W9 hq).2.2.2)) rfl
    ·refine Ri.StepZ.gq (by kernel_rfl) rfl rfl (by simp) fun f0 W9 hq hf Ac hA hB hO => ⟨hf 3, ?_⟩
     have e1 := (hA 107 5).trans (hf 5)
     exact Ri.wp_value _ (Ri.run_lenC rfl e1 Try.underlying29) rfl
    ·refine Ri.StepZ.gq (by kernel_rfl) rfl rfl (by simp) fun f0 W9 hq hf Ac hA hB hO => ⟨hf 3, ?_⟩
     have e1 := (hA 108 6).trans (hf 6)
     have e2 : Ac.eval (.const (.int .i64 1)) = .int .i64 1 := rfl
     exact Ri.wp_value _ ((Ri.run_eqlC rfl e1 e2 Try.underlying3).trans (by rw [HE2.out])) rfl
    ·refine Ri.StepZ.q (h := fun f0 W9 hq hf Ac hA hB hO => ?_)
     have e1 := (hA 105 3).trans (hf 3)
     have e2 := (hA 109 7).trans (hf 7)
     exact Ri.wp_value _ (Ri.run_pick rfl e1 (by simpa [Act.eval] using e2)) rfl
    ·refine Ri.StepZ.q (h := fun f0 W9 hq hf Ac hA hB hO => ?_)
     have e1 := (hA 110 8).trans (hf 8)
     exact Ri.wp_value _ (Ri.run_mv rfl e1) rfl
    iterate 10 · refine Ri.StepZ.off rfl rfl (by simp) fun f0 W9 hq hf => ⟨hf 9, rfl⟩
    ·refine Ri.StepZ.q (h := fun f0 W9 hq hf Ac hA hB hO => ?_)
     have e1 := (hA 111 9).trans (hf 9)
     exact Ri.wp_value _ (Ri.run_pick rfl e1 (by simp [Act.eval])) rfl
    ·refine Ri.StepZ.q (h := fun f0 W9 hq hf Ac hA hB hO => ?_)
     have e1 := (hA 122 20).trans (hf 20)
     exact Ri.wp_value _ (Ri.run_asg rfl e1) rfl
   ·intro f0 w8 hq8 hf
    have hl9 := hf 21 (by simp) (by kernel_rfl)
    simp only [Ri.phi, List.getD_cons_zero, List.getD_cons_succ, Ri.isV] at hl9
    simp only [Ri.acts, Act.put, List.setIfInBounds_toArray, List.set_cons_zero, List.set_cons_succ, Nat.zero_add, Nat.reduceAdd]
    rw [hl9]
    have HQ8 := hide (HQ2.out.trans hq8)
    clear hf hl9 hq8
    go_wp2_with fail
    go_ret
    exact ⟨by rw [RES.out] <;> rfl, HQ8.out⟩
  | true =>
   have hn1 : (n2 : Int) = 1 := by simpa using he2
   have HLQ := hide (show 0 < n2 by omega)
   have HLP := hide (show 0 < len by omega)
   obtain ⟨g2, o2, m2, x2, y2, B2, l2, d2, qq, e, hbq, hxq, v0, v1, v2, v3⟩ := cel_at (HSQ.out.up HWQ.out) (show 0 < n2 by omega)
   cases e
   obtain ⟨q, hqe⟩ : ∃ q, Cel.mk m2 x2 y2 B2 l2 d2 qq = q := ⟨_, rfl⟩
   have hqv : q.v = .agg #[.int .i64 m2, .bool x2, .bool y2, .slice B2 l2 d2] := by rw [← hqe]; rfl
   rw [hqe] at hxq
   have KQ : Hid (∀ X, Q w2 X → X.cell? ⟨g2, o2 + 0 * 4, none⟩ = some (.int .i64 m2) ∧ X.cell? ⟨g2, o2 + 0 * 4 + 1, none⟩ = some (.bool x2) ∧ X.cell? ⟨g2, o2 + 0 * 4 + 2, none⟩ = some (.bool y2) ∧ X.cell? ⟨g2, o2 + 0 * 4 + 3, none⟩ = some (.slice B2 l2 d2)) := hide fun X hX => ⟨(hX.facts.1 _ _ hbq).trans v0, (hX.facts.1 _ _ hbq).trans v1, (hX.facts.1 _ _ hbq).trans v2, (hX.facts.1 _ _ hbq).trans v3⟩
   obtain ⟨g, o, m', x', y', B, l', d', qs1, e, hbp, hxp, z0, z1, z2, z3⟩ := lay_at (HSL.out.up HWQ.out) (show 0 < len by omega)
   cases e
   obtain ⟨p, hpe⟩ : ∃ p, Lay.mk m' x' y' B l' d' qs1 = p := ⟨_, rfl⟩
   have hpv : p.v = .agg #[.int .i64 m', .int .i64 x', .bool y', .slice B l' d'] := by rw [← hpe]; rfl
   rw [hpe] at hxp
   have KP : Hid (∀ X, Q w2 X → X.cell? ⟨g, o + 0 * 4, none⟩ = some (.int .i64 m') ∧ X.cell? ⟨g, o + 0 * 4 + 1, none⟩ = some (.int .i64 x') ∧ X.cell? ⟨g, o + 0 * 4 + 2, none⟩ = some (.bool y') ∧ X.cell? ⟨g, o + 0 * 4 + 3, none⟩ = some (.slice B l' d')) := hide fun X hX => ⟨(hX.facts.1 _ _ hbp).trans z0, (hX.facts.1 _ _ hbp).trans z1, (hX.facts.1 _ _ hbp).trans z2, (hX.facts.1 _ _ hbp).trans z3⟩
   obtain ⟨r, hr⟩ : ∃ r, q.isC wd p = r := ⟨_, rfl⟩
   have HIP := hide (HIH.out q (List.mem_of_getElem? hxq) p (List.mem_of_getElem? hxp) false (fun _ => ho9.part H.out (List.mem_of_getElem? hxp) (fun h => by rw [hk] at h; exact absurd h (by decide)) (by rw [hk]; decide)) (fun h => nomatch h))
   rw [hqv, hpv, hr, Bool.false_and, Bool.not_false, Bool.and_true] at HIP
   unfold R1 at HIP
   have RES : Hid (res = r) := hide (by
    rw [RES0.out]
    have h1 : (qs.map (Cel.isC wd)).headD (fun _ => false) = q.isC wd := by
     cases qs with
     | nil => simp at hxq
     | cons a t => injection hxq with hxq; subst hxq; rfl
    have h2 : ((Lay.mk 4 n f (some ⟨g, o, none⟩) len cap ps).parts[0]?).getD noL = p := by
     show (ps[0]?).getD noL = p
     rw [hxp]
     rfl
    rw [h1, h2, hr]
    rfl)
   clear hres2 hlen1 ho9 hn1 hbq hxq hqe hqv v0 v1 v2 v3 hbp hxp hpe hpv z0 z1 z2 z3 hr
   clear hl hv hq2 ih ho hqW hw2 hd hc hx hqq hql hk he1 he2
   obtain ⟨k0, k1, k2, k3, t0, t1⟩ := KA.out w2 (Q.refl _)
   obtain ⟨c0, c1, c2', c3⟩ := KX.out w2 (Q.refl _)
   go_enter Try.func84, Try.ntmps84
   go_upto_region 1 with fail
   rw [HW2.out]
   go_upto_region 15 with fail
   clear k0 k1 k2 k3 t0 t1 c0 c1 c2' c3
   refine Ri.madeZ (C := fun W0 => Q w2 W0) [] [0, 1, 2, 3, 4, 5, 6, 7, 8, 9, 10, 11, 12, 13, 14, 15, 16, 17, 18, 19, 20, 21] (fun w1 w3 X hq => X.trans hq) (Ri.phi [Ri.isV (.pointer (some ⟨W.heap.size + 2, 0, none⟩)), Ri.isV (.int .i64 x), Ri.isV (.bool true), Ri.isV (.bool true), Ri.isV (.pointer (some ⟨W.heap.size + 2, 3, none⟩)), Ri.isV (.slice (some ⟨g2, o2, none⟩) n2 c2), Ri.isV (.int .i64 (n2 : Nat)), Ri.isV (.bool true), Ri.isV (.bool true), Ri.isV (.bool true), Ri.isV (.pointer (some ⟨W.heap.size, 3, none⟩)), Ri.isV (.slice (some ⟨g, o, none⟩) len cap), Ri.isV (.pointer (some ⟨g, o + 0 * 4, none⟩)), Ri.isV (.agg #[.int .i64 m', .int .i64 x', .bool y', .slice B l' d']), Ri.isV (tgW wd b), Ri.isV (.pointer (some ⟨W.heap.size + 2, 3, none⟩)), Ri.isV (.slice (some ⟨g2, o2, none⟩) n2 c2), Ri.isV (.pointer (some ⟨g2, o2 + 0 * 4, none⟩)), Ri.isV (.agg #[.int .i64 m2, .bool x2, .bool y2, .slice B2 l2 d2]), Ri.isV (.bool r), Ri.isV (.bool r), Ri.isV (.bool r)]) (by kernel_rfl) (by kernel_rfl) (by kernel_rfl) ((Q.refl _).drew) (Ri.phi_mono ?_) (Ri.phi_fix ?_) ?_ ?_
   ·repeat' first | exact trivial | exact fun _ _ _ h _ => h | refine ⟨?_, ?_⟩
   ·repeat' first | exact trivial | exact fun _ _ _ _ h => h | refine ⟨?_, ?_⟩
   ·refine Ri.All.cons ?_ (.cons ?_ (.cons ?_ (.cons ?_ (.cons ?_ (.cons ?_ (.cons ?_ (.cons ?_ (.cons ?_ (.cons ?_ (.cons ?_ (.cons ?_ (.cons ?_ (.cons ?_ (.cons ?_ (.cons ?_ (.cons ?_ (.cons ?_ (.cons ?_ (.cons ?_ (.cons ?_ (.cons ?_ (Ri.All.nil))))))))))))))))))))))
    ·refine Ri.StepZ.q (h := fun f0 W9 hq hf Ac hA hB hO => ?_)
     have e1 := (hB 6).trans (show _ = .pointer (some ⟨W.heap.size + 2, 0, none⟩) by simp [Act.eval])
     exact Ri.wp_value _ (Ri.run_fld (f := _) rfl e1 Try.underlying31 rfl (sz := 0) (by kernel_rfl)) rfl
    ·refine Ri.StepZ.q (h := fun f0 W9 hq hf Ac hA hB hO => ?_)
     have e1 := (hA 102 0).trans (hf 0)
     exact Ri.wp_value _ (Ri.run_ld1 rfl e1 Try.underlying3 rfl ((KX.out W9 hq).1)) rfl
    ·refine Ri.StepZ.q (h := fun f0 W9 hq hf Ac hA hB hO => ?_)
     have e1 := (hA 103 1).trans (hf 1)
     have e2 : Ac.eval (.const (.int .i64 0)) = .int .i64 0 := rfl
     exact Ri.wp_value _ ((Ri.run_eqlC rfl e1 e2 Try.underlying3).trans (by rw [HE1.out])) rfl
    ·refine Ri.StepZ.q (h := fun f0 W9 hq hf Ac hA hB hO => ?_)
     have e1 := (hA 104 2).trans (hf 2)
     exact Ri.wp_value _ (Ri.run_mv rfl e1) rfl
    ·refine Ri.StepZ.gq (by kernel_rfl) rfl rfl (by simp) fun f0 W9 hq hf Ac hA hB hO => ⟨hf 3, ?_⟩
     have e1 := (hB 6).trans (show _ = .pointer (some ⟨W.heap.size + 2, 0, none⟩) by simp [Act.eval])
     exact Ri.wp_value _ (Ri.run_fld (f := _) rfl e1 Try.underlying31 rfl (sz := 0) (by kernel_rfl)) rfl
    ·refine Ri.StepZ.gq (by kernel_rfl) rfl rfl (by simp) fun f0 W9 hq hf Ac hA hB hO => ⟨hf 3, ?_⟩
     have e1 := (hA 106 4).trans (hf 4)
     exact Ri.wp_value _ (Ri.run_ld1 rfl e1 Try.underlying29 rfl ((KX.out W9 hq).2.2.2)) rfl
    ·refine Ri.StepZ.gq (by kernel_rfl) rfl rfl (by simp) fun f0 W9 hq hf Ac hA hB hO => ⟨hf 3, ?_⟩
     have e1 := (hA 107 5).trans (hf 5)
     exact Ri.wp_value _ (Ri.run_lenC rfl e1 Try.underlying29) rfl
    ·refine Ri.StepZ.gq (by kernel_rfl) rfl rfl (by simp) fun f0 W9 hq hf Ac hA hB hO => ⟨hf 3, ?_⟩
     have e1 := (hA 108 6).trans (hf 6)
     have e2 : Ac.eval (.const (.int .i64 1)) = .int .i64 1 := rfl
     exact Ri.wp_value _ ((Ri.run_eqlC rfl e1 e2 Try.underlying3).trans (by rw [HE2.out])) rfl
    ·refine Ri.StepZ.q (h := fun f0 W9 hq hf Ac hA hB hO => ?_)
     have e1 := (hA 105 3).trans (hf 3)
     have e2 := (hA 109 7).trans (hf 7)
     exact Ri.wp_value _ (Ri.run_pick rfl e1 (by simpa [Act.eval] using e2)) rfl
    ·refine Ri.StepZ.q (h := fun f0 W9 hq hf Ac hA hB hO => ?_)
     have e1 := (hA 110 8).trans (hf 8)
     exact Ri.wp_value _ (Ri.run_mv rfl e1) rfl
    ·refine Ri.StepZ.gq (by kernel_rfl) rfl rfl (by simp) fun f0 W9 hq hf Ac hA hB hO => ⟨hf 9, ?_⟩
     have e1 := (hB 4).trans (show _ = .pointer (some ⟨W.heap.size, 0, none⟩) by simp [Act.eval])
     exact Ri.wp_value _ (Ri.run_fld (f := _) rfl e1 Try.underlying24 rfl (sz := 0) (by kernel_rfl)) rfl
    ·refine Ri.StepZ.gq (by kernel_rfl) rfl rfl (by simp) fun f0 W9 hq hf Ac hA hB hO => ⟨hf 9, ?_⟩
     have e1 := (hA 112 10).trans (hf 10)
     exact Ri.wp_value _ (Ri.run_ld1 rfl e1 Try.underlying22 rfl ((KA.out W9 hq).2.2.2.1)) rfl
    ·refine Ri.StepZ.gq (by kernel_rfl) rfl rfl (by simp) fun f0 W9 hq hf Ac hA hB hO => ⟨hf 9, ?_⟩
     have e1 := (hA 113 11).trans (hf 11)
     have e2 : Ac.eval (.const (.int .i64 0)) = .int .i64 ((0 : Nat) : Int) := rfl
     exact Ri.wp_value _ (Ri.run_idx rfl e1 e2 Try.underlying22 (sz := 4) (by kernel_rfl) HLP.out) rfl
    ·refine Ri.StepZ.gq (by kernel_rfl) rfl rfl (by simp) fun f0 W9 hq hf Ac hA hB hO => ⟨hf 9, ?_⟩
     have e1 := (hA 114 12).trans (hf 12)
     obtain ⟨b0, b1, b2, b3⟩ := KP.out W9 hq
     exact Ri.wp_value _ (Ri.run_ldagg rfl e1 (c4G b0 b1 b2 b3) Try.underlying24 rfl (by kernel_rfl)) rfl
    ·refine Ri.StepZ.gq (by kernel_rfl) rfl rfl (by simp) fun f0 W9 hq hf Ac hA hB hO => ⟨hf 9, ?_⟩
     have e1 := (hB 5).trans (show _ = .pointer (some ⟨W.heap.size + 1, 0, none⟩) by simp [Act.eval])
     obtain ⟨-, -, -, -, u0, u1⟩ := KA.out W9 hq
     exact Ri.wp_value _ (Ri.run_ldagg (cs := [.int .i64 wd, .bool b]) rfl e1 (c2L u0 u1) Try.underlying26 rfl (by kernel_rfl)) rfl
    ·refine Ri.StepZ.gq (by kernel_rfl) rfl rfl (by simp) fun f0 W9 hq hf Ac hA hB hO => ⟨hf 9, ?_⟩
     have e1 := (hB 6).trans (show _ = .pointer (some ⟨W.heap.size + 2, 0, none⟩) by simp [Act.eval])
     exact Ri.wp_value _ (Ri.run_fld (f := _) rfl e1 Try.underlying31 rfl (sz := 0) (by kernel_rfl)) rfl
    ·refine Ri.StepZ.gq (by kernel_rfl) rfl rfl (by simp) fun f0 W9 hq hf Ac hA hB hO => ⟨hf 9, ?_⟩
     have e1 := (hA 117 15).trans (hf 15)
     exact Ri.wp_value _ (Ri.run_ld1 rfl e1 Try.underlying29 rfl ((KX.out W9 hq).2.2.2)) rfl
    ·refine Ri.StepZ.gq (by kernel_rfl) rfl rfl (by simp) fun f0 W9 hq hf Ac hA hB hO => ⟨hf 9, ?_⟩
     have e1 := (hA 118 16).trans (hf 16)
     have e2 : Ac.eval (.const (.int .i64 0)) = .int .i64 ((0 : Nat) : Int) := rfl
     exact Ri.wp_value _ (Ri.run_idx rfl e1 e2 Try.underlying29 (sz := 4) (by kernel_rfl) HLQ.out) rfl
    ·refine Ri.StepZ.gq (by kernel_rfl) rfl rfl (by simp) fun f0 W9 hq hf Ac hA hB hO => ⟨hf 9, ?_⟩
     have e1 := (hA 119 17).trans (hf 17)
     obtain ⟨b0, b1, b2, b3⟩ := KQ.out W9 hq
     exact Ri.wp_value _ (Ri.run_ldagg rfl e1 (c4G b0 b1 b2 b3) Try.underlying31 rfl (by kernel_rfl)) rfl
    ·refine Ri.StepZ.gq (by kernel_rfl) rfl rfl (by simp) fun f0 W9 hq hf Ac hA hB hO => ⟨hf 9, ?_⟩
     have e1 := (hA 115 13).trans (hf 13)
     have e2 := (hA 116 14).trans (hf 14)
     have e3 := (hA 120 18).trans (hf 18)
     have e4 : Ac.eval (.const (.bool false)) = .bool false := rfl
     refine Ri.wp_call #[.agg #[.int .i64 m', .int .i64 x', .bool y', .slice B l' d'], tgW wd b, .agg #[.int .i64 m2, .bool x2, .bool y2, .slice B2 l2 d2], .bool false] rfl (by simp [e1, e2, e3, e4]) Try.func84 (by kernel_rfl) (by kernel_rfl) ((HIP.out W9 (HWQ.out.trans hq)).mono ?_)
     rintro e w9 ⟨rfl, h1⟩
     exact ⟨_, rfl, h1, rfl⟩
    ·refine Ri.StepZ.q (h := fun f0 W9 hq hf Ac hA hB hO => ?_)
     have e1 := (hA 111 9).trans (hf 9)
     have e2 := (hA 121 19).trans (hf 19)
     exact Ri.wp_value _ (Ri.run_pick rfl e1 (by simpa [Act.eval] using e2)) rfl
    ·refine Ri.StepZ.q (h := fun f0 W9 hq hf Ac hA hB hO => ?_)
     have e1 := (hA 122 20).trans (hf 20)
     exact Ri.wp_value _ (Ri.run_asg rfl e1) rfl
   ·intro f0 w8 hq8 hf
    have hl9 := hf 21 (by simp) (by kernel_rfl)
    simp only [Ri.phi, List.getD_cons_zero, List.getD_cons_succ, Ri.isV] at hl9
    simp only [Ri.acts, Act.put, List.setIfInBounds_toArray, List.set_cons_zero, List.set_cons_succ, Nat.zero_add, Nat.reduceAdd]
    rw [hl9]
    have HQ8 := hide (HQ2.out.trans hq8)
    clear hf hl9 hq8
    go_wp2_with fail
    go_ret
    exact ⟨by rw [RES.out] <;> rfl, HQ8.out⟩
theorem rCell_8t {w : World} {k n : Int} {f : Bool} {A : Option Addr} {len cap : Nat} {ps : List Lay} (hl : LayR w (.mk k n f A len cap ps)) (hv : VL (.mk k n f A len cap ps)) (hcnt : (Lay.mk k n f A len cap ps).count ≤ 1048576) (wd : Int) (hw : okW wd) (b : Bool) {x : Int} {nul und pk : Bool} (ho : pk = false → Okw wd (.mk k n f A len cap ps)) {A2 : Option Addr} {n2 c2 : Nat} {qs : List Cel} (hq2 : Sl 4 encC w A2 n2 c2 qs) (hn2 : n2 ≤ 140737488351232) (ih : ∀ q ∈ qs, ∀ p ∈ ps, ∀ pk : Bool, (pk = false → Okw wd p) → (pk = true → p.k = 1 ∨ p.k = 2) → ∀ W, Q w W → Calls Try.prog 84 #[p.v, tgW wd b, q.v, .bool pk] W (R1 W (.bool (q.isC wd p && !(pk && q.und))))) (hu : und = false) (hnl : nul = true) (hk0 : k = 8) (hpk : pk = true → k = 1 ∨ k = 2) : ∀ W, Q w W → Calls Try.prog 84 #[.agg #[.int .i64 k, .int .i64 n, .bool f, .slice A len cap], tgW wd b, .agg #[.int .i64 x, .bool nul, .bool und, .slice A2 n2 c2], .bool pk] W (R1 W (.bool (cellC wd (.mk k n f A len cap ps) x nul und (qs.map (Cel.isC wd)) (qs.map Cel.und) && !(pk && und)))) := by
 intro W hqW
 unfold R1
 have hk : (Lay.mk k n f A len cap ps).k = k := rfl
 have hql : ((qs.map (Cel.isC wd)).length : Int) = (n2 : Int) := by rw [List.length_map, hq2.len]
 subst hu hnl hk0
 have HSL : Hid (Sl 4 encL w A len cap ps) := by cases hl with | @mk _ _ _ _ _ _ _ hk hn hsl hnil hcap hall => exact hide hsl
 have hlb : (len : Int) ≤ 140737488351232 := by cases hl with | @mk _ _ _ _ _ _ _ hk hn hsl hnil hcap hall => omega
 have H := hide hl
 have HV := hide hv
 have HSQ := hide hq2
 have HIH := hide ih
 have HOK := hide ho
 have HQW := hide hqW
 obtain ⟨w2, hw2⟩ : ∃ w2, ((W.alloc (.cells #[.int .i64 8, .int .i64 n, .bool f, .slice A len cap] 24)).alloc (.cells #[.int .i64 wd, .bool b] 26)).alloc (.cells #[.int .i64 x, .bool true, .bool false, .slice A2 n2 c2] 31) = w2 := ⟨_, rfl⟩
 obtain ⟨hqq, hs2, hc, hd, hx⟩ := box3 hw2
 have hb0 : W.heap.size < w2.heap.size := by omega
 have hb1 : W.heap.size + 1 < w2.heap.size := by omega
 have hb2 : W.heap.size + 2 < w2.heap.size := by omega
 have KA := hide fun X (hX : Q w2 X) => (cs42 hX hb0 hc hb1 hd : Cs42 X W.heap.size (.int .i64 8) (.int .i64 n) (.bool f) (.slice A len cap) (W.heap.size + 1) (.int .i64 wd) (.bool b))
 have KX := hide fun X (hX : Q w2 X) => (cs4 hX hb2 hx : Cs4 X (W.heap.size + 2) (.int .i64 x) (.bool true) (.bool false) (.slice A2 n2 c2))
 have HW2 := hide hw2
 have HQ2 := hide hqq
 have HWQ := hide (hqW.trans hqq)
 have hpk0 : pk = false := by
  cases pk with
  | false => rfl
  | true => have := hpk rfl; omega
 subst hpk0
 have ho9 := ho rfl
 obtain ⟨e1, he1⟩ : ∃ e, decide (0 ≤ x) = e := ⟨_, rfl⟩
 obtain ⟨e2, he2⟩ : ∃ e, decide (x < (len : Int)) = e := ⟨_, rfl⟩
 obtain ⟨e3, he3⟩ : ∃ e, ((n2 : Int) == 1) = e := ⟨_, rfl⟩
 have hpl : ((Lay.mk 8 n f A len cap ps).parts.length : Int) = (len : Int) := by
  have := HSL.out.len
  show (ps.length : Int) = len
  omega
 obtain ⟨res, hres⟩ : ∃ r, (cellC wd (.mk 8 n f A len cap ps) x true false (qs.map (Cel.isC wd)) (qs.map Cel.und) && !(false && false)) = r := ⟨_, rfl⟩
 have hres2 : res = cellC wd (.mk 8 n f A len cap ps) x true false (qs.map (Cel.isC wd)) (qs.map Cel.und) := by rw [← hres]; simp
 rw [hres]
 clear hres
 rw [cellC_nul rfl rfl, hk, show ((8 : Int) == 4) = false by decide, Bool.false_and] at hres2
 have RES0 := hide hres2
 have HE1 := hide he1
 have HE2 := hide he2
 have HE3 := hide he3
 clear hpl
 cases e1 with
 | false =>
  have RES : Hid (res = false) := hide (by rw [RES0.out] <;> rfl)
  clear hres2 ho9
  clear hl hv hq2 ih ho hqW hw2 hd hc hx hqq hql hk he1 he2 he3
  obtain ⟨k0, k1, k2, k3, t0, t1⟩ := KA.out w2 (Q.refl _)
  obtain ⟨c0, c1, c2', c3⟩ := KX.out w2 (Q.refl _)
  go_enter Try.func84, Try.ntmps84
  go_upto_region 1 with fail
  rw [HW2.out]
  go_upto_region 17 with fail
  clear k0 k1 k2 k3 t0 t1 c0 c1 c2' c3
  refine Ri.madeZ (C := fun W0 => Q w2 W0) [] [0, 1, 2, 3, 4, 5, 6, 7, 8, 9, 10, 11, 12, 13, 14, 15, 16, 17, 18, 19, 20, 21, 22, 23, 24, 25, 26, 27, 28, 29, 30, 31, 32, 33, 34, 35, 36] (fun w1 w3 X hq => X.trans hq) (Ri.phi [Ri.isV (.pointer (some ⟨W.heap.size + 2, 0, none⟩)), Ri.isV (.int .i64 x), Ri.isV (.bool false), Ri.isV (.bool false), Ri.isV (undef), Ri.isV (undef), Ri.isV (undef), Ri.isV (undef), Ri.isV (undef), Ri.isV (undef), Ri.isV (.bool false), Ri.isV (.bool false), Ri.isV (undef), Ri.isV (undef), Ri.isV (undef), Ri.isV (.bool false), Ri.isV (.bool false), Ri.isV (undef), Ri.isV (undef), Ri.isV (undef), Ri.isV (undef), Ri.isV (.bool false), Ri.isV (.bool false), Ri.isV (undef), Ri.isV (undef), Ri.isV (undef), Ri.isV (undef), Ri.isV (undef), Ri.isV (undef), Ri.isV (undef), Ri.isV (undef), Ri.isV (undef), Ri.isV (undef), Ri.isV (undef), Ri.isV (undef), Ri.isV (.bool false), Ri.isV (.bool false)]) (by kernel_rfl) (by kernel_rfl) (by kernel_rfl) ((Q.refl _).drew) (Ri.phi_mono ?_) (Ri.phi_fix ?_) ?_ ?_
  ·repeat' first | exact trivial | exact fun _ _ _ h _ => h | refine ⟨?_, ?_⟩
  ·repeat' first | exact trivial | exact fun _ _ _ _ h => h | refine ⟨?_, ?_⟩
  ·refine Ri.All.cons ?_ (.cons ?_ (.cons ?_ (.cons ?_ (.cons ?_ (.cons ?_ (.cons ?_ (.cons ?_ (.cons ?_ (.cons ?_ (.cons ?_ (.cons ?_ (.cons ?_ (.cons ?_ (.cons ?_ (.cons ?_ (.cons ?_ (.cons ?_ (.cons ?_ (.cons ?_ (.cons ?_ (.cons ?_ (.cons ?_ (.cons ?_ (.cons ?_ (.cons ?_ (.cons ?_ (.cons ?_ (.cons ?_ (.cons ?_ (.cons ?_ (.cons ?_ (.cons ?_ (.cons ?_ (.cons ?_ (.cons ?_ (.cons ?_ (Ri.All.nil)))))))))))))))))))))))))))))))))))))
   ·refine Ri.StepZ.q (h := fun f0 W9 hq hf Ac hA hB hO => ?_)
    have e1 := (hB 6).trans (show _ = .pointer (some ⟨W.heap.size + 2, 0, none⟩) by simp [Act.eval])
    exact Ri.wp_value _ (Ri.run_fld (f := _) rfl e1 Try.underlying31 rfl (sz := 0) (by kernel_rfl)) rfl
   ·refine Ri.StepZ.q (h := fun f0 W9 hq hf Ac hA hB hO => ?_)
    have e1 := (hA 125 0).trans (hf 0)
    exact Ri.wp_value _ (Ri.run_ld1 rfl e1 Try.underlying3 rfl ((KX.out W9 hq).1)) rfl
   ·refine Ri.StepZ.q (h := fun f0 W9 hq hf Ac hA hB hO => ?_)
    have e1 := (hA 126 1).trans (hf 1)
    have e2 : Ac.eval (.const (.int .i64 0)) = .int .i64 0 := rfl
    exact Ri.wp_value _ ((Ri.run_geqJ rfl e1 e2 Try.underlying3).trans (by rw [HE1.out])) rfl
   ·refine Ri.StepZ.q (h := fun f0 W9 hq hf Ac hA hB hO => ?_)
    have e1 := (hA 127 2).trans (hf 2)
    exact Ri.wp_value _ (Ri.run_mv rfl e1) rfl
   iterate 6 · refine Ri.StepZ.off rfl rfl (by simp) fun f0 W9 hq hf => ⟨hf 3, rfl⟩
   ·refine Ri.StepZ.q (h := fun f0 W9 hq hf Ac hA hB hO => ?_)
    have e1 := (hA 128 3).trans (hf 3)
    exact Ri.wp_value _ (Ri.run_pick rfl e1 (by simp [Act.eval])) rfl
   ·refine Ri.StepZ.q (h := fun f0 W9 hq hf Ac hA hB hO => ?_)
    have e1 := (hA 135 10).trans (hf 10)
    exact Ri.wp_value _ (Ri.run_mv rfl e1) rfl
   iterate 3 · refine Ri.StepZ.off rfl rfl (by simp) fun f0 W9 hq hf => ⟨hf 11, rfl⟩
   ·refine Ri.StepZ.q (h := fun f0 W9 hq hf Ac hA hB hO => ?_)
    have e1 := (hA 136 11).trans (hf 11)
    exact Ri.wp_value _ (Ri.run_pick rfl e1 (by simp [Act.eval])) rfl
   ·refine Ri.StepZ.q (h := fun f0 W9 hq hf Ac hA hB hO => ?_)
    have e1 := (hA 140 15).trans (hf 15)
    exact Ri.wp_value _ (Ri.run_mv rfl e1) rfl
   iterate 4 · refine Ri.StepZ.off rfl rfl (by simp) fun f0 W9 hq hf => ⟨hf 16, rfl⟩
   ·refine Ri.StepZ.q (h := fun f0 W9 hq hf Ac hA hB hO => ?_)
    have e1 := (hA 141 16).trans (hf 16)
    exact Ri.wp_value _ (Ri.run_pick rfl e1 (by simp [Act.eval])) rfl
   ·refine Ri.StepZ.q (h := fun f0 W9 hq hf Ac hA hB hO => ?_)
    have e1 := (hA 146 21).trans (hf 21)
    exact Ri.wp_value _ (Ri.run_mv rfl e1) rfl
   iterate 12 · refine Ri.StepZ.off rfl rfl (by simp) fun f0 W9 hq hf => ⟨hf 22, rfl⟩
   ·refine Ri.StepZ.q (h := fun f0 W9 hq hf Ac hA hB hO => ?_)
    have e1 := (hA 147 22).trans (hf 22)
    exact Ri.wp_value _ (Ri.run_pick rfl e1 (by simp [Act.eval])) rfl
   ·refine Ri.StepZ.q (h := fun f0 W9 hq hf Ac hA hB hO => ?_)
    have e1 := (hA 160 35).trans (hf 35)
    exact Ri.wp_value _ (Ri.run_asg rfl e1) rfl
  ·intro f0 w8 hq8 hf
   have hl9 := hf 36 (by simp) (by kernel_rfl)
   simp only [Ri.phi, List.getD_cons_zero, List.getD_cons_succ, Ri.isV] at hl9
   simp only [Ri.acts, Act.put, List.setIfInBounds_toArray, List.set_cons_zero, List.set_cons_succ, Nat.zero_add, Nat.reduceAdd]
   rw [hl9]
   have HQ8 := hide (HQ2.out.trans hq8)
   clear hf hl9 hq8
   go_wp2_with fail
   go_ret
   exact ⟨by rw [RES.out] <;> rfl, HQ8.out⟩
 | true =>
  cases e2 with
  | false =>
   have RES : Hid (res = false) := hide (by rw [RES0.out] <;> rfl)
   clear hres2 ho9
   clear hl hv hq2 ih ho hqW hw2 hd hc hx hqq hql hk he1 he2 he3
   obtain ⟨k0, k1, k2, k3, t0, t1⟩ := KA.out w2 (Q.refl _)
   obtain ⟨c0, c1, c2', c3⟩ := KX.out w2 (Q.refl _)
   go_enter Try.func84, Try.ntmps84
   go_upto_region 1 with fail
   rw [HW2.out]
   go_upto_region 17 with fail
   clear k0 k1 k2 k3 t0 t1 c0 c1 c2' c3
   refine Ri.madeZ (C := fun W0 => Q w2 W0) [] [0, 1, 2, 3, 4, 5, 6, 7, 8, 9, 10, 11, 12, 13, 14, 15, 16, 17, 18, 19, 20, 21, 22, 23, 24, 25, 26, 27, 28, 29, 30, 31, 32, 33, 34, 35, 36] (fun w1 w3 X hq => X.trans hq) (Ri.phi [Ri.isV (.pointer (some ⟨W.heap.size + 2, 0, none⟩)), Ri.isV (.int .i64 x), Ri.isV (.bool true), Ri.isV (.bool true), Ri.isV (.pointer (some ⟨W.heap.size + 2, 0, none⟩)), Ri.isV (.int .i64 x), Ri.isV (.pointer (some ⟨W.heap.size, 3, none⟩)), Ri.isV (.slice A len cap), Ri.isV (.int .i64 (len : Nat)), Ri.isV (.bool false), Ri.isV (.bool false), Ri.isV (.bool false), Ri.isV (undef), Ri.isV (undef), Ri.isV (undef), Ri.isV (.bool false), Ri.isV (.bool false), Ri.isV (undef), Ri.isV (undef), Ri.isV (undef), Ri.isV (undef), Ri.isV (.bool false), Ri.isV (.bool false), Ri.isV (undef), Ri.isV (undef), Ri.isV (undef), Ri.isV (undef), Ri.isV (undef), Ri.isV (undef), Ri.isV (undef), Ri.isV (undef), Ri.isV (undef), Ri.isV (undef), Ri.isV (undef), Ri.isV (undef), Ri.isV (.bool false), Ri.isV (.bool false)]) (by kernel_rfl) (by kernel_rfl) (by kernel_rfl) ((Q.refl _).drew) (Ri.phi_mono ?_) (Ri.phi_fix ?_) ?_ ?_
   ·repeat' first | exact trivial | exact fun _ _ _ h _ => h | refine ⟨?_, ?_⟩
   ·repeat' first | exact trivial | exact fun _ _ _ _ h => h | refine ⟨?_, ?_⟩
   ·refine Ri.All.cons ?_ (.cons ?_ (.cons ?_ (.cons ?_ (.cons ?_ (.cons ?_ (.cons ?_ (.cons ?_ (.cons ?_ (.cons ?_ (.cons ?_ (.cons ?_ (.cons ?_ (.cons ?_ (.cons ?_ (.cons ?_ (.cons ?_ (.cons ?_ (.cons ?_ (.cons ?_ (.cons ?_ (.cons ?_ (.cons ?_ (.cons ?_ (.cons ?_ (.cons ?_ (.cons ?_ (.cons ?_ (.cons ?_ (.cons ?_ (.cons ?_ (.cons ?_ (.cons ?_ (.cons ?_ (.cons ?_ (.cons ?_ (.cons ?_ (Ri.All.nil)))))))))))))))))))))))))))))))))))))
    ·refine Ri.StepZ.q (h := fun f0 W9 hq hf Ac hA hB hO => ?_)
     have e1 := (hB 6).trans (show _ = .pointer (some ⟨W.heap.size + 2, 0, none⟩) by simp [Act.eval])
     exact Ri.wp_value _ (Ri.run_fld (f := _) rfl e1 Try.underlying31 rfl (sz := 0) (by kernel_rfl)) rfl
    ·refine Ri.StepZ.q (h := fun f0 W9 hq hf Ac hA hB hO => ?_)
     have e1 := (hA 125 0).trans (hf 0)
     exact Ri.wp_value _ (Ri.run_ld1 rfl e1 Try.underlying3 rfl ((KX.out W9 hq).1)) rfl
    ·refine Ri.StepZ.q (h := fun f0 W9 hq hf Ac hA hB hO => ?_)
     have e1 := (hA 126 1).trans (hf 1)
     have e2 : Ac.eval (.const (.int .i64 0)) = .int .i64 0 := rfl
     exact Ri.wp_value _ ((Ri.run_geqJ rfl e1 e2 Try.underlying3).trans (by rw [HE1.out])) rfl
    ·refine Ri.StepZ.q (h := fun f0 W9 hq hf Ac hA hB hO => ?_)
     have e1 := (hA 127 2).trans (hf 2)
     exact Ri.wp_value _ (Ri.run_mv rfl e1) rfl
    ·refine Ri.StepZ.gq (by kernel_rfl) rfl rfl (by simp) fun f0 W9 hq hf Ac hA hB hO => ⟨hf 3, ?_⟩
     have e1 := (hB 6).trans (show _ = .pointer (some ⟨W.heap.size + 2, 0, none⟩) by simp [Act.eval])
     exact Ri.wp_value _ (Ri.run_fld (f := _) rfl e1 Try.underlying31 rfl (sz := 0) (by kernel_rfl)) rfl
    ·refine Ri.StepZ.gq (by kernel_rfl) rfl rfl (by simp) fun f0 W9 hq hf Ac hA hB hO => ⟨hf 3, ?_⟩
     have e1 := (hA 129 4).trans (hf 4)
     exact Ri.wp_value _ (Ri.run_ld1 rfl e1 Try.underlying3 rfl ((KX.out W9 hq).1)) rfl
    ·refine Ri.StepZ.gq (by kernel_rfl) rfl rfl (by simp) fun f0 W9 hq hf Ac hA hB hO => ⟨hf 3, ?_⟩
     have e1 := (hB 4).trans (show _ = .pointer (some ⟨W.heap.size, 0, none⟩) by simp [Act.eval])
     exact Ri.wp_value _ (Ri.run_fld (f := _) rfl e1 Try.underlying24 rfl (sz := 0) (by kernel_rfl)) rfl
    ·refine Ri.StepZ.gq (by kernel_rfl) rfl rfl (by simp) fun f0 W9 hq hf Ac hA hB hO => ⟨hf 3, ?_⟩
     have e1 := (hA 131 6).trans (hf 6)
     exact Ri.wp_value _ (Ri.run_ld1 rfl e1 Try.underlying22 rfl ((KA.out W9 hq).2.2.2.1)) rfl
    ·refine Ri.StepZ.gq (by kernel_rfl) rfl rfl (by simp) fun f0 W9 hq hf Ac hA hB hO => ⟨hf 3, ?_⟩
     have e1 := (hA 132 7).trans (hf 7)
     exact Ri.wp_value _ (Ri.run_lenC rfl e1 Try.underlying22) rfl
    ·refine Ri.StepZ.gq (by kernel_rfl) rfl rfl (by simp) fun f0 W9 hq hf Ac hA hB hO => ⟨hf 3, ?_⟩
     have e1 := (hA 130 5).trans (hf 5)
     have e2 := (hA 133 8).trans (hf 8)
     exact Ri.wp_value _ ((Ri.run_lssC rfl e1 e2 Try.underlying3).trans (by rw [HE2.out])) rfl
    ·refine Ri.StepZ.q (h := fun f0 W9 hq hf Ac hA hB hO => ?_)
     have e1 := (hA 128 3).trans (hf 3)
     have e2 := (hA 134 9).trans (hf 9)
     exact Ri.wp_value _ (Ri.run_pick rfl e1 (by simpa [Act.eval] using e2)) rfl
    ·refine Ri.StepZ.q (h := fun f0 W9 hq hf Ac hA hB hO => ?_)
     have e1 := (hA 135 10).trans (hf 10)
     exact Ri.wp_value _ (Ri.run_mv rfl e1) rfl
    iterate 3 · refine Ri.StepZ.off rfl rfl (by simp) fun f0 W9 hq hf => ⟨hf 11, rfl⟩
    ·refine Ri.StepZ.q (h := fun f0 W9 hq hf Ac hA hB hO => ?_)
     have e1 := (hA 136 11).trans (hf 11)
     exact Ri.wp_value _ (Ri.run_pick rfl e1 (by simp [Act.eval])) rfl
    ·refine Ri.StepZ.q (h := fun f0 W9 hq hf Ac hA hB hO => ?_)
     have e1 := (hA 140 15).trans (hf 15)
     exact Ri.wp_value _ (Ri.run_mv rfl e1) rfl
    iterate 4 · refine Ri.StepZ.off rfl rfl (by simp) fun f0 W9 hq hf => ⟨hf 16, rfl⟩
    ·refine Ri.StepZ.q (h := fun f0 W9 hq hf Ac hA hB hO => ?_)
     have e1 := (hA 141 16).trans (hf 16)
     exact Ri.wp_value _ (Ri.run_pick rfl e1 (by simp [Act.eval])) rfl
    ·refine Ri.StepZ.q (h := fun f0 W9 hq hf Ac hA hB hO => ?_)
     have e1 := (hA 146 21).trans (hf 21)
     exact Ri.wp_value _ (Ri.run_mv rfl e1) rfl
    iterate 12 · refine Ri.StepZ.off rfl rfl (by simp) fun f0 W9 hq hf => ⟨hf 22, rfl⟩
    ·refine Ri.StepZ.q (h := fun f0 W9 hq hf Ac hA hB hO => ?_)
     have e1 := (hA 147 22).trans (hf 22)
     exact Ri.wp_value _ (Ri.run_pick rfl e1 (by simp [Act.eval])) rfl
    ·refine Ri.StepZ.q (h := fun f0 W9 hq hf Ac hA hB hO => ?_)
     have e1 := (hA 160 35).trans (hf 35)
     exact Ri.wp_value _ (Ri.run_asg rfl e1) rfl
   ·intro f0 w8 hq8 hf
    have hl9 := hf 36 (by simp) (by kernel_rfl)
    simp only [Ri.phi, List.getD_cons_zero, List.getD_cons_succ, Ri.isV] at hl9
    simp only [Ri.acts, Act.put, List.setIfInBounds_toArray, List.set_cons_zero, List.set_cons_succ, Nat.zero_add, Nat.reduceAdd]
    rw [hl9]
    have HQ8 := hide (HQ2.out.trans hq8)
    clear hf hl9 hq8
    go_wp2_with fail
    go_ret
    exact ⟨by rw [RES.out] <;> rfl, HQ8.out⟩
  | true =>
   have RES : Hid (res = false) := hide (by rw [RES0.out] <;> rfl)
   clear hres2 ho9
   clear hl hv hq2 ih ho hqW hw2 hd hc hx hqq hql hk he1 he2 he3
   obtain ⟨k0, k1, k2, k3, t0, t1⟩ := KA.out w2 (Q.refl _)
   obtain ⟨c0, c1, c2', c3⟩ := KX.out w2 (Q.refl _)
   go_enter Try.func84, Try.ntmps84
   go_upto_region 1 with fail
   rw [HW2.out]
   go_upto_region 17 with fail
   clear k0 k1 k2 k3 t0 t1 c0 c1 c2' c3
   refine Ri.madeZ (C := fun W0 => Q w2 W0) [] [0, 1, 2, 3, 4, 5, 6, 7, 8, 9, 10, 11, 12, 13, 14, 15, 16, 17, 18, 19, 20, 21, 22, 23, 24, 25, 26, 27, 28, 29, 30, 31, 32, 33, 34, 35, 36] (fun w1 w3 X hq => X.trans hq) (Ri.phi [Ri.isV (.pointer (some ⟨W.heap.size + 2, 0, none⟩)), Ri.isV (.int .i64 x), Ri.isV (.bool true), Ri.isV (.bool true), Ri.isV (.pointer (some ⟨W.heap.size + 2, 0, none⟩)), Ri.isV (.int .i64 x), Ri.isV (.pointer (some ⟨W.heap.size, 3, none⟩)), Ri.isV (.slice A len cap), Ri.isV (.int .i64 (len : Nat)), Ri.isV (.bool true), Ri.isV (.bool true), Ri.isV (.bool true), Ri.isV (.pointer (some ⟨W.heap.size + 2, 1, none⟩)), Ri.isV (.bool true), Ri.isV (.bool false), Ri.isV (.bool false), Ri.isV (.bool false), Ri.isV (undef), Ri.isV (undef), Ri.isV (undef), Ri.isV (undef), Ri.isV (.bool false), Ri.isV (.bool false), Ri.isV (undef), Ri.isV (undef), Ri.isV (undef), Ri.isV (undef), Ri.isV (undef), Ri.isV (undef), Ri.isV (undef), Ri.isV (undef), Ri.isV (undef), Ri.isV (undef), Ri.isV (undef), Ri.isV (undef), Ri.isV (.bool false), Ri.isV (.bool false)]) (by kernel_rfl) (by kernel_rfl) (by kernel_rfl) ((Q.refl _).drew) (Ri.phi_mono ?_) (Ri.phi_fix ?_) ?_ ?_
   ·repeat' first | exact trivial | exact fun _ _ _ h _ => h | refine ⟨?_, ?_⟩
   ·repeat' first | exact trivial | exact fun _ _ _ _ h => h | refine ⟨?_, ?_⟩
   ·refine Ri.All.cons ?_ (.cons ?_ (.cons ?_ (.cons ?_ (.cons ?_ (.cons ?_ (.cons ?_ (.cons ?_ (.cons ?_ (.cons ?_ (.cons ?_ (.cons ?_ (.cons ?_ (.cons ?_ (.cons ?_ (.cons ?_ (.cons ?_ (.cons ?_ (.cons ?_ (.cons ?_ (.cons ?_ (.cons ?_ (.cons ?_ (.cons ?_ (.cons ?_ (.cons ?_ (.cons ?_ (.cons ?_ (.cons ?_ (.cons ?_ (.cons ?_ (.cons ?_ (.cons ?_ (.cons ?_ (.cons ?_ (.cons ?_ (.cons ?_ (Ri.All.nil)))))))))))))))))))))))))))))))))))))
    ·refine Ri.StepZ.q (h := fun f0 W9 hq hf Ac hA hB hO => ?_)
     have e1 := (hB 6).trans (show _ = .pointer (some ⟨W.heap.size + 2, 0, none⟩) by simp [Act.eval])
     exact Ri.wp_value _ (Ri.run_fld (f := _) rfl e1 Try.underlying31 rfl (sz := 0) (by kernel_rfl)) rfl
    ·refine Ri.StepZ.q (h := fun f0 W9 hq hf Ac hA hB hO => ?_)
     have e1 := (hA 125 0).trans (hf 0)
     exact Ri.wp_value _ (Ri.run_ld1 rfl e1 Try.underlying3 rfl ((KX.out W9 hq).1)) rfl
    ·refine Ri.StepZ.q (h := fun f0 W9 hq hf Ac hA hB hO => ?_)
     have e1 := (hA 126 1).trans (hf 1)
     have e2 : Ac.eval (.const (.int .i64 0)) = .int .i64 0 := rfl
     exact Ri.wp_value _ ((Ri.run_geqJ rfl e1 e2 Try.underlying3).trans (by rw [HE1.out])) rfl
    ·refine Ri.StepZ.q (h := fun f0 W9 hq hf Ac hA hB hO => ?_)
     have e1 := (hA 127 2).trans (hf 2)
     exact Ri.wp_value _ (Ri.run_mv rfl e1) rfl
    ·refine Ri.StepZ.gq (by kernel_rfl) rfl rfl (by simp) fun f0 W9 hq hf Ac hA hB hO => ⟨hf 3, ?_⟩
     have e1 := (hB 6).trans (show _ = .pointer (some ⟨W.heap.size + 2, 0, none⟩) by simp [Act.eval])
     exact Ri.wp_value _ (Ri.run_fld (f := _) rfl e1 Try.underlying31 rfl (sz := 0) (by kernel_rfl)) rfl
    ·refine Ri.StepZ.gq (by kernel_rfl) rfl rfl (by simp) fun f0 W9 hq hf Ac hA hB hO => ⟨hf 3, ?_⟩
     have e1 := (hA 129 4).trans (hf 4)
     exact Ri.wp_value _ (Ri.run_ld1 rfl e1 Try.underlying3 rfl ((KX.out W9 hq).1)) rfl
    ·refine Ri.StepZ.gq (by kernel_rfl) rfl rfl (by simp) fun f0 W9 hq hf Ac hA hB hO => ⟨hf 3, ?_⟩
     have e1 := (hB 4).trans (show _ = .pointer (some ⟨W.heap.size, 0, none⟩) by simp [Act.eval])
     exact Ri.wp_value _ (Ri.run_fld (f := _) rfl e1 Try.underlying24 rfl (sz := 0) (by kernel_rfl)) rfl
    ·refine Ri.StepZ.gq (by kernel_rfl) rfl rfl (by simp) fun f0 W9 hq hf Ac hA hB hO => ⟨hf 3, ?_⟩
     have e1 := (hA 131 6).trans (hf 6)
     exact Ri.wp_value _ (Ri.run_ld1 rfl e1 Try.underlying22 rfl ((KA.out W9 hq).2.2.2.1)) rfl
    ·refine Ri.StepZ.gq (by kernel_rfl) rfl rfl (by simp) fun f0 W9 hq hf Ac hA hB hO => ⟨hf 3, ?_⟩
     have e1 := (hA 132 7).trans (hf 7)
     exact Ri.wp_value _ (Ri.run_lenC rfl e1 Try.underlying22) rfl
    ·refine Ri.StepZ.gq (by kernel_rfl) rfl rfl (by simp) fun f0 W9 hq hf Ac hA hB hO => ⟨hf 3, ?_⟩
     have e1 := (hA 130 5).trans (hf 5)
     have e2 := (hA 133 8).trans (hf 8)
     exact Ri.wp_value _ ((Ri.run_lssC rfl e1 e2 Try.underlying3).trans (by rw [HE2.out])) rfl
    ·refine Ri.StepZ.q (h := fun f0 W9 hq hf Ac hA hB hO => ?_)
     have e1 := (hA 128 3).trans (hf 3)
     have e2 := (hA 134 9).trans (hf 9)
     exact Ri.wp_value _ (Ri.run_pick rfl e1 (by simpa [Act.eval] using e2)) rfl
    ·refine Ri.StepZ.q (h := fun f0 W9 hq hf Ac hA hB hO => ?_)
     have e1 := (hA 135 10).trans (hf 10)
     exact Ri.wp_value _ (Ri.run_mv rfl e1) rfl
    ·refine Ri.StepZ.gq (by kernel_rfl) rfl rfl (by simp) fun f0 W9 hq hf Ac hA hB hO => ⟨hf 11, ?_⟩
     have e1 := (hB 6).trans (show _ = .pointer (some ⟨W.heap.size + 2, 0, none⟩) by simp [Act.eval])
     exact Ri.wp_value _ (Ri.run_fld (f := _) rfl e1 Try.underlying31 rfl (sz := 0) (by kernel_rfl)) rfl
    ·refine Ri.StepZ.gq (by kernel_rfl) rfl rfl (by simp) fun f0 W9 hq hf Ac hA hB hO => ⟨hf 11, ?_⟩
     have e1 := (hA 137 12).trans (hf 12)
     exact Ri.wp_value _ (Ri.run_ld1 rfl e1 Try.underlying4 rfl ((KX.out W9 hq).2.1)) rfl
    ·refine Ri.StepZ.gq (by kernel_rfl) rfl rfl (by simp) fun f0 W9 hq hf Ac hA hB hO => ⟨hf 11, ?_⟩
     have e1 := (hA 138 13).trans (hf 13)
     exact Ri.wp_value _ (Ri.run_not rfl e1) rfl
    ·refine Ri.StepZ.q (h := fun f0 W9 hq hf Ac hA hB hO => ?_)
     have e1 := (hA 136 11).trans (hf 11)
     have e2 := (hA 139 14).trans (hf 14)
     exact Ri.wp_value _ (Ri.run_pick rfl e1 (by simpa [Act.eval] using e2)) rfl
    ·refine Ri.StepZ.q (h := fun f0 W9 hq hf Ac hA hB hO => ?_)
     have e1 := (hA 140 15).trans (hf 15)
     exact Ri.wp_value _ (Ri.run_mv rfl e1) rfl
    iterate 4 · refine Ri.StepZ.off rfl rfl (by simp) fun f0 W9 hq hf => ⟨hf 16, rfl⟩
    ·refine Ri.StepZ.q (h := fun f0 W9 hq hf Ac hA hB hO => ?_)
     have e1 := (hA 141 16).trans (hf 16)
     exact Ri.wp_value _ (Ri.run_pick rfl e1 (by simp [Act.eval])) rfl
    ·refine Ri.StepZ.q (h := fun f0 W9 hq hf Ac hA hB hO => ?_)
     have e1 := (hA 146 21).trans (hf 21)
     exact Ri.wp_value _ (Ri.run_mv rfl e1) rfl
    iterate 12 · refine Ri.StepZ.off rfl rfl (by simp) fun f0 W9 hq hf => ⟨hf 22, rfl⟩
    ·refine Ri.StepZ.q (h := fun f0 W9 hq hf Ac hA hB hO => ?_)
     have e1 := (hA 147 22).trans (hf 22)
     exact Ri.wp_value _ (Ri.run_pick rfl e1 (by simp [Act.eval])) rfl
    ·refine Ri.StepZ.q (h := fun f0 W9 hq hf Ac hA hB hO => ?_)
     have e1 := (hA 160 35).trans (hf 35)
     exact Ri.wp_value _ (Ri.run_asg rfl e1) rfl
   ·intro f0 w8 hq8 hf
    have hl9 := hf 36 (by simp) (by kernel_rfl)
    simp only [Ri.phi, List.getD_cons_zero, List.getD_cons_succ, Ri.isV] at hl9
    simp only [Ri.acts, Act.put, List.setIfInBounds_toArray, List.set_cons_zero, List.set_cons_succ, Nat.zero_add, Nat.reduceAdd]
    rw [hl9]
    have HQ8 := hide (HQ2.out.trans hq8)
    clear hf hl9 hq8
    go_wp2_with fail
    go_ret
    exact ⟨by rw [RES.out] <;> rfl, HQ8.out⟩
theorem rCell_8f {w : World} {k n : Int} {f : Bool} {A : Option Addr} {len cap : Nat} {ps : List Lay} (hl : LayR w (.mk k n f A len cap ps)) (hv : VL (.mk k n f A len cap ps)) (hcnt : (Lay.mk k n f A len cap ps).count ≤ 1048576) (wd : Int) (hw : okW wd) (b : Bool) {x : Int} {nul und pk : Bool} (ho : pk = false → Okw wd (.mk k n f A len cap ps)) {A2 : Option Addr} {n2 c2 : Nat} {qs : List Cel} (hq2 : Sl 4 encC w A2 n2 c2 qs) (hn2 : n2 ≤ 140737488351232) (ih : ∀ q ∈ qs, ∀ p ∈ ps, ∀ pk : Bool, (pk = false → Okw wd p) → (pk = true → p.k = 1 ∨ p.k = 2) → ∀ W, Q w W → Calls Try.prog 84 #[p.v, tgW wd b, q.v, .bool pk] W (R1 W (.bool (q.isC wd p && !(pk && q.und))))) (hu : und = false) (hnl : nul = false) (hk0 : k = 8) (hpk : pk = true → k = 1 ∨ k = 2) : ∀ W, Q w W → Calls Try.prog 84 #[.agg #[.int .i64 k, .int .i64 n, .bool f, .slice A len cap], tgW wd b, .agg #[.int .i64 x, .bool nul, .bool und, .slice A2 n2 c2], .bool pk] W (R1 W (.bool (cellC wd (.mk k n f A len cap ps) x nul und (qs.map (Cel.isC wd)) (qs.map Cel.und) && !(pk && und)))) := by
 intro W hqW
 unfold R1
 have hk : (Lay.mk k n f A len cap ps).k = k := rfl
 have hql : ((qs.map (Cel.isC wd)).length : Int) = (n2 : Int) := by rw [List.length_map, hq2.len]
 subst hu hnl hk0
 have HSL : Hid (Sl 4 encL w A len cap ps) := by cases hl with | @mk _ _ _ _ _ _ _ hk hn hsl hnil hcap hall => exact hide hsl
 have hlb : (len : Int) ≤ 140737488351232 := by cases hl with | @mk _ _ _ _ _ _ _ hk hn hsl hnil hcap hall => omega
 have H := hide hl
 have HV := hide hv
 have HSQ := hide hq2
 have HIH := hide ih
 have HOK := hide ho
 have HQW := hide hqW
 obtain ⟨w2, hw2⟩ : ∃ w2, ((W.alloc (.cells #[.int .i64 8, .int .i64 n, .bool f, .slice A len cap] 24)).alloc (.cells #[.int .i64 wd, .bool b] 26)).alloc (.cells #[.int .i64 x, .bool false, .bool false, .slice A2 n2 c2] 31) = w2 := ⟨_, rfl⟩
 obtain ⟨hqq, hs2, hc, hd, hx⟩ := box3 hw2
 have hb0 : W.heap.size < w2.heap.size := by omega
 have hb1 : W.heap.size + 1 < w2.heap.size := by omega
 have hb2 : W.heap.size + 2 < w2.heap.size := by omega
 have KA := hide fun X (hX : Q w2 X) => (cs42 hX hb0 hc hb1 hd : Cs42 X W.heap.size (.int .i64 8) (.int .i64 n) (.bool f) (.slice A len cap) (W.heap.size + 1) (.int .i64 wd) (.bool b))
 have KX := hide fun X (hX : Q w2 X) => (cs4 hX hb2 hx : Cs4 X (W.heap.size + 2) (.int .i64 x) (.bool false) (.bool false) (.slice A2 n2 c2))
 have HW2 := hide hw2
 have HQ2 := hide hqq
 have HWQ := hide (hqW.trans hqq)
 have hpk0 : pk = false := by
  cases pk with
  | false => rfl
  | true => have := hpk rfl; omega
 subst hpk0
 have ho9 := ho rfl
 obtain ⟨e1, he1⟩ : ∃ e, decide (0 ≤ x) = e := ⟨_, rfl⟩
 obtain ⟨e2, he2⟩ : ∃ e, decide (x < (len : Int)) = e := ⟨_, rfl⟩
 obtain ⟨e3, he3⟩ : ∃ e, ((n2 : Int) == 1) = e := ⟨_, rfl⟩
 have hpl : ((Lay.mk 8 n f A len cap ps).parts.length : Int) = (len : Int) := by
  have := HSL.out.len
  show (ps.length : Int) = len
  omega
 obtain ⟨res, hres⟩ : ∃ r, (cellC wd (.mk 8 n f A len cap ps) x false false (qs.map (Cel.isC wd)) (qs.map Cel.und) && !(false && false)) = r := ⟨_, rfl⟩
 have hres2 : res = cellC wd (.mk 8 n f A len cap ps) x false false (qs.map (Cel.isC wd)) (qs.map Cel.und) := by rw [← hres]; simp
 rw [hres]
 clear hres
 rw [cellC_8 rfl rfl hk, hql, hpl, he1, he2, he3] at hres2
 have RES0 := hide hres2
 have HE1 := hide he1
 have HE2 := hide he2
 have HE3 := hide he3
 clear hpl
 cases e1 with
 | false =>
  have RES : Hid (res = false) := hide (by rw [RES0.out] <;> rfl)
  clear hres2 ho9
  clear hl hv hq2 ih ho hqW hw2 hd hc hx hqq hql hk he1 he2 he3
  obtain ⟨k0, k1, k2, k3, t0, t1⟩ := KA.out w2 (Q.refl _)
  obtain ⟨c0, c1, c2', c3⟩ := KX.out w2 (Q.refl _)
  go_enter Try.func84, Try.ntmps84
  go_upto_region 1 with fail
  rw [HW2.out]
  go_upto_region 17 with fail
  clear k0 k1 k2 k3 t0 t1 c0 c1 c2' c3
  refine Ri.madeZ (C := fun W0 => Q w2 W0) [] [0, 1, 2, 3, 4, 5, 6, 7, 8, 9, 10, 11, 12, 13, 14, 15, 16, 17, 18, 19, 20, 21, 22, 23, 24, 25, 26, 27, 28, 29, 30, 31, 32, 33, 34, 35, 36] (fun w1 w3 X hq => X.trans hq) (Ri.phi [Ri.isV (.pointer (some ⟨W.heap.size + 2, 0, none⟩)), Ri.isV (.int .i64 x), Ri.isV (.bool false), Ri.isV (.bool false), Ri.isV (undef), Ri.isV (undef), Ri.isV (undef), Ri.isV (undef), Ri.isV (undef), Ri.isV (undef), Ri.isV (.bool false), Ri.isV (.bool false), Ri.isV (undef), Ri.isV (undef), Ri.isV (undef), Ri.isV (.bool false), Ri.isV (.bool false), Ri.isV (undef), Ri.isV (undef), Ri.isV (undef), Ri.isV (undef), Ri.isV (.bool false), Ri.isV (.bool false), Ri.isV (undef), Ri.isV (undef), Ri.isV (undef), Ri.isV (undef), Ri.isV (undef), Ri.isV (undef), Ri.isV (undef), Ri.isV (undef), Ri.isV (undef), Ri.isV (undef), Ri.isV (undef), Ri.isV (undef), Ri.isV (.bool false), Ri.isV (.bool false)]) (by kernel_rfl) (by kernel_rfl) (by kernel_rfl) ((Q.refl _).drew) (Ri.phi_mono ?_) (Ri.phi_fix ?_) ?_ ?_
  ·repeat' first | exact trivial | exact fun _ _ _ h _ => h | refine ⟨?_, ?_⟩
  ·repeat' first | exact trivial | exact fun _ _ _ _ h => h | refine ⟨?_, ?_⟩
  ·refine Ri.All.cons ?_ (.cons ?_ (.cons ?_ (.cons ?_ (.cons ?_ (.cons ?_ (.cons ?_ (.cons ?_ (.cons ?_ (.cons ?_ (.cons ?_ (.cons ?_ (.cons ?_ (.cons ?_ (.cons ?_ (.cons ?_ (.cons ?_ (.cons ?_ (.cons ?_ (.cons ?_ (.cons ?_ (.cons ?_ (.cons ?_ (.cons ?_ (.cons ?_ (.cons ?_ (.cons ?_ (.cons ?_ (.cons ?_ (.cons ?_ (.cons ?_ (.cons ?_ (.cons ?_ (.cons ?_ (.cons ?_ (.cons ?_ (.cons ?_ (Ri.All.nil)))))))))))))))))))))))))))))))))))))
   ·refine Ri.StepZ.q (h := fun f0 W9 hq hf Ac hA hB hO => ?_)
    have e1 := (hB 6).trans (show _ = .pointer (some ⟨W.heap.size + 2, 0, none⟩) by simp [Act.eval])
    exact Ri.wp_value _ (Ri.run_fld (f := _) rfl e1 Try.underlying31 rfl (sz := 0) (by kernel_rfl)) rfl
   ·refine Ri.StepZ.q (h := fun f0 W9 hq hf Ac hA hB hO => ?_)
    have e1 := (hA 125 0).trans (hf 0)
    exact Ri.wp_value _ (Ri.run_ld1 rfl e1 Try.underlying3 rfl ((KX.out W9 hq).1)) rfl
   ·refine Ri.StepZ.q (h := fun f0 W9 hq hf Ac hA hB hO => ?_)
    have e1 := (hA 126 1).trans (hf 1)
    have e2 : Ac.eval (.const (.int .i64 0)) = .int .i64 0 := rfl
    exact Ri.wp_value _ ((Ri.run_geqJ rfl e1 e2 Try.underlying3).trans (by rw [HE1.out])) rfl
   ·refine Ri.StepZ.q (h := fun f0 W9 hq hf Ac hA hB hO => ?_)
    have e1 := (hA 127 2).trans (hf 2)
    exact Ri.wp_value _ (Ri.run_mv rfl e1) rfl
   iterate 6 · refine Ri.StepZ.off rfl rfl (by simp) fun f0 W9 hq hf => ⟨hf 3, rfl⟩
   ·refine Ri.StepZ.q (h := fun f0 W9 hq hf Ac hA hB hO => ?_)
    have e1 := (hA 128 3).trans (hf 3)
    exact Ri.wp_value _ (Ri.run_pick rfl e1 (by simp [Act.eval])) rfl
   ·refine Ri.StepZ.q (h := fun f0 W9 hq hf Ac hA hB hO => ?_)
    have e1 := (hA 135 10).trans (hf 10)
    exact Ri.wp_value _ (Ri.run_mv rfl e1) rfl
   iterate 3 · refine Ri.StepZ.off rfl rfl (by simp) fun f0 W9 hq hf => ⟨hf 11, rfl⟩
   ·refine Ri.StepZ.q (h := fun f0 W9 hq hf Ac hA hB hO => ?_)
    have e1 := (hA 136 11).trans (hf 11)
    exact Ri.wp_value _ (Ri.run_pick rfl e1 (by simp [Act.eval])) rfl
   ·refine Ri.StepZ.q (h := fun f0 W9 hq hf Ac hA hB hO => ?_)
    have e1 := (hA 140 15).trans (hf 15)
    exact Ri.wp_value _ (Ri.run_mv rfl e1) rfl
   iterate 4 · refine Ri.StepZ.off rfl rfl (by simp) fun f0 W9 hq hf => ⟨hf 16, rfl⟩
   ·refine Ri.StepZ.q (h := fun f0 W9 hq hf Ac hA hB hO => ?_)
    have e1 := (hA 141 16).trans (hf 16)
    exact Ri.wp_value _ (Ri.run_pick rfl e1 (by simp [Act.eval])) rfl
   ·refine Ri.StepZ.q (h := fun f0 W9 hq hf Ac hA hB hO => ?_)
    have e1 := (hA 146 21).trans (hf 21)
    exact Ri.wp_value _ (Ri.run_mv rfl e1) rfl
   iterate 12 · refine Ri.StepZ.off rfl rfl (by simp) fun f0 W9 hq hf => ⟨hf 22, rfl⟩
   ·refine Ri.StepZ.q (h := fun f0 W9 hq hf Ac hA hB hO => ?_)
    have e1 := (hA 147 22).trans (hf 22)
    exact Ri.wp_value _ (Ri.run_pick rfl e1 (by simp [Act.eval])) rfl
   ·refine Ri.StepZ.q (h := fun f0 W9 hq hf Ac hA hB hO => ?_)
    have e1 := (hA 160 35).trans (hf 35)
    exact Ri.wp_value _ (Ri.run_asg rfl e1) rfl
  ·intro f0 w8 hq8 hf
   have hl9 := hf 36 (by simp) (by kernel_rfl)
   simp only [Ri.phi, List.getD_cons_zero, List.getD_cons_succ, Ri.isV] at hl9
   simp only [Ri.acts, Act.put, List.setIfInBounds_toArray, List.set_cons_zero, List.set_cons_succ, Nat.zero_add, Nat.reduceAdd]
   rw [hl9]
   have HQ8 := hide (HQ2.out.trans hq8)
   clear hf hl9 hq8
   go_wp2_with fail
   go_ret
   exact ⟨by rw [RES.out] <;> rfl, HQ8.out⟩
 | true =>
  cases e2 with
  | false =>
   have RES : Hid (res = false) := hide (by rw [RES0.out] <;> rfl)
   clear hres2 ho9
   clear hl hv hq2 ih ho hqW hw2 hd hc hx hqq hql hk he1 he2 he3
   obtain ⟨k0, k1, k2, k3, t0, t1⟩ := KA.out w2 (Q.refl _)
   obtain ⟨c0, c1, c2', c3⟩ := KX.out w2 (Q.refl _)
   go_enter Try.func84, Try.ntmps84
   go_upto_region 1 with fail
   rw [HW2.out]
   go_upto_region 17 with fail
   clear k0 k1 k2 k3 t0 t1 c0 c1 c2' c3
   refine Ri.madeZ (C := fun W0 => Q w2 W0) [] [0, 1, 2, 3, 4, 5, 6, 7, 8, 9, 10, 11, 12, 13, 14, 15, 16, 17, 18, 19, 20, 21, 22, 23, 24, 25, 26, 27, 28, 29, 30, 31, 32, 33, 34, 35, 36] (fun w1 w3 X hq => X.trans hq) (Ri.phi [Ri.isV (.pointer (some ⟨W.heap.size + 2, 0, none⟩)), Ri.isV (.int .i64 x), Ri.isV (.bool true), Ri.isV (.bool true), Ri.isV (.pointer (some ⟨W.heap.size + 2, 0, none⟩)), Ri.isV (.int .i64 x), Ri.isV (.pointer (some ⟨W.heap.size, 3, none⟩)), Ri.isV (.slice A len cap), Ri.isV (.int .i64 (len : Nat)), Ri.isV (.bool false), Ri.isV (.bool false), Ri.isV (.bool false), Ri.isV (undef), Ri.isV (undef), Ri.isV (undef), Ri.isV (.bool false), Ri.isV (.bool false), Ri.isV (undef), Ri.isV (undef), Ri.isV (undef), Ri.isV (undef), Ri.isV (.bool false), Ri.isV (.bool false), Ri.isV (undef), Ri.isV (undef), Ri.isV (undef), Ri.isV (undef), Ri.isV (undef), Ri.isV (undef), Ri.isV (undef), Ri.isV (undef), Ri.isV (undef), Ri.isV (undef), Ri.isV (undef), Ri.isV (undef), Ri.isV (.bool false), Ri.isV (.bool false)]) (by kernel_rfl) (by kernel_rfl) (by kernel_rfl) ((Q.refl _).drew) (Ri.phi_mono ?_) (Ri.phi_fix ?_) ?_ ?_
   ·repeat' first | exact trivial | exact fun _ _ _ h _ => h | refine ⟨?_, ?_⟩
   ·repeat' first | exact trivial | exact fun _ _ _ _ h => h | refine ⟨?_, ?_⟩
   ·refine Ri.All.cons ?_ (.cons ?_ (.cons ?_ (.cons ?_ (.cons ?_ (.cons ?_ (.cons ?_ (.cons ?_ (.cons ?_ (.cons ?_ (.cons ?_ (.cons ?_ (.cons ?_ (.cons ?_ (.cons ?_ (.cons ?_ (.cons ?_ (.cons ?_ (.cons ?_ (.cons ?_ (.cons ?_ (.cons ?_ (.cons ?_ (.cons ?_ (.cons ?_ (.cons ?_ (.cons ?_ (.cons ?_ (.cons ?_ (.cons ?_ (.cons ?_ (.cons ?_ (.cons ?_ (.cons ?_ (.cons ?_ (.cons ?_ (.cons ?_ (Ri.All.nil)))))))))))))))))))))))))))))))))))))
    ·refine Ri.StepZ.q (h := fun f0 W9 hq hf Ac hA hB hO => ?_)
     have e1 := (hB 6).trans (show _ = .pointer (some ⟨W.heap.size + 2, 0, none⟩) by simp [Act.eval])
     exact Ri.wp_value _ (Ri.run_fld (f := _) rfl e1 Try.underlying31 rfl (sz := 0) (by kernel_rfl)) rfl
    ·refine Ri.StepZ.q (h := fun f0 W9 hq hf Ac hA hB hO => ?_)
     have e1 := (hA 125 0).trans (hf 0)
     exact Ri.wp_value _ (Ri.run_ld1 rfl e1 Try.underlying3 rfl ((KX.out W9 hq).1)) rfl
    ·refine Ri.StepZ.q (h := fun f0 W9 hq hf Ac hA hB hO => ?_)
     have e1 := (hA 126 1).trans (hf 1)
     have e2 : Ac.eval (.const (.int .i64 0)) = .int .i64 0 := rfl
     exact Ri.wp_value _ ((Ri.run_geqJ rfl e1 e2 Try.underlying3).trans (by rw [HE1.out])) rfl
    ·refine Ri.StepZ.q (h := fun f0 W9 hq hf Ac hA hB hO => ?_)
     have e1 := (hA 127 2).trans (hf 2)
     exact Ri.wp_value _ (Ri.run_mv rfl e1) rfl
    ·refine Ri.StepZ.gq (by kernel_rfl) rfl rfl (by simp) fun f0 W9 hq hf Ac hA hB hO => ⟨hf 3, ?_⟩
     have e1 := (hB 6).trans (show _ = .pointer (some ⟨W.heap.size + 2, 0, none⟩) by simp [Act.eval])
     exact Ri.wp_value _ (Ri.run_fld (f := _) rfl e1 Try.underlying31 rfl (sz := 0) (by kernel_rfl)) rfl
    ·refine Ri.StepZ.gq (by kernel_rfl) rfl rfl (by simp) fun f0 W9 hq hf Ac hA hB hO => ⟨hf 3, ?_⟩
     have e1 := (hA 129 4).trans (hf 4)
     exact Ri.wp_value _ (Ri.run_ld1 rfl e1 Try.underlying3 rfl ((KX.out W9 hq).1)) rfl
    ·refine Ri.StepZ.gq (by kernel_rfl) rfl rfl (by simp) fun f0 W9 hq hf Ac hA hB hO => ⟨hf 3, ?_⟩
     have e1 := (hB 4).trans (show _ = .pointer (some ⟨W.heap.size, 0, none⟩) by simp [Act.eval])
     exact Ri.wp_value _ (Ri.run_fld (f := _) rfl e1 Try.underlying24 rfl (sz := 0) (by kernel_rfl)) rfl
    ·refine Ri.StepZ.gq (by kernel_rfl) rfl rfl (by simp) fun f0 W9 hq hf Ac hA hB hO => ⟨hf 3, ?_⟩
     have e1 := (hA 131 6).trans (hf 6)
     exact Ri.wp_value _ (Ri.run_ld1 rfl e1 Try.underlying22 rfl ((KA.out W9 hq).2.2.2.1)) rfl
    ·refine Ri.StepZ.gq (by kernel_rfl) rfl rfl (by simp) fun f0 W9 hq hf Ac hA hB hO => ⟨hf 3, ?_⟩
     have e1 := (hA 132 7).trans (hf 7)
     exact Ri.wp_value _ (Ri.run_lenC rfl e1 Try.underlying22) rfl
    ·refine Ri.StepZ.gq (by kernel_rfl) rfl rfl (by simp) fun f0 W9 hq hf Ac hA hB hO => ⟨hf 3, ?_⟩
     have e1 := (hA 130 5).trans (hf 5)
     have e2 := (hA 133 8).trans (hf 8)
     exact Ri.wp_value _ ((Ri.run_lssC rfl e1 e2 Try.underlying3).trans (by rw [HE2.out])) rfl
    ·refine Ri.StepZ.q (h := fun f0 W9 hq hf Ac hA hB hO => ?_)
     have e1 := (hA 128 3).trans (hf 3)
     have e2 := (hA 134 9).trans (hf 9)
     exact Ri.wp_value _ (Ri.run_pick rfl e1 (by simpa [Act.eval] using e2)) rfl
    ·refine Ri.StepZ.q (h := fun f0 W9 hq hf Ac hA hB hO => ?_)
     have e1 := (hA 135 10).trans (hf 10)
     exact Ri.wp_value _ (Ri.run_mv rfl e1) rfl
    iterate 3 · refine Ri.StepZ.off rfl rfl (by simp) fun f0 W9 hq hf => ⟨hf 11, rfl⟩
    ·refine Ri.StepZ.q (h := fun f0 W9 hq hf Ac hA hB hO => ?_)
     have e1 := (hA 136 11).trans (hf 11)
     exact Ri.wp_value _ (Ri.run_pick rfl e1 (by simp [Act.eval])) rfl
    ·refine Ri.StepZ.q (h := fun f0 W9 hq hf Ac hA hB hO => ?_)
     have e1 := (hA 140 15).trans (hf 15)
     exact Ri.wp_value _ (Ri.run_mv rfl e1) rfl
    iterate 4 · refine Ri.StepZ.off rfl rfl (by simp) fun f0 W9 hq hf => ⟨hf 16, rfl⟩
    ·refine Ri.StepZ.q (h := fun f0 W9 hq hf Ac hA hB hO => ?_)
     have e1 := (hA 141 16).trans (hf 16)
     exact Ri.wp_value _ (Ri.run_pick rfl e1 (by simp [Act.eval])) rfl
    ·refine Ri.StepZ.q (h := fun f0 W9 hq hf Ac hA hB hO => ?_)
     have e1 := (hA 146 21).trans (hf 21)
     exact Ri.wp_value _ (Ri.run_mv rfl e1) rfl
    iterate 12 · refine Ri.StepZ.off rfl rfl (by simp) fun f0 W9 hq hf => ⟨hf 22, rfl⟩
    ·refine Ri.StepZ.q (h := fun f0 W9 hq hf Ac hA hB hO => ?_)
     have e1 := (hA 147 22).trans (hf 22)
     exact Ri.wp_value _ (Ri.run_pick rfl e1 (by simp [Act.eval])) rfl
    ·refine Ri.StepZ.q (h := fun f0 W9 hq hf Ac hA hB hO => ?_)
     have e1 := (hA 160 35).trans (hf 35)
     exact Ri.wp_value _ (Ri.run_asg rfl e1) rfl
   ·intro f0 w8 hq8 hf
    have hl9 := hf 36 (by simp) (by kernel_rfl)
    simp only [Ri.phi, List.getD_cons_zero, List.getD_cons_succ, Ri.isV] at hl9
    simp only [Ri.acts, Act.put, List.setIfInBounds_toArray, List.set_cons_zero, List.set_cons_succ, Nat.zero_add, Nat.reduceAdd]
    rw [hl9]
    have HQ8 := hide (HQ2.out.trans hq8)
    clear hf hl9 hq8
    go_wp2_with fail
    go_ret
    exact ⟨by rw [RES.out] <;> rfl, HQ8.out⟩
  | true =>
   cases e3 with
   | false =>
    have RES : Hid (res = false) := hide (by rw [RES0.out] <;> rfl)
    clear hres2 ho9
    clear hl hv hq2 ih ho hqW hw2 hd hc hx hqq hql hk he1 he2 he3
    obtain ⟨k0, k1, k2, k3, t0, t1⟩ := KA.out w2 (Q.refl _)
    obtain ⟨c0, c1, c2', c3⟩ := KX.out w2 (Q.refl _)
    go_enter Try.func84, Try.ntmps84
    go_upto_region 1 with fail
    rw [HW2.out]
    go_upto_region 17 with fail
    clear k0 k1 k2 k3 t0 t1 c0 c1 c2' c3
    refine Ri.madeZ (C := fun W0 => Q w2 W0) [] [0, 1, 2, 3, 4, 5, 6, 7, 8, 9, 10, 11, 12, 13, 14, 15, 16, 17, 18, 19, 20, 21, 22, 23, 24, 25, 26, 27, 28, 29, 30, 31, 32, 33, 34, 35, 36] (fun w1 w3 X hq => X.trans hq) (Ri.phi [Ri.isV (.pointer (some ⟨W.heap.size + 2, 0, none⟩)), Ri.isV (.int .i64 x), Ri.isV (.bool true), Ri.isV (.bool true), Ri.isV (.pointer (some ⟨W.heap.size + 2, 0, none⟩)), Ri.isV (.int .i64 x), Ri.isV (.pointer (some ⟨W.heap.size, 3, none⟩)), Ri.isV (.slice A len cap), Ri.isV (.int .i64 (len : Nat)), Ri.isV (.bool true), Ri.isV (.bool true), Ri.isV (.bool true), Ri.isV (.pointer (some ⟨W.heap.size + 2, 1, none⟩)), Ri.isV (.bool false), Ri.isV (.bool true), Ri.isV (.bool true), Ri.isV (.bool true), Ri.isV (.pointer (some ⟨W.heap.size + 2, 3, none⟩)), Ri.isV (.slice A2 n2 c2), Ri.isV (.int .i64 (n2 : Nat)), Ri.isV (.bool false), Ri.isV (.bool false), Ri.isV (.bool false), Ri.isV (undef), Ri.isV (undef), Ri.isV (undef), Ri.isV (undef), Ri.isV (undef), Ri.isV (undef), Ri.isV (undef), Ri.isV (undef), Ri.isV (undef), Ri.isV (undef), Ri.isV (undef), Ri.isV (undef), Ri.isV (.bool false), Ri.isV (.bool false)]) (by kernel_rfl) (by kernel_rfl) (by kernel_rfl) ((Q.refl _).drew) (Ri.phi_mono ?_) (Ri.phi_fix ?_) ?_ ?_
    ·repeat' first | exact trivial | exact fun _ _ _ h _ => h | refine ⟨?_, ?_⟩
    ·repeat' first | exact trivial | exact fun _ _ _ _ h => h | refine ⟨?_, ?_⟩
    ·refine Ri.All.cons ?_ (.cons ?_ (.cons ?_ (.cons ?_ (.cons ?_ (.cons ?_ (.cons ?_ (.cons ?_ (.cons ?_ (.cons ?_ (.cons ?_ (.cons ?_ (.cons ?_ (.cons ?_ (.cons ?_ (.cons ?_ (.cons ?_ (.cons ?_ (.cons ?_ (.cons ?_ (.cons ?_ (.cons ?_ (.cons ?_ (.cons ?_ (.cons ?_ (.cons ?_ (.cons ?_ (.cons ?_ (.cons ?_ (.cons ?_ (.cons ?_ (.cons ?_ (.cons ?_ (.cons ?_ (.cons ?_ (.cons ?_ (.cons ?_ (Ri.All.nil)))))))))))))))))))))))))))))))))))))
     ·refine Ri.StepZ.q (h := fun f0 W9 hq hf Ac hA hB hO => ?_)
      have e1 := (hB 6).trans (show _ = .pointer (some ⟨W.heap.size + 2, 0, none⟩) by simp [Act.eval])
      exact Ri.wp_value _ (Ri.run_fld (f := _) rfl e1 Try.underlying31 rfl (sz := 0) (by kernel_rfl)) rfl
     ·refine Ri.StepZ.q (h := fun f0 W9 hq hf Ac hA hB hO => ?_)
      have e1 := (hA 125 0).trans (hf 0)
      exact Ri.wp_value _ (Ri.run_ld1 rfl e1 Try.underlying3 rfl ((KX.out W9 hq).1)) rfl
     ·refine Ri.StepZ.q (h := fun f0 W9 hq hf Ac hA hB hO => ?_)
      have e1 := (hA 126 1).trans (hf 1)
      have e2 : Ac.eval (.const (.int .i64 0)) = .int .i64 0 := rfl
      exact Ri.wp_value _ ((Ri.run_geqJ rfl e1 e2 Try.underlying3).trans (by rw [HE1.out])) rfl
     ·refine Ri.StepZ.q (h := fun f0 W9 hq hf Ac hA hB hO => ?_)
      have e1 := (hA 127 2).trans (hf 2)
      exact Ri.wp_value _ (Ri.run_mv rfl e1) rfl
     ·refine Ri.StepZ.gq (by kernel_rfl) rfl rfl (by simp) fun f0 W9 hq hf Ac hA hB hO => ⟨hf 3, ?_⟩
      have e1 := (hB 6).trans (show _ = .pointer (some ⟨W.heap.size + 2, 0, none⟩) by simp [Act.eval])
      exact Ri.wp_value _ (Ri.run_fld (f := _) rfl e1 Try.underlying31 rfl (sz := 0) (by kernel_rfl)) rfl
     ·refine Ri.StepZ.gq (by kernel_rfl) rfl rfl (by simp) fun f0 W9 hq hf Ac hA hB hO => ⟨hf 3, ?_⟩
      have e1 := (hA 129 4).trans (hf 4)
      exact Ri.wp_value _ (Ri.run_ld1 rfl e1 Try.underlying3 rfl ((KX.out W9 hq).1)) rfl
     ·refine Ri.StepZ.gq (by kernel_rfl) rfl rfl (by simp) fun f0 W9 hq hf Ac hA hB hO => ⟨hf 3, ?_⟩
      have e1 := (hB 4).trans (show _ = .pointer (some ⟨W.heap.size, 0, none⟩) by simp [Act.eval])
      exact Ri.wp_value _ (Ri.run_fld (f := _) rfl e1 Try.underlying24 rfl (sz := 0) (by kernel_rfl)) rfl
     ·refine Ri.StepZ.gq (by kernel_rfl) rfl rfl (by simp) fun f0 W9 hq hf Ac hA hB hO => ⟨hf 3, ?_⟩
      have e1 := (hA 131 6).trans (hf 6)
      exact Ri.wp_value _ (Ri.run_ld1 rfl e1 Try.underlying22 rfl ((KA.out W9 hq).2.2.2.1)) rfl
     ·refine Ri.StepZ.gq (by kernel_rfl) rfl rfl (by simp) fun f0 W9 hq hf Ac hA hB hO => ⟨hf 3, ?_⟩
      have e1 := (hA 132 7).trans (hf 7)
      exact Ri.wp_value _ (Ri.run_lenC rfl e1 Try.underlying22) rfl
     ·refine Ri.StepZ.gq (by kernel_rfl) rfl rfl (by simp) fun f0 W9 hq hf Ac hA hB hO => ⟨hf 3, ?_⟩
      have e1 := (hA 130 5).trans (hf 5)
      have e2 := (hA 133 8).trans (hf 8)
      exact Ri.wp_value _ ((Ri.run_lssC rfl e1 e2 Try.underlying3).trans (by rw [HE2.out])) rfl
     ·refine Ri.StepZ.q (h := fun f0 W9 hq hf Ac hA hB hO => ?_)
      have e1 := (hA 128 3).trans (hf 3)
      have e2 := (hA 134 9).trans (hf 9)
      exact Ri.wp_value _ (Ri.run_pick rfl e1 (by simpa [Act.eval] using e2)) rfl
     ·refine Ri.StepZ.q (h := fun f0 W9 hq hf Ac hA hB hO => ?_)
      have e1 := (hA 135 10).trans (hf 10)
      exact Ri.wp_value _ (Ri.run_mv rfl e1) rfl
     ·refine Ri.StepZ.gq (by kernel_rfl) rfl rfl (by simp) fun f0 W9 hq hf Ac hA hB hO => ⟨hf 11, ?_⟩
      have e1 := (hB 6).trans (show _ = .pointer (some ⟨W.heap.size + 2, 0, none⟩) by simp [Act.eval])
      exact Ri.wp_value _ (Ri.run_fld (f := _) rfl e1 Try.underlying31 rfl (sz := 0) (by kernel_rfl)) rfl
     ·refine Ri.StepZ.gq (by kernel_rfl) rfl rfl (by simp) fun f0 W9 hq hf Ac hA hB hO => ⟨hf 11, ?_⟩
      have e1 := (hA 137 12).trans (hf 12)
      exact Ri.wp_value _ (Ri.run_ld1 rfl e1 Try.underlying4 rfl ((KX.out W9 hq).2.1)) rfl
     ·refine Ri.StepZ.gq (by kernel_rfl) rfl rfl (by simp) fun f0 W9 hq hf Ac hA hB hO => ⟨hf 11, ?_⟩
      have e1 := (hA 138 13).trans (hf 13)
      exact Ri.wp_value _ (Ri.run_not rfl e1) rfl
     ·refine Ri.StepZ.q (h := fun f0 W9 hq hf Ac hA hB hO => ?_)
      have e1 := (hA 136 11).trans (hf 11)
      have e2 := (hA 139 14).trans (hf 14)
      exact Ri.wp_value _ (Ri.run_pick rfl e1 (by simpa [Act.eval] using e2)) rfl
     ·refine Ri.StepZ.q (h := fun f0 W9 hq hf Ac hA hB hO => ?_)
      have e1 := (hA 140 15).trans (hf 15)
      exact Ri.wp_value _ (Ri.run_mv rfl e1) rfl
     ·refine Ri.StepZ.gq (by kernel_rfl) rfl rfl (by simp) fun f0 W9 hq hf Ac hA hB hO => ⟨hf 16, ?_⟩
      have e1 := (hB 6).trans (show _ = .pointer (some ⟨W.heap.size + 2, 0, none⟩) by simp [Act.eval])
      exact Ri.wp_value _ (Ri.run_fld (f := _) rfl e1 Try.underlying31 rfl (sz := 0) (by kernel_rfl)) rfl
     ·refine Ri.StepZ.gq (by kernel_rfl) rfl rfl (by simp) fun f0 W9 hq hf Ac hA hB hO => ⟨hf 16, ?_⟩
      have e1 := (hA 142 17).trans (hf 17)
      exact Ri.wp_value _ (Ri.run_ld1 rfl e1 Try.underlying29 rfl ((KX.out W9 hq).2.2.2)) rfl
     ·refine Ri.StepZ.gq (by kernel_rfl) rfl rfl (by simp) fun f0 W9 hq hf Ac hA hB hO => ⟨hf 16, ?_⟩
      have e1 := (hA 143 18).trans (hf 18)
      exact Ri.wp_value _ (Ri.run_lenC rfl e1 Try.underlying29) rfl
     ·refine Ri.StepZ.gq (by kernel_rfl) rfl rfl (by simp) fun f0 W9 hq hf Ac hA hB hO => ⟨hf 16, ?_⟩
      have e1 := (hA 144 19).trans (hf 19)
      have e2 : Ac.eval (.const (.int .i64 1)) = .int .i64 1 := rfl
      exact Ri.wp_value _ ((Ri.run_eqlC rfl e1 e2 Try.underlying3).trans (by rw [HE3.out])) rfl
     ·refine Ri.StepZ.q (h := fun f0 W9 hq hf Ac hA hB hO => ?_)
      have e1 := (hA 141 16).trans (hf 16)
      have e2 := (hA 145 20).trans (hf 20)
      exact Ri.wp_value _ (Ri.run_pick rfl e1 (by simpa [Act.eval] using e2)) rfl
     ·refine Ri.StepZ.q (h := fun f0 W9 hq hf Ac hA hB hO => ?_)
      have e1 := (hA 146 21).trans (hf 21)
      exact Ri.wp_value _ (Ri.run_mv rfl e1) rfl
     iterate 12 · refine Ri.StepZ.off rfl rfl (by simp) fun f0 W9 hq hf => ⟨hf 22, rfl⟩
     ·refine Ri.StepZ.q (h := fun f0 W9 hq hf Ac hA hB hO => ?_)
      have e1 := (hA 147 22).trans (hf 22)
      exact Ri.wp_value _ (Ri.run_pick rfl e1 (by simp [Act.eval])) rfl
     ·refine Ri.StepZ.q (h := fun f0 W9 hq hf Ac hA hB hO => ?_)
      have e1 := (hA 160 35).trans (hf 35)
      exact Ri.wp_value _ (Ri.run_asg rfl e1) rfl
    ·intro f0 w8 hq8 hf
     have hl9 := hf 36 (by simp) (by kernel_rfl)
     simp only [Ri.phi, List.getD_cons_zero, List.getD_cons_succ, Ri.isV] at hl9
     simp only [Ri.acts, Act.put, List.setIfInBounds_toArray, List.set_cons_zero, List.set_cons_succ, Nat.zero_add, Nat.reduceAdd]
     rw [hl9]
     have HQ8 := hide (HQ2.out.trans hq8)
     clear hf hl9 hq8
     go_wp2_with fail
     go_ret
     exact ⟨by rw [RES.out] <;> rfl, HQ8.out⟩
   | true =>
    have hn1 : (n2 : Int) = 1 := by simpa using he3
    have h0x : 0 ≤ x := by simpa using he1
    have hxl : x < (len : Int) := by simpa using he2
    obtain ⟨i, hxi⟩ : ∃ i : Nat, x = (i : Int) := ⟨x.toNat, by omega⟩
    have hil : i < len := by omega
    have HXI := hide hxi
    have HLQ := hide (show 0 < n2 by omega)
    have HLP := hide hil
    obtain ⟨g2, o2, m2, x2, y2, B2, l2, d2, qq, e, hbq, hxq, v0, v1, v2, v3⟩ := cel_at (HSQ.out.up HWQ.out) (show 0 < n2 by omega)
    cases e
    obtain ⟨q, hqe⟩ : ∃ q, Cel.mk m2 x2 y2 B2 l2 d2 qq = q := ⟨_, rfl⟩
    have hqv : q.v = .agg #[.int .i64 m2, .bool x2, .bool y2, .slice B2 l2 d2] := by rw [← hqe]; rfl
    rw [hqe] at hxq
    have KQ : Hid (∀ X, Q w2 X → X.cell? ⟨g2, o2 + 0 * 4, none⟩ = some (.int .i64 m2) ∧ X.cell? ⟨g2, o2 + 0 * 4 + 1, none⟩ = some (.bool x2) ∧ X.cell? ⟨g2, o2 + 0 * 4 + 2, none⟩ = some (.bool y2) ∧ X.cell? ⟨g2, o2 + 0 * 4 + 3, none⟩ = some (.slice B2 l2 d2)) := hide fun X hX => ⟨(hX.facts.1 _ _ hbq).trans v0, (hX.facts.1 _ _ hbq).trans v1, (hX.facts.1 _ _ hbq).trans v2, (hX.facts.1 _ _ hbq).trans v3⟩
    obtain ⟨g, o, m', x', y', B, l', d', qs1, e, hbp, hxp, z0, z1, z2, z3⟩ := lay_at (HSL.out.up HWQ.out) (show i < len by omega)
    cases e
    obtain ⟨p, hpe⟩ : ∃ p, Lay.mk m' x' y' B l' d' qs1 = p := ⟨_, rfl⟩
    have hpv : p.v = .agg #[.int .i64 m', .int .i64 x', .bool y', .slice B l' d'] := by rw [← hpe]; rfl
    rw [hpe] at hxp
    have KP : Hid (∀ X, Q w2 X → X.cell? ⟨g, o + i * 4, none⟩ = some (.int .i64 m') ∧ X.cell? ⟨g, o + i * 4 + 1, none⟩ = some (.int .i64 x') ∧ X.cell? ⟨g, o + i * 4 + 2, none⟩ = some (.bool y') ∧ X.cell? ⟨g, o + i * 4 + 3, none⟩ = some (.slice B l' d')) := hide fun X hX => ⟨(hX.facts.1 _ _ hbp).trans z0, (hX.facts.1 _ _ hbp).trans z1, (hX.facts.1 _ _ hbp).trans z2, (hX.facts.1 _ _ hbp).trans z3⟩
    obtain ⟨r, hr⟩ : ∃ r, q.isC wd p = r := ⟨_, rfl⟩
    have HIP := hide (HIH.out q (List.mem_of_getElem? hxq) p (List.mem_of_getElem? hxp) false (fun _ => ho9.part H.out (List.mem_of_getElem? hxp) (fun h => by rw [hk] at h; exact absurd h (by decide)) (by rw [hk]; decide)) (fun h => nomatch h))
    rw [hqv, hpv, hr, Bool.false_and, Bool.not_false, Bool.and_true] at HIP
    unfold R1 at HIP
    have RES : Hid (res = r) := hide (by
     rw [RES0.out]
     have h1 : (qs.map (Cel.isC wd)).headD (fun _ => false) = q.isC wd := by
      cases qs with
      | nil => simp at hxq
      | cons a t => injection hxq with hxq; subst hxq; rfl
     have h2 : ((Lay.mk 8 n f (some ⟨g, o, none⟩) len cap ps).parts[x.toNat]?).getD noL = p := by
      show (ps[x.toNat]?).getD noL = p
      rw [hxi, Int.toNat_natCast, hxp]
      rfl
     rw [h1, h2, hr]
     rfl)
    clear hres2 ho9 h0x hxl hxi hil hn1 hbq hxq hqe hqv v0 v1 v2 v3 hbp hxp hpe hpv z0 z1 z2 z3 hr
    clear hl hv hq2 ih ho hqW hw2 hd hc hx hqq hql hk he1 he2 he3
    obtain ⟨k0, k1, k2, k3, t0, t1⟩ := KA.out w2 (Q.refl _)
    obtain ⟨c0, c1, c2', c3⟩ := KX.out w2 (Q.refl _)
    go_enter Try.func84, Try.ntmps84
    go_upto_region 1 with fail
    rw [HW2.out]
    go_upto_region 17 with fail
    clear k0 k1 k2 k3 t0 t1 c0 c1 c2' c3
    refine Ri.madeZ (C := fun W0 => Q w2 W0) [] [0, 1, 2, 3, 4, 5, 6, 7, 8, 9, 10, 11, 12, 13, 14, 15, 16, 17, 18, 19, 20, 21, 22, 23, 24, 25, 26, 27, 28, 29, 30, 31, 32, 33, 34, 35, 36] (fun w1 w3 X hq => X.trans hq) (Ri.phi [Ri.isV (.pointer (some ⟨W.heap.size + 2, 0, none⟩)), Ri.isV (.int .i64 x), Ri.isV (.bool true), Ri.isV (.bool true), Ri.isV (.pointer (some ⟨W.heap.size + 2, 0, none⟩)), Ri.isV (.int .i64 x), Ri.isV (.pointer (some ⟨W.heap.size, 3, none⟩)), Ri.isV (.slice (some ⟨g, o, none⟩) len cap), Ri.isV (.int .i64 (len : Nat)), Ri.isV (.bool true), Ri.isV (.bool true), Ri.isV (.bool true), Ri.isV (.pointer (some ⟨W.heap.size + 2, 1, none⟩)), Ri.isV (.bool false), Ri.isV (.bool true), Ri.isV (.bool true), Ri.isV (.bool true), Ri.isV (.pointer (some ⟨W.heap.size + 2, 3, none⟩)), Ri.isV (.slice (some ⟨g2, o2, none⟩) n2 c2), Ri.isV (.int .i64 (n2 : Nat)), Ri.isV (.bool true), Ri.isV (.bool true), Ri.isV (.bool true), Ri.isV (.pointer (some ⟨W.heap.size, 3, none⟩)), Ri.isV (.slice (some ⟨g, o, none⟩) len cap), Ri.isV (.pointer (some ⟨W.heap.size + 2, 0, none⟩)), Ri.isV (.int .i64 x), Ri.isV (.pointer (some ⟨g, o + i * 4, none⟩)), Ri.isV (.agg #[.int .i64 m', .int .i64 x', .bool y', .slice B l' d']), Ri.isV (tgW wd b), Ri.isV (.pointer (some ⟨W.heap.size + 2, 3, none⟩)), Ri.isV (.slice (some ⟨g2, o2, none⟩) n2 c2), Ri.isV (.pointer (some ⟨g2, o2 + 0 * 4, none⟩)), Ri.isV (.agg #[.int .i64 m2, .bool x2, .bool y2, .slice B2 l2 d2]), Ri.isV (.bool r), Ri.isV (.bool r), Ri.isV (.bool r)]) (by kernel_rfl) (by kernel_rfl) (by kernel_rfl) ((Q.refl _).drew) (Ri.phi_mono ?_) (Ri.phi_fix ?_) ?_ ?_
    ·repeat' first | exact trivial | exact fun _ _ _ h _ => h | refine ⟨?_, ?_⟩
    ·repeat' first | exact trivial | exact fun _ _ _ _ h => h | refine ⟨?_, ?_⟩
    ·refine Ri.All.cons ?_ (.cons ?_ (.cons ?_ (.cons ?_ (.cons ?_ (.cons ?_ (.cons ?_ (.cons ?_ (.cons ?_ (.cons ?_ (.cons ?_ (.cons ?_ (.cons ?_ (.cons ?_ (.cons ?_ (.cons ?_ (.cons ?_ (.cons ?_ (.cons ?_ (.cons ?_ (.cons ?_ (.cons ?_ (.cons ?_ (.cons ?_ (.cons ?_ (.cons ?_ (.cons ?_ (.cons ?_ (.cons ?_ (.cons ?_ (.cons ?_ (.cons ?_ (.cons ?_ (.cons ?_ (.cons ?_ (.cons ?_ (.cons ?_ (Ri.All.nil)))))))))))))))))))))))))))))))))))))
     ·refine Ri.StepZ.q (h := fun f0 W9 hq hf Ac hA hB hO => ?_)
      have e1 := (hB 6).trans (show _ = .pointer (some ⟨W.heap.size + 2, 0, none⟩) by simp [Act.eval])
      exact Ri.wp_value _ (Ri.run_fld (f := _) rfl e1 Try.underlying31 rfl (sz := 0) (by kernel_rfl)) rfl
     ·refine Ri.StepZ.q (h := fun f0 W9 hq hf Ac hA hB hO => ?_)
      have e1 := (hA 125 0).trans (hf 0)
      exact Ri.wp_value _ (Ri.run_ld1 rfl e1 Try.underlying3 rfl ((KX.out W9 hq).1)) rfl
     ·refine Ri.StepZ.q (h := fun f0 W9 hq hf Ac hA hB hO => ?_)
      have e1 := (hA 126 1).trans (hf 1)
      have e2 : Ac.eval (.const (.int .i64 0)) = .int .i64 0 := rfl
      exact Ri.wp_value _ ((Ri.run_geqJ rfl e1 e2 Try.underlying3).trans (by rw [HE1.out])) rfl
     ·refine Ri.StepZ.q (h := fun f0 W9 hq hf Ac hA hB hO => ?_)
      have e1 := (hA 127 2).trans (hf 2)
      exact Ri.wp_value _ (Ri.run_mv rfl e1) rfl
     ·refine Ri.StepZ.gq (by kernel_rfl) rfl rfl (by simp) fun f0 W9 hq hf Ac hA hB hO => ⟨hf 3, ?_⟩
      have e1 := (hB 6).trans (show _ = .pointer (some ⟨W.heap.size + 2, 0, none⟩) by simp [Act.eval])
      exact Ri.wp_value _ (Ri.run_fld (f := _) rfl e1 Try.underlying31 rfl (sz := 0) (by kernel_rfl)) rfl
     ·refine Ri.StepZ.gq (by kernel_rfl) rfl rfl (by simp) fun f0 W9 hq hf Ac hA hB hO => ⟨hf 3, ?_⟩
      have e1 := (hA 129 4).trans (hf 4)
      exact Ri.wp_value _ (Ri.run_ld1 rfl e1 Try.underlying3 rfl ((KX.out W9 hq).1)) rfl
     ·refine Ri.StepZ.gq (by kernel_rfl) rfl rfl (by simp) fun f0 W9 hq hf Ac hA hB hO => ⟨hf 3, ?_⟩
      have e1 := (hB 4).trans (show _ = .pointer (some ⟨W.heap.size, 0, none⟩) by simp [Act.eval])
      exact Ri.wp_value _ (Ri.run_fld (f := _) rfl e1 Try.underlying24 rfl (sz := 0) (by kernel_rfl)) rfl
     ·refine Ri.StepZ.gq (by kernel_rfl) rfl rfl (by simp) fun f0 W9 hq hf Ac hA hB hO => ⟨hf 3, ?_⟩
      have e1 := (hA 131 6).trans (hf 6)
      exact Ri.wp_value _ (Ri.run_ld1 rfl e1 Try.underlying22 rfl ((KA.out W9 hq).2.2.2.1)) rfl
     ·refine Ri.StepZ.gq (by kernel_rfl) rfl rfl (by simp) fun f0 W9 hq hf Ac hA hB hO => ⟨hf 3, ?_⟩
      have e1 := (hA 132 7).trans (hf 7)
      exact Ri.wp_value _ (Ri.run_lenC rfl e1 Try.underlying22) rfl
     ·refine Ri.StepZ.gq (by kernel_rfl) rfl rfl (by simp) fun f0 W9 hq hf Ac hA hB hO => ⟨hf 3, ?_⟩
      have e1 := (hA 130 5).trans (hf 5)
      have e2 := (hA 133 8).trans (hf 8)
      exact Ri.wp_value _ ((Ri.run_lssC rfl e1 e2 Try.underlying3).trans (by rw [HE2.out])) rfl
     ·refine Ri.StepZ.q (h := fun f0 W9 hq hf Ac hA hB hO => ?_)
      have e1 := (hA 128 3).trans (hf 3)
      have e2 := (hA 134 9).trans (hf 9)
      exact Ri.wp_value _ (Ri.run_pick rfl e1 (by simpa [Act.eval] using e2)) rfl
     ·refine Ri.StepZ.q (h := fun f0 W9 hq hf Ac hA hB hO => ?_)
      have e1 := (hA 135 10).trans (hf 10)
      exact Ri.wp_value _ (Ri.run_mv rfl e1) rfl
     ·refine Ri.StepZ.gq (by kernel_rfl) rfl rfl (by simp) fun f0 W9 hq hf Ac hA hB hO => ⟨hf 11, ?_⟩
      have e1 := (hB 6).trans (show _ = .pointer (some ⟨W.heap.size + 2, 0, none⟩) by simp [Act.eval])
      exact Ri.wp_value _ (Ri.run_fld (f := _) rfl e1 Try.underlying31 rfl (sz := 0) (by kernel_rfl)) rfl
     ·refine Ri.StepZ.gq (by kernel_rfl) rfl rfl (by simp) fun f0 W9 hq hf Ac hA hB hO => ⟨hf 11, ?_⟩
      have e1 := (hA 137 12).trans (hf 12)
      exact Ri.wp_value _ (Ri.run_ld1 rfl e1 Try.underlying4 rfl ((KX.out W9 hq).2.1)) rfl
     ·refine Ri.StepZ.gq (by kernel_rfl) rfl rfl (by simp) fun f0 W9 hq hf Ac hA hB hO => ⟨hf 11, ?_⟩
      have e1 := (hA 138 13).trans (hf 13)
      exact Ri.wp_value _ (Ri.run_not rfl e1) rfl
     ·refine Ri.StepZ.q (h := fun f0 W9 hq hf Ac hA hB hO => ?_)
      have e1 := (hA 136 11).trans (hf 11)
      have e2 := (hA 139 14).trans (hf 14)
      exact Ri.wp_value _ (Ri.run_pick rfl e1 (by simpa [Act.eval] using e2)) rfl
     ·refine Ri.StepZ.q (h := fun f0 W9 hq hf Ac hA hB hO => ?_)
      have e1 := (hA 140 15).trans (hf 15)
      exact Ri.wp_value _ (Ri.run_mv rfl e1) rfl
     ·refine Ri.StepZ.gq (by kernel_rfl) rfl rfl (by simp) fun f0 W9 hq hf Ac hA hB hO => ⟨hf 16, ?_⟩
      have e1 := (hB 6).trans (show _ = .pointer (some ⟨W.heap.size + 2, 0, none⟩) by simp [Act.eval])
      exact Ri.wp_value _ (Ri.run_fld (f := _) rfl e1 Try.underlying31 rfl (sz := 0) (by kernel_rfl)) rfl
     ·refine Ri.StepZ.gq (by kernel_rfl) rfl rfl (by simp) fun f0 W9 hq hf Ac hA hB hO => ⟨hf 16, ?_⟩
      have e1 := (hA 142 17).trans (hf 17)
      exact Ri.wp_value _ (Ri.run_ld1 rfl e1 Try.underlying29 rfl ((KX.out W9 hq).2.2.2)) rfl
     ·refine Ri.StepZ.gq (by kernel_rfl) rfl rfl (by simp) fun f0 W9 hq hf Ac hA hB hO => ⟨hf 16, ?_⟩
      have e1 := (hA 143 18).trans (hf 18)
      exact Ri.wp_value _ (Ri.run_lenC rfl e1 Try.underlying29) rfl
     ·refine Ri.StepZ.gq (by kernel_rfl) rfl rfl (by simp) fun f0 W9 hq hf Ac hA hB hO => ⟨hf 16, ?_⟩
      have e1 := (hA 144 19).trans (hf 19)
      have e2 : Ac.eval (.const (.int .i64 1)) = .int .i64 1 := rfl
      exact Ri.wp_value _ ((Ri.run_eqlC rfl e1 e2 Try.underlying3).trans (by rw [HE3.out])) rfl
     ·refine Ri.StepZ.q (h := fun f0 W9 hq hf Ac hA hB hO => ?_)
      have e1 := (hA 141 16).trans (hf 16)
      have e2 := (hA 145 20).trans (hf 20)
      exact Ri.wp_value _ (Ri.run_pick rfl e1 (by simpa [Act.eval] using e2)) rfl
     ·refine Ri.StepZ.q (h := fun f0 W9 hq hf Ac hA hB hO => ?_)
      have e1 := (hA 146 21).trans (hf 21)
      exact Ri.wp_value _ (Ri.run_mv rfl e1) rfl
     ·refine Ri.StepZ.gq (by kernel_rfl) rfl rfl (by simp) fun f0 W9 hq hf Ac hA hB hO => ⟨hf 22, ?_⟩
      have e1 := (hB 4).trans (show _ = .pointer (some ⟨W.heap.size, 0, none⟩) by simp [Act.eval])
      exact Ri.wp_value _ (Ri.run_fld (f := _) rfl e1 Try.underlying24 rfl (sz := 0) (by kernel_rfl)) rfl
     ·refine Ri.StepZ.gq (by kernel_rfl) rfl rfl (by simp) fun f0 W9 hq hf Ac hA hB hO => ⟨hf 22, ?_⟩
      have e1 := (hA 148 23).trans (hf 23)
      exact Ri.wp_value _ (Ri.run_ld1 rfl e1 Try.underlying22 rfl ((KA.out W9 hq).2.2.2.1)) rfl
     ·refine Ri.StepZ.gq (by kernel_rfl) rfl rfl (by simp) fun f0 W9 hq hf Ac hA hB hO => ⟨hf 22, ?_⟩
      have e1 := (hB 6).trans (show _ = .pointer (some ⟨W.heap.size + 2, 0, none⟩) by simp [Act.eval])
      exact Ri.wp_value _ (Ri.run_fld (f := _) rfl e1 Try.underlying31 rfl (sz := 0) (by kernel_rfl)) rfl
     ·refine Ri.StepZ.gq (by kernel_rfl) rfl rfl (by simp) fun f0 W9 hq hf Ac hA hB hO => ⟨hf 22, ?_⟩
      have e1 := (hA 150 25).trans (hf 25)
      exact Ri.wp_value _ (Ri.run_ld1 rfl e1 Try.underlying3 rfl ((KX.out W9 hq).1)) rfl
     ·refine Ri.StepZ.gq (by kernel_rfl) rfl rfl (by simp) fun f0 W9 hq hf Ac hA hB hO => ⟨hf 22, ?_⟩
      have e1 := (hA 149 24).trans (hf 24)
      have e2 := (hA 151 26).trans (hf 26)
      exact Ri.wp_value _ (Ri.run_idx rfl e1 (e2.trans (by rw [HXI.out])) Try.underlying22 (sz := 4) (by kernel_rfl) HLP.out) rfl
     ·refine Ri.StepZ.gq (by kernel_rfl) rfl rfl (by simp) fun f0 W9 hq hf Ac hA hB hO => ⟨hf 22, ?_⟩
      have e1 := (hA 152 27).trans (hf 27)
      obtain ⟨b0, b1, b2, b3⟩ := KP.out W9 hq
      exact Ri.wp_value _ (Ri.run_ldagg rfl e1 (c4G b0 b1 b2 b3) Try.underlying24 rfl (by kernel_rfl)) rfl
     ·refine Ri.StepZ.gq (by kernel_rfl) rfl rfl (by simp) fun f0 W9 hq hf Ac hA hB hO => ⟨hf 22, ?_⟩
      have e1 := (hB 5).trans (show _ = .pointer (some ⟨W.heap.size + 1, 0, none⟩) by simp [Act.eval])
      obtain ⟨-, -, -, -, u0, u1⟩ := KA.out W9 hq
      exact Ri.wp_value _ (Ri.run_ldagg (cs := [.int .i64 wd, .bool b]) rfl e1 (c2L u0 u1) Try.underlying26 rfl (by kernel_rfl)) rfl
     ·refine Ri.StepZ.gq (by kernel_rfl) rfl rfl (by simp) fun f0 W9 hq hf Ac hA hB hO => ⟨hf 22, ?_⟩
      have e1 := (hB 6).trans (show _ = .pointer (some ⟨W.heap.size + 2, 0, none⟩) by simp [Act.eval])
      exact Ri.wp_value _ (Ri.run_fld (f := _) rfl e1 Try.underlying31 rfl (sz := 0) (by kernel_rfl)) rfl
     ·refine Ri.StepZ.gq (by kernel_rfl) rfl rfl (by simp) fun f0 W9 hq hf Ac hA hB hO => ⟨hf 22, ?_⟩
      have e1 := (hA 155 30).trans (hf 30)
      exact Ri.wp_value _ (Ri.run_ld1 rfl e1 Try.underlying29 rfl ((KX.out W9 hq).2.2.2)) rfl
     ·refine Ri.StepZ.gq (by kernel_rfl) rfl rfl (by simp) fun f0 W9 hq hf Ac hA hB hO => ⟨hf 22, ?_⟩
      have e1 := (hA 156 31).trans (hf 31)
      have e2 : Ac.eval (.const (.int .i64 0)) = .int .i64 ((0 : Nat) : Int) := rfl
      exact Ri.wp_value _ (Ri.run_idx rfl e1 e2 Try.underlying29 (sz := 4) (by kernel_rfl) HLQ.out) rfl
     ·refine Ri.StepZ.gq (by kernel_rfl) rfl rfl (by simp) fun f0 W9 hq hf Ac hA hB hO => ⟨hf 22, ?_⟩
      have e1 := (hA 157 32).trans (hf 32)
      obtain ⟨b0, b1, b2, b3⟩ := KQ.out W9 hq
      exact Ri.wp_value _ (Ri.run_ldagg rfl e1 (c4G b0 b1 b2 b3) Try.underlying31 rfl (by kernel_rfl)) rfl
     ·refine Ri.StepZ.gq (by kernel_rfl) rfl rfl (by simp) fun f0 W9 hq hf Ac hA hB hO => ⟨hf 22, ?_⟩
      have e1 := (hA 153 28).trans (hf 28)
      have e2 := (hA 154 29).trans (hf 29)
      have e3 := (hA 158 33).trans (hf 33)
      have e4 : Ac.eval (.const (.bool false)) = .bool false := rfl
      refine Ri.wp_call #[.agg #[.int .i64 m', .int .i64 x', .bool y', .slice B l' d'], tgW wd b, .agg #[.int .i64 m2, .bool x2, .bool y2, .slice B2 l2 d2], .bool false] rfl (by simp [e1, e2, e3, e4]) Try.func84 (by kernel_rfl) (by kernel_rfl) ((HIP.out W9 (HWQ.out.trans hq)).mono ?_)
      rintro e w9 ⟨rfl, h1⟩
      exact ⟨_, rfl, h1, rfl⟩
     ·refine Ri.StepZ.q (h := fun f0 W9 hq hf Ac hA hB hO => ?_)
      have e1 := (hA 147 22).trans (hf 22)
      have e2 := (hA 159 34).trans (hf 34)
      exact Ri.wp_value _ (Ri.run_pick rfl e1 (by simpa [Act.eval] using e2)) rfl
     ·refine Ri.StepZ.q (h := fun f0 W9 hq hf Ac hA hB hO => ?_)
      have e1 := (hA 160 35).trans (hf 35)
      exact Ri.wp_value _ (Ri.run_asg rfl e1) rfl
    ·intro f0 w8 hq8 hf
     have hl9 := hf 36 (by simp) (by kernel_rfl)
     simp only [Ri.phi, List.getD_cons_zero, List.getD_cons_succ, Ri.isV] at hl9
     simp only [Ri.acts, Act.put, List.setIfInBounds_toArray, List.set_cons_zero, List.set_cons_succ, Nat.zero_add, Nat.reduceAdd]
     rw [hl9]
     have HQ8 := hide (HQ2.out.trans hq8)
     clear hf hl9 hq8
     go_wp2_with fail
     go_ret
     exact ⟨by rw [RES.out] <;> rfl, HQ8.out⟩
end Go.Proofs.Ytbgbalfhbficaaa
