/- isCell of the reference. Conditions: as each theorem says. -/
import Derived.Test.YtbgbalfhbficaaaCz15
namespace Go.Proofs.Ytbgbalfhbficaaa
set_option maxRecDepth 100000
set_option maxHeartbeats 2000000
open Go.RowKit
set_option linter.unusedVariables false
set_option linter.unusedSimpArgs false
theorem rCell_und {w : World} {k n : Int} {f : Bool} {A : Option Addr} {len cap : Nat} {ps : List Lay} (hl : LayR w (.mk k n f A len cap ps)) (hv : VL (.mk k n f A len cap ps)) (hcnt : (Lay.mk k n f A len cap ps).count ≤ 1048576) (wd : Int) (hw : okW wd) (b : Bool) {x : Int} {nul und pk : Bool} (ho : pk = false → Okw wd (.mk k n f A len cap ps)) {A2 : Option Addr} {n2 c2 : Nat} {qs : List Cel} (hq2 : Sl 4 encC w A2 n2 c2 qs) (hn2 : n2 ≤ 140737488351232) (ih : ∀ q ∈ qs, ∀ p ∈ ps, ∀ pk : Bool, (pk = false → Okw wd p) → (pk = true → p.k = 1 ∨ p.k = 2) → ∀ W, Q w W → Calls Try.prog 84 #[p.v, tgW wd b, q.v, .bool pk] W (R1 W (.bool (q.isC wd p && !(pk && q.und))))) (hu : und = true) : ∀ W, Q w W → Calls Try.prog 84 #[.agg #[.int .i64 k, .int .i64 n, .bool f, .slice A len cap], tgW wd b, .agg #[.int .i64 x, .bool nul, .bool und, .slice A2 n2 c2], .bool pk] W (R1 W (.bool (cellC wd (.mk k n f A len cap ps) x nul und (qs.map (Cel.isC wd)) (qs.map Cel.und) && !(pk && und)))) := by
 intro W hqW
 unfold R1
 have hk : (Lay.mk k n f A len cap ps).k = k := rfl
 have hql : ((qs.map (Cel.isC wd)).length : Int) = (n2 : Int) := by rw [List.length_map, hq2.len]
 subst hu
 have HSL : Hid (Sl 4 encL w A len cap ps) := by cases hl with | @mk _ _ _ _ _ _ _ hk hn hsl hnil hcap hall => exact hide hsl
 have hlb : (len : Int) ≤ 140737488351232 := by cases hl with | @mk _ _ _ _ _ _ _ hk hn hsl hnil hcap hall => omega
 have H := hide hl
 have HV := hide hv
 have HSQ := hide hq2
 have HIH := hide ih
 have HOK := hide ho
 have HQW := hide hqW
 obtain ⟨w2, hw2⟩ : ∃ w2, ((W.alloc (.cells #[.int .i64 k, .int .i64 n, .bool f, .slice A len cap] 24)).alloc (.cells #[.int .i64 wd, .bool b] 26)).alloc (.cells #[.int .i64 x, .bool nul, .bool true, .slice A2 n2 c2] 31) = w2 := ⟨_, rfl⟩
 obtain ⟨hqq, hs2, hc, hd, hx⟩ := box3 hw2
 have hb0 : W.heap.size < w2.heap.size := by omega
 have hb1 : W.heap.size + 1 < w2.heap.size := by omega
 have hb2 : W.heap.size + 2 < w2.heap.size := by omega
 have KA := hide fun X (hX : Q w2 X) => (cs42 hX hb0 hc hb1 hd : Cs42 X W.heap.size (.int .i64 k) (.int .i64 n) (.bool f) (.slice A len cap) (W.heap.size + 1) (.int .i64 wd) (.bool b))
 have KX := hide fun X (hX : Q w2 X) => (cs4 hX hb2 hx : Cs4 X (W.heap.size + 2) (.int .i64 x) (.bool nul) (.bool true) (.slice A2 n2 c2))
 have HW2 := hide hw2
 have HQ2 := hide hqq
 have HWQ := hide (hqW.trans hqq)
 obtain ⟨e1, he1⟩ : ∃ e, (x == 0) = e := ⟨_, rfl⟩
 obtain ⟨e3, he3⟩ : ∃ e, ((n2 : Int) == 0) = e := ⟨_, rfl⟩
 obtain ⟨hb, hhb⟩ : ∃ hb, (Lay.mk k n f A len cap ps).hasB wd = hb := ⟨_, rfl⟩
 have RES : Hid ((cellC wd (.mk k n f A len cap ps) x nul true (qs.map (Cel.isC wd)) (qs.map Cel.und) && !(pk && true)) = ((e1 && (!nul && (e3 && hb))) && !pk)) := hide (by rw [cellC_und rfl, hql, he1, he3, hhb, Bool.and_true])
 obtain ⟨res, hres⟩ : ∃ r, (cellC wd (.mk k n f A len cap ps) x nul true (qs.map (Cel.isC wd)) (qs.map Cel.und) && !(pk && true)) = r := ⟨_, rfl⟩
 rw [hres] at RES ⊢
 clear hres
 cases pk with
 | true =>
  clear hhb
  clear hl hv hq2 ih ho hqW hw2 hd hc hx hqq hql hk
  obtain ⟨k0, k1, k2, k3, t0, t1⟩ := KA.out w2 (Q.refl _)
  obtain ⟨c0, c1, c2', c3⟩ := KX.out w2 (Q.refl _)
  go_enter Try.func84, Try.ntmps84
  go_upto_region 1 with fail
  rw [HW2.out]
  go_wp2_with fail
  go_ret
  exact ⟨by rw [RES.out, Bool.and_comm] <;> rfl, HQ2.out⟩
 | false =>
  have HHO := hide (hasOwn_any hl hcnt wd b (ho rfl))
  rw [show (Lay.mk k n f A len cap ps).v = .agg #[.int .i64 k, .int .i64 n, .bool f, .slice A len cap] from rfl, hhb] at HHO
  unfold R1 at HHO
  clear hhb
  clear hl hv hq2 ih ho hqW hw2 hd hc hx hqq hql hk
  obtain ⟨k0, k1, k2, k3, t0, t1⟩ := KA.out w2 (Q.refl _)
  obtain ⟨c0, c1, c2', c3⟩ := KX.out w2 (Q.refl _)
  go_enter Try.func84, Try.ntmps84
  go_upto_region 1 with fail
  rw [HW2.out]
  cases e1 with
  | false =>
   go_wp2_with fail
   go_ret
   exact ⟨by rw [RES.out] <;> rfl, HQ2.out⟩
  | true =>
   cases nul with
   | true =>
    go_wp2_with fail
    go_ret
    exact ⟨by rw [RES.out] <;> rfl, HQ2.out⟩
   | false =>
    cases e3 with
    | false =>
     go_wp2_with fail
     go_ret
     exact ⟨by rw [RES.out] <;> rfl, HQ2.out⟩
    | true =>
     go_wp2_with fail
     refine (HHO.out w2 HWQ.out).mono ?_
     rintro e w3 ⟨rfl, hq3⟩
     have HQ3 := hide (HQ2.out.trans hq3)
     clear hq3 k0 k1 k2 k3 t0 t1 c0 c1 c2' c3
     go_wp2_with fail
     go_ret
     exact ⟨by rw [RES.out] <;> cases hb <;> rfl, HQ3.out⟩
theorem rCell_0t {w : World} {k n : Int} {f : Bool} {A : Option Addr} {len cap : Nat} {ps : List Lay} (hl : LayR w (.mk k n f A len cap ps)) (hv : VL (.mk k n f A len cap ps)) (hcnt : (Lay.mk k n f A len cap ps).count ≤ 1048576) (wd : Int) (hw : okW wd) (b : Bool) {x : Int} {nul und pk : Bool} (ho : pk = false → Okw wd (.mk k n f A len cap ps)) {A2 : Option Addr} {n2 c2 : Nat} {qs : List Cel} (hq2 : Sl 4 encC w A2 n2 c2 qs) (hn2 : n2 ≤ 140737488351232) (ih : ∀ q ∈ qs, ∀ p ∈ ps, ∀ pk : Bool, (pk = false → Okw wd p) → (pk = true → p.k = 1 ∨ p.k = 2) → ∀ W, Q w W → Calls Try.prog 84 #[p.v, tgW wd b, q.v, .bool pk] W (R1 W (.bool (q.isC wd p && !(pk && q.und))))) (hu : und = false) (hnl : nul = true) (hk0 : k = 0) : ∀ W, Q w W → Calls Try.prog 84 #[.agg #[.int .i64 k, .int .i64 n, .bool f, .slice A len cap], tgW wd b, .agg #[.int .i64 x, .bool nul, .bool und, .slice A2 n2 c2], .bool pk] W (R1 W (.bool (cellC wd (.mk k n f A len cap ps) x nul und (qs.map (Cel.isC wd)) (qs.map Cel.und) && !(pk && und)))) := by
 intro W hqW
 unfold R1
 have hk : (Lay.mk k n f A len cap ps).k = k := rfl
 have hql : ((qs.map (Cel.isC wd)).length : Int) = (n2 : Int) := by rw [List.length_map, hq2.len]
 subst hu hnl hk0
 have HSL : Hid (Sl 4 encL w A len cap ps) := by cases hl with | @mk _ _ _ _ _ _ _ hk hn hsl hnil hcap hall => exact hide hsl
 have hlb : (len : Int) ≤ 140737488351232 := by cases hl with | @mk _ _ _ _ _ _ _ hk hn hsl hnil hcap hall => omega
 have H := hide hl
 have HV := hide hv
 have HSQ := hide hq2
 have HIH := hide ih
 have HOK := hide ho
 have HQW := hide hqW
 obtain ⟨w2, hw2⟩ : ∃ w2, ((W.alloc (.cells #[.int .i64 0, .int .i64 n, .bool f, .slice A len cap] 24)).alloc (.cells #[.int .i64 wd, .bool b] 26)).alloc (.cells #[.int .i64 x, .bool true, .bool false, .slice A2 n2 c2] 31) = w2 := ⟨_, rfl⟩
 obtain ⟨hqq, hs2, hc, hd, hx⟩ := box3 hw2
 have hb0 : W.heap.size < w2.heap.size := by omega
 have hb1 : W.heap.size + 1 < w2.heap.size := by omega
 have hb2 : W.heap.size + 2 < w2.heap.size := by omega
 have KA := hide fun X (hX : Q w2 X) => (cs42 hX hb0 hc hb1 hd : Cs42 X W.heap.size (.int .i64 0) (.int .i64 n) (.bool f) (.slice A len cap) (W.heap.size + 1) (.int .i64 wd) (.bool b))
 have KX := hide fun X (hX : Q w2 X) => (cs4 hX hb2 hx : Cs4 X (W.heap.size + 2) (.int .i64 x) (.bool true) (.bool false) (.slice A2 n2 c2))
 have HW2 := hide hw2
 have HQ2 := hide hqq
 have HWQ := hide (hqW.trans hqq)
 obtain ⟨e1, he1⟩ : ∃ e, (x == 0) = e := ⟨_, rfl⟩
 obtain ⟨e3, he3⟩ : ∃ e, ((n2 : Int) == 0) = e := ⟨_, rfl⟩
 have RES : Hid ((cellC wd (.mk 0 n f A len cap ps) x true false (qs.map (Cel.isC wd)) (qs.map Cel.und) && !(pk && false)) = false) := hide (by rw [Bool.and_false, Bool.not_false, Bool.and_true, cellC_nul rfl rfl, hk] <;> first | rfl | simp only [show ((0 : Int) == 4) = false by decide, Bool.false_and])
 clear hl hv hq2 ih ho hqW hw2 hd hc hx hqq hql hk
 obtain ⟨k0, k1, k2, k3, t0, t1⟩ := KA.out w2 (Q.refl _)
 obtain ⟨c0, c1, c2', c3⟩ := KX.out w2 (Q.refl _)
 go_enter Try.func84, Try.ntmps84
 go_upto_region 1 with fail
 rw [HW2.out]
 cases e1 with
 | false =>
  go_wp2_with fail
  go_ret
  exact ⟨by rw [RES.out] <;> rfl, HQ2.out⟩
 | true =>
  go_wp2_with fail
  go_ret
  exact ⟨by rw [RES.out] <;> rfl, HQ2.out⟩
theorem rCell_0f {w : World} {k n : Int} {f : Bool} {A : Option Addr} {len cap : Nat} {ps : List Lay} (hl : LayR w (.mk k n f A len cap ps)) (hv : VL (.mk k n f A len cap ps)) (hcnt : (Lay.mk k n f A len cap ps).count ≤ 1048576) (wd : Int) (hw : okW wd) (b : Bool) {x : Int} {nul und pk : Bool} (ho : pk = false → Okw wd (.mk k n f A len cap ps)) {A2 : Option Addr} {n2 c2 : Nat} {qs : List Cel} (hq2 : Sl 4 encC w A2 n2 c2 qs) (hn2 : n2 ≤ 140737488351232) (ih : ∀ q ∈ qs, ∀ p ∈ ps, ∀ pk : Bool, (pk = false → Okw wd p) → (pk = true → p.k = 1 ∨ p.k = 2) → ∀ W, Q w W → Calls Try.prog 84 #[p.v, tgW wd b, q.v, .bool pk] W (R1 W (.bool (q.isC wd p && !(pk && q.und))))) (hu : und = false) (hnl : nul = false) (hk0 : k = 0) : ∀ W, Q w W → Calls Try.prog 84 #[.agg #[.int .i64 k, .int .i64 n, .bool f, .slice A len cap], tgW wd b, .agg #[.int .i64 x, .bool nul, .bool und, .slice A2 n2 c2], .bool pk] W (R1 W (.bool (cellC wd (.mk k n f A len cap ps) x nul und (qs.map (Cel.isC wd)) (qs.map Cel.und) && !(pk && und)))) := by
 intro W hqW
 unfold R1
 have hk : (Lay.mk k n f A len cap ps).k = k := rfl
 have hql : ((qs.map (Cel.isC wd)).length : Int) = (n2 : Int) := by rw [List.length_map, hq2.len]
 subst hu hnl hk0
 have HSL : Hid (Sl 4 encL w A len cap ps) := by cases hl with | @mk _ _ _ _ _ _ _ hk hn hsl hnil hcap hall => exact hide hsl
 have hlb : (len : Int) ≤ 140737488351232 := by cases hl with | @mk _ _ _ _ _ _ _ hk hn hsl hnil hcap hall => omega
 have H := hide hl
 have HV := hide hv
 have HSQ := hide hq2
 have HIH := hide ih
 have HOK := hide ho
 have HQW := hide hqW
 obtain ⟨w2, hw2⟩ : ∃ w2, ((W.alloc (.cells #[.int .i64 0, .int .i64 n, .bool f, .slice A len cap] 24)).alloc (.cells #[.int .i64 wd, .bool b] 26)).alloc (.cells #[.int .i64 x, .bool false, .bool false, .slice A2 n2 c2] 31) = w2 := ⟨_, rfl⟩
 obtain ⟨hqq, hs2, hc, hd, hx⟩ := box3 hw2
 have hb0 : W.heap.size < w2.heap.size := by omega
 have hb1 : W.heap.size + 1 < w2.heap.size := by omega
 have hb2 : W.heap.size + 2 < w2.heap.size := by omega
 have KA := hide fun X (hX : Q w2 X) => (cs42 hX hb0 hc hb1 hd : Cs42 X W.heap.size (.int .i64 0) (.int .i64 n) (.bool f) (.slice A len cap) (W.heap.size + 1) (.int .i64 wd) (.bool b))
 have KX := hide fun X (hX : Q w2 X) => (cs4 hX hb2 hx : Cs4 X (W.heap.size + 2) (.int .i64 x) (.bool false) (.bool false) (.slice A2 n2 c2))
 have HW2 := hide hw2
 have HQ2 := hide hqq
 have HWQ := hide (hqW.trans hqq)
 obtain ⟨e1, he1⟩ : ∃ e, (x == 0) = e := ⟨_, rfl⟩
 obtain ⟨e3, he3⟩ : ∃ e, ((n2 : Int) == 0) = e := ⟨_, rfl⟩
 have RES : Hid ((cellC wd (.mk 0 n f A len cap ps) x false false (qs.map (Cel.isC wd)) (qs.map Cel.und) && !(pk && false)) = (e1 && e3)) := hide (by rw [Bool.and_false, Bool.not_false, Bool.and_true, cellC_0 rfl rfl rfl, hql, he1, he3])
 clear hl hv hq2 ih ho hqW hw2 hd hc hx hqq hql hk
 obtain ⟨k0, k1, k2, k3, t0, t1⟩ := KA.out w2 (Q.refl _)
 obtain ⟨c0, c1, c2', c3⟩ := KX.out w2 (Q.refl _)
 go_enter Try.func84, Try.ntmps84
 go_upto_region 1 with fail
 rw [HW2.out]
 cases e1 with
 | false =>
  go_wp2_with fail
  go_ret
  exact ⟨by rw [RES.out] <;> rfl, HQ2.out⟩
 | true =>
  go_wp2_with fail
  go_ret
  exact ⟨by rw [RES.out] <;> rfl, HQ2.out⟩
theorem rCell_nt {w : World} {k n : Int} {f : Bool} {A : Option Addr} {len cap : Nat} {ps : List Lay} (hl : LayR w (.mk k n f A len cap ps)) (hv : VL (.mk k n f A len cap ps)) (hcnt : (Lay.mk k n f A len cap ps).count ≤ 1048576) (wd : Int) (hw : okW wd) (b : Bool) {x : Int} {nul und pk : Bool} (ho : pk = false → Okw wd (.mk k n f A len cap ps)) {A2 : Option Addr} {n2 c2 : Nat} {qs : List Cel} (hq2 : Sl 4 encC w A2 n2 c2 qs) (hn2 : n2 ≤ 140737488351232) (ih : ∀ q ∈ qs, ∀ p ∈ ps, ∀ pk : Bool, (pk = false → Okw wd p) → (pk = true → p.k = 1 ∨ p.k = 2) → ∀ W, Q w W → Calls Try.prog 84 #[p.v, tgW wd b, q.v, .bool pk] W (R1 W (.bool (q.isC wd p && !(pk && q.und))))) (hu : und = false) (hnl : nul = true) (hk0 : k = 1 ∨ k = 2 ∨ k = 3 ∨ k = 7) : ∀ W, Q w W → Calls Try.prog 84 #[.agg #[.int .i64 k, .int .i64 n, .bool f, .slice A len cap], tgW wd b, .agg #[.int .i64 x, .bool nul, .bool und, .slice A2 n2 c2], .bool pk] W (R1 W (.bool (cellC wd (.mk k n f A len cap ps) x nul und (qs.map (Cel.isC wd)) (qs.map Cel.und) && !(pk && und)))) := by
 intro W hqW
 unfold R1
 have hk : (Lay.mk k n f A len cap ps).k = k := rfl
 have hql : ((qs.map (Cel.isC wd)).length : Int) = (n2 : Int) := by rw [List.length_map, hq2.len]
 subst hu hnl
 have HSL : Hid (Sl 4 encL w A len cap ps) := by cases hl with | @mk _ _ _ _ _ _ _ hk hn hsl hnil hcap hall => exact hide hsl
 have hlb : (len : Int) ≤ 140737488351232 := by cases hl with | @mk _ _ _ _ _ _ _ hk hn hsl hnil hcap hall => omega
 have H := hide hl
 have HV := hide hv
 have HSQ := hide hq2
 have HIH := hide ih
 have HOK := hide ho
 have HQW := hide hqW
 obtain ⟨w2, hw2⟩ : ∃ w2, ((W.alloc (.cells #[.int .i64 k, .int .i64 n, .bool f, .slice A len cap] 24)).alloc (.cells #[.int .i64 wd, .bool b] 26)).alloc (.cells #[.int .i64 x, .bool true, .bool false, .slice A2 n2 c2] 31) = w2 := ⟨_, rfl⟩
 obtain ⟨hqq, hs2, hc, hd, hx⟩ := box3 hw2
 have hb0 : W.heap.size < w2.heap.size := by omega
 have hb1 : W.heap.size + 1 < w2.heap.size := by omega
 have hb2 : W.heap.size + 2 < w2.heap.size := by omega
 have KA := hide fun X (hX : Q w2 X) => (cs42 hX hb0 hc hb1 hd : Cs42 X W.heap.size (.int .i64 k) (.int .i64 n) (.bool f) (.slice A len cap) (W.heap.size + 1) (.int .i64 wd) (.bool b))
 have KX := hide fun X (hX : Q w2 X) => (cs4 hX hb2 hx : Cs4 X (W.heap.size + 2) (.int .i64 x) (.bool true) (.bool false) (.slice A2 n2 c2))
 have HW2 := hide hw2
 have HQ2 := hide hqq
 have HWQ := hide (hqW.trans hqq)
 have HLM := hide (limits_any k n f A len cap b (numK_of hv hw hk0))
 unfold R1 at HLM
 obtain ⟨lo, hlo⟩ : ∃ lo, (bnd wd k n f).1 = lo := ⟨_, rfl⟩
 obtain ⟨hi, hhi⟩ : ∃ hi, (bnd wd k n f).2 = hi := ⟨_, rfl⟩
 rw [hlo, hhi] at HLM
 obtain ⟨e1, he1⟩ : ∃ e, decide (lo ≤ x) = e := ⟨_, rfl⟩
 obtain ⟨e2, he2⟩ : ∃ e, decide (x ≤ hi) = e := ⟨_, rfl⟩
 obtain ⟨e3, he3⟩ : ∃ e, ((n2 : Int) == 0) = e := ⟨_, rfl⟩
 have RES : Hid ((cellC wd (.mk k n f A len cap ps) x true false (qs.map (Cel.isC wd)) (qs.map Cel.und) && !(pk && false)) = false) := hide (by
  rw [Bool.and_false, Bool.not_false, Bool.and_true, cellC_nul rfl rfl, hk, show (k == 4) = false by simp; omega]
  rfl)
 clear hlo hhi
 clear hl hv hq2 ih ho hqW hw2 hd hc hx hqq hql hk
 rcases hk0 with rfl | rfl | rfl | rfl
 all_goals (
  obtain ⟨k0, k1, k2, k3, t0, t1⟩ := KA.out w2 (Q.refl _)
  obtain ⟨c0, c1, c2', c3⟩ := KX.out w2 (Q.refl _)
  go_enter Try.func84, Try.ntmps84
  go_upto_region 1 with fail
  rw [HW2.out]
  go_wp2_with fail
  refine (HLM.out w2).mono ?_
  rintro e w3 ⟨rfl, hq3⟩
  have HQ3 := hide (HQ2.out.trans hq3)
  have Q23 := hide hq3
  clear hq3 k0 k1 k2 k3 t0 t1 c0 c1 c2' c3
  obtain ⟨c0, c1, c2', c3⟩ := KX.out w3 Q23.out
  cases e1 with
  | false =>
   go_wp2_with fail
   go_ret
   exact ⟨by rw [RES.out] <;> cases e3 <;> rfl, HQ3.out⟩
  | true =>
   cases e2 with
   | false =>
    go_wp2_with fail
    go_ret
    exact ⟨by rw [RES.out] <;> cases e3 <;> rfl, HQ3.out⟩
   | true =>
    cases e3 with
    | false =>
     go_wp2_with fail
     go_ret
     exact ⟨by rw [RES.out] <;> rfl, HQ3.out⟩
    | true =>
     go_wp2_with fail
     go_ret
     exact ⟨by rw [RES.out] <;> rfl, HQ3.out⟩)
theorem rCell_nf {w : World} {k n : Int} {f : Bool} {A : Option Addr} {len cap : Nat} {ps : List Lay} (hl : LayR w (.mk k n f A len cap ps)) (hv : VL (.mk k n f A len cap ps)) (hcnt : (Lay.mk k n f A len cap ps).count ≤ 1048576) (wd : Int) (hw : okW wd) (b : Bool) {x : Int} {nul und pk : Bool} (ho : pk = false → Okw wd (.mk k n f A len cap ps)) {A2 : Option Addr} {n2 c2 : Nat} {qs : List Cel} (hq2 : Sl 4 encC w A2 n2 c2 qs) (hn2 : n2 ≤ 140737488351232) (ih : ∀ q ∈ qs, ∀ p ∈ ps, ∀ pk : Bool, (pk = false → Okw wd p) → (pk = true → p.k = 1 ∨ p.k = 2) → ∀ W, Q w W → Calls Try.prog 84 #[p.v, tgW wd b, q.v, .bool pk] W (R1 W (.bool (q.isC wd p && !(pk && q.und))))) (hu : und = false) (hnl : nul = false) (hk0 : k = 1 ∨ k = 2 ∨ k = 3 ∨ k = 7) : ∀ W, Q w W → Calls Try.prog 84 #[.agg #[.int .i64 k, .int .i64 n, .bool f, .slice A len cap], tgW wd b, .agg #[.int .i64 x, .bool nul, .bool und, .slice A2 n2 c2], .bool pk] W (R1 W (.bool (cellC wd (.mk k n f A len cap ps) x nul und (qs.map (Cel.isC wd)) (qs.map Cel.und) && !(pk && und)))) := by
 intro W hqW
 unfold R1
 have hk : (Lay.mk k n f A len cap ps).k = k := rfl
 have hql : ((qs.map (Cel.isC wd)).length : Int) = (n2 : Int) := by rw [List.length_map, hq2.len]
 subst hu hnl
 have HSL : Hid (Sl 4 encL w A len cap ps) := by cases hl with | @mk _ _ _ _ _ _ _ hk hn hsl hnil hcap hall => exact hide hsl
 have hlb : (len : Int) ≤ 140737488351232 := by cases hl with | @mk _ _ _ _ _ _ _ hk hn hsl hnil hcap hall => omega
 have H := hide hl
 have HV := hide hv
 have HSQ := hide hq2
 have HIH := hide ih
 have HOK := hide ho
 have HQW := hide hqW
 obtain ⟨w2, hw2⟩ : ∃ w2, ((W.alloc (.cells #[.int .i64 k, .int .i64 n, .bool f, .slice A len cap] 24)).alloc (.cells #[.int .i64 wd, .bool b] 26)).alloc (.cells #[.int .i64 x, .bool false, .bool false, .slice A2 n2 c2] 31) = w2 := ⟨_, rfl⟩
 obtain ⟨hqq, hs2, hc, hd, hx⟩ := box3 hw2
 have hb0 : W.heap.size < w2.heap.size := by omega
 have hb1 : W.heap.size + 1 < w2.heap.size := by omega
 have hb2 : W.heap.size + 2 < w2.heap.size := by omega
 have KA := hide fun X (hX : Q w2 X) => (cs42 hX hb0 hc hb1 hd : Cs42 X W.heap.size (.int .i64 k) (.int .i64 n) (.bool f) (.slice A len cap) (W.heap.size + 1) (.int .i64 wd) (.bool b))
 have KX := hide fun X (hX : Q w2 X) => (cs4 hX hb2 hx : Cs4 X (W.heap.size + 2) (.int .i64 x) (.bool false) (.bool false) (.slice A2 n2 c2))
 have HW2 := hide hw2
 have HQ2 := hide hqq
 have HWQ := hide (hqW.trans hqq)
 have HLM := hide (limits_any k n f A len cap b (numK_of hv hw hk0))
 unfold R1 at HLM
 obtain ⟨lo, hlo⟩ : ∃ lo, (bnd wd k n f).1 = lo := ⟨_, rfl⟩
 obtain ⟨hi, hhi⟩ : ∃ hi, (bnd wd k n f).2 = hi := ⟨_, rfl⟩
 rw [hlo, hhi] at HLM
 obtain ⟨e1, he1⟩ : ∃ e, decide (lo ≤ x) = e := ⟨_, rfl⟩
 obtain ⟨e2, he2⟩ : ∃ e, decide (x ≤ hi) = e := ⟨_, rfl⟩
 obtain ⟨e3, he3⟩ : ∃ e, ((n2 : Int) == 0) = e := ⟨_, rfl⟩
 have RES : Hid ((cellC wd (.mk k n f A len cap ps) x false false (qs.map (Cel.isC wd)) (qs.map Cel.und) && !(pk && false)) = (e3 && (e1 && e2))) := hide (by
  rw [Bool.and_false, Bool.not_false, Bool.and_true, cellC_n rfl rfl (by rw [hk]; exact hk0), hql, he3]
  show (e3 && (decide ((bnd wd k n f).1 ≤ x) && decide (x ≤ (bnd wd k n f).2))) = _
  rw [hlo, hhi, he1, he2])
 clear hlo hhi
 clear hl hv hq2 ih ho hqW hw2 hd hc hx hqq hql hk
 rcases hk0 with rfl | rfl | rfl | rfl
 all_goals (
  obtain ⟨k0, k1, k2, k3, t0, t1⟩ := KA.out w2 (Q.refl _)
  obtain ⟨c0, c1, c2', c3⟩ := KX.out w2 (Q.refl _)
  go_enter Try.func84, Try.ntmps84
  go_upto_region 1 with fail
  rw [HW2.out]
  go_wp2_with fail
  refine (HLM.out w2).mono ?_
  rintro e w3 ⟨rfl, hq3⟩
  have HQ3 := hide (HQ2.out.trans hq3)
  have Q23 := hide hq3
  clear hq3 k0 k1 k2 k3 t0 t1 c0 c1 c2' c3
  obtain ⟨c0, c1, c2', c3⟩ := KX.out w3 Q23.out
  cases e1 with
  | false =>
   go_wp2_with fail
   go_ret
   exact ⟨by rw [RES.out] <;> cases e3 <;> rfl, HQ3.out⟩
  | true =>
   cases e2 with
   | false =>
    go_wp2_with fail
    go_ret
    exact ⟨by rw [RES.out] <;> cases e3 <;> rfl, HQ3.out⟩
   | true =>
    cases e3 with
    | false =>
     go_wp2_with fail
     go_ret
     exact ⟨by rw [RES.out] <;> rfl, HQ3.out⟩
    | true =>
     go_wp2_with fail
     go_ret
     exact ⟨by rw [RES.out] <;> rfl, HQ3.out⟩)
end Go.Proofs.Ytbgbalfhbficaaa
