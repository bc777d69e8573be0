/- isCell of the program. Conditions: as each theorem says. -/
import Derived.Test.YtbgbalfhbficaaaCz13
namespace Go.Proofs.Ytbgbalfhbficaaa
set_option maxRecDepth 100000
set_option maxHeartbeats 2000000
open Go.RowKit
set_option linter.unusedVariables false
set_option linter.unusedSimpArgs false
namespace Ri
theorem run_lenC {P : Program} {o : Oper} {A : Act} {w : World} {x : Operand} {t e : TypeId} {b : Option Addr} {n c : Nat} (ho : o.op = .call { callee := .builtin .len, args := #[x], argTypes := #[t] }) (hx : A.eval x = .slice b n c) (ht : P.underlying t = some (.slice e)) : (execOp A.eval o).run P w = .ok (.value (.int .i64 (n : Nat))) w := by
 unfold execOp
 simp only [ho, resolve, invoke, builtin, Sem.run_bind, Sem.run_pure, Result.andThen_ok, List.map_toArray, List.map_cons, List.map_nil, hx]
 simp [Builtin.len_, run_underlying ht]
 rfl
end Ri
theorem cellC_und {wd : Int} {l : Lay} {n : Int} {nul und : Bool} {fs : List (Lay → Bool)} {us : List Bool} (h : und = true) : cellC wd l n nul und fs us = ((n == 0) && (!nul && (((fs.length : Int) == 0) && l.hasB wd))) := by unfold cellC; rw [if_pos h]
theorem cellC_nul {wd : Int} {l : Lay} {n : Int} {nul und : Bool} {fs : List (Lay → Bool)} {us : List Bool} (h : und = false) (h2 : nul = true) : cellC wd l n nul und fs us = ((l.k == 4) && ((n == 0) && ((fs.length : Int) == 0))) := by unfold cellC; rw [if_neg (by rw [h]; decide), if_pos h2]
theorem cellC_0 {wd : Int} {l : Lay} {n : Int} {nul und : Bool} {fs : List (Lay → Bool)} {us : List Bool} (h : und = false) (h2 : nul = false) (hk : l.k = 0) : cellC wd l n nul und fs us = ((n == 0) && ((fs.length : Int) == 0)) := by unfold cellC; rw [if_neg (by rw [h]; decide), if_neg (by rw [h2]; decide), if_pos hk]
theorem cellC_4 {wd : Int} {l : Lay} {n : Int} {nul und : Bool} {fs : List (Lay → Bool)} {us : List Bool} (h : und = false) (h2 : nul = false) (hk : l.k = 4) : cellC wd l n nul und fs us = ((n == 0) && (((fs.length : Int) == 1) && (fs.headD fun _ => false) ((l.parts[0]?).getD noL))) := by unfold cellC; rw [if_neg (by rw [h]; decide), if_neg (by rw [h2]; decide), if_neg (by omega), if_pos hk]
theorem cellC_8 {wd : Int} {l : Lay} {n : Int} {nul und : Bool} {fs : List (Lay → Bool)} {us : List Bool} (h : und = false) (h2 : nul = false) (hk : l.k = 8) : cellC wd l n nul und fs us = (decide (0 ≤ n) && (decide (n < (l.parts.length : Int)) && (((fs.length : Int) == 1) && (fs.headD fun _ => false) ((l.parts[n.toNat]?).getD noL)))) := by unfold cellC; rw [if_neg (by rw [h]; decide), if_neg (by rw [h2]; decide), if_neg (by omega), if_neg (by omega), if_pos hk]
theorem cellC_p {wd : Int} {l : Lay} {n : Int} {nul und : Bool} {fs : List (Lay → Bool)} {us : List Bool} (h : und = false) (h2 : nul = false) (hk : l.k = 5 ∨ l.k = 6 ∨ l.k = 9) : cellC wd l n nul und fs us = ((n == 0) && areC l fs us) := by unfold cellC; rw [if_neg (by rw [h]; decide), if_neg (by rw [h2]; decide), if_neg (by omega), if_neg (by omega), if_neg (by omega), if_pos hk]
theorem cellC_n {wd : Int} {l : Lay} {n : Int} {nul und : Bool} {fs : List (Lay → Bool)} {us : List Bool} (h : und = false) (h2 : nul = false) (hk : l.k = 1 ∨ l.k = 2 ∨ l.k = 3 ∨ l.k = 7) : cellC wd l n nul und fs us = (((fs.length : Int) == 0) && (decide ((bnd wd l.k l.n l.f).1 ≤ n) && decide (n ≤ (bnd wd l.k l.n l.f).2))) := by unfold cellC; rw [if_neg (by rw [h]; decide), if_neg (by rw [h2]; decide), if_neg (by omega), if_neg (by omega), if_neg (by omega), if_neg (by omega)]
theorem isCell_und {w : World} {k n : Int} {f : Bool} {A : Option Addr} {len cap : Nat} {ps : List Lay} (hl : LayR w (.mk k n f A len cap ps)) (hv : VL (.mk k n f A len cap ps)) (hcnt : (Lay.mk k n f A len cap ps).count ≤ 1048576) (wd : Int) (hw : okW wd) (b : Bool) {x : Int} {nul und : Bool} {A2 : Option Addr} {n2 c2 : Nat} {qs : List Cel} (hq2 : Sl 4 encC w A2 n2 c2 qs) (hn2 : n2 ≤ 140737488351232) (ih : ∀ q ∈ qs, ∀ p ∈ ps, ∀ W, Q w W → Calls Try.prog 45 #[tgW wd b, p.v, q.v] W (R1 W (.bool (q.isC wd p)))) (hu : und = true) : ∀ W, Q w W → Calls Try.prog 45 #[tgW wd b, .agg #[.int .i64 k, .int .i64 n, .bool f, .slice A len cap], .agg #[.int .i64 x, .bool nul, .bool und, .slice A2 n2 c2]] W (R1 W (.bool (cellC wd (.mk k n f A len cap ps) x nul und (qs.map (Cel.isC wd)) (qs.map Cel.und)))) := by
 intro W hqW
 unfold R1
 have hk : (Lay.mk k n f A len cap ps).k = k := rfl
 have hql : ((qs.map (Cel.isC wd)).length : Int) = (n2 : Int) := by rw [List.length_map, hq2.len]
 subst hu
 have HSL : Hid (Sl 4 encL w A len cap ps) := by cases hl with | @mk _ _ _ _ _ _ _ hk hn hsl hnil hcap hall => exact hide hsl
 have hlb : (len : Int) ≤ 140737488351232 := by cases hl with | @mk _ _ _ _ _ _ _ hk hn hsl hnil hcap hall => omega
 have H := hide hl
 have HV := hide hv
 have HSQ := hide hq2
 have HIH := hide ih
 have HQW := hide hqW
 obtain ⟨w2, hw2⟩ : ∃ w2, ((W.alloc (.cells #[.int .i64 wd, .bool b] 60)).alloc (.cells #[.int .i64 k, .int .i64 n, .bool f, .slice A len cap] 24)).alloc (.cells #[.int .i64 x, .bool nul, .bool true, .slice A2 n2 c2] 31) = w2 := ⟨_, rfl⟩
 obtain ⟨hqq, hs2, hd, hc, hx⟩ := box3 hw2
 have hb0 : W.heap.size < w2.heap.size := by omega
 have hb1 : W.heap.size + 1 < w2.heap.size := by omega
 have hb2 : W.heap.size + 2 < w2.heap.size := by omega
 have KA := hide fun X (hX : Q w2 X) => (cs42 hX hb1 hc hb0 hd : Cs42 X (W.heap.size + 1) (.int .i64 k) (.int .i64 n) (.bool f) (.slice A len cap) W.heap.size (.int .i64 wd) (.bool b))
 have KX := hide fun X (hX : Q w2 X) => (cs4 hX hb2 hx : Cs4 X (W.heap.size + 2) (.int .i64 x) (.bool nul) (.bool true) (.slice A2 n2 c2))
 have HW2 := hide hw2
 have HQ2 := hide hqq
 have HWQ := hide (hqW.trans hqq)
 have HHB := hide (hasBytes_any hl wd b hcnt hv)
 rw [show (Lay.mk k n f A len cap ps).v = .agg #[.int .i64 k, .int .i64 n, .bool f, .slice A len cap] from rfl] at HHB
 unfold R1 at HHB
 obtain ⟨hb, hhb⟩ : ∃ hb, (Lay.mk k n f A len cap ps).hasB wd = hb := ⟨_, rfl⟩
 rw [hhb] at HHB
 obtain ⟨e1, he1⟩ : ∃ e, (x == 0) = e := ⟨_, rfl⟩
 obtain ⟨e3, he3⟩ : ∃ e, ((n2 : Int) == 0) = e := ⟨_, rfl⟩
 have RES : Hid (cellC wd (.mk k n f A len cap ps) x nul true (qs.map (Cel.isC wd)) (qs.map Cel.und) = (e1 && (!nul && (e3 && hb)))) := hide (by rw [cellC_und rfl, hql, he1, he3, hhb])
 clear hl hv hq2 ih hqW hw2 hd hc hx hqq hql hk hhb
 obtain ⟨k0, k1, k2, k3, t0, t1⟩ := KA.out w2 (Q.refl _)
 obtain ⟨c0, c1, c2', c3⟩ := KX.out w2 (Q.refl _)
 go_enter Try.func45, Try.ntmps45
 go_upto_region 1 with fail
 rw [HW2.out]
 cases e1 with
 | false =>
  go_wp2_with fail
  go_ret
  exact ⟨by rw [RES.out] <;> rfl, HQ2.out⟩
 | true =>
  cases nul with
  | true =>
   go_wp2_with fail
   go_ret
   exact ⟨by rw [RES.out] <;> rfl, HQ2.out⟩
  | false =>
   cases e3 with
   | false =>
    go_wp2_with fail
    go_ret
    exact ⟨by rw [RES.out] <;> rfl, HQ2.out⟩
   | true =>
    go_wp2_with fail
    refine (HHB.out w2 HWQ.out).mono ?_
    rintro e w3 ⟨rfl, hq3⟩
    have HQ3 := hide (HQ2.out.trans hq3)
    clear hq3 k0 k1 k2 k3 t0 t1 c0 c1 c2' c3
    go_wp2_with fail
    go_ret
    exact ⟨by rw [RES.out] <;> rfl, HQ3.out⟩
theorem isCell_nul {w : World} {k n : Int} {f : Bool} {A : Option Addr} {len cap : Nat} {ps : List Lay} (hl : LayR w (.mk k n f A len cap ps)) (hv : VL (.mk k n f A len cap ps)) (hcnt : (Lay.mk k n f A len cap ps).count ≤ 1048576) (wd : Int) (hw : okW wd) (b : Bool) {x : Int} {nul und : Bool} {A2 : Option Addr} {n2 c2 : Nat} {qs : List Cel} (hq2 : Sl 4 encC w A2 n2 c2 qs) (hn2 : n2 ≤ 140737488351232) (ih : ∀ q ∈ qs, ∀ p ∈ ps, ∀ W, Q w W → Calls Try.prog 45 #[tgW wd b, p.v, q.v] W (R1 W (.bool (q.isC wd p)))) (hu : und = false) (hnl : nul = true) : ∀ W, Q w W → Calls Try.prog 45 #[tgW wd b, .agg #[.int .i64 k, .int .i64 n, .bool f, .slice A len cap], .agg #[.int .i64 x, .bool nul, .bool und, .slice A2 n2 c2]] W (R1 W (.bool (cellC wd (.mk k n f A len cap ps) x nul und (qs.map (Cel.isC wd)) (qs.map Cel.und)))) := by
 intro W hqW
 unfold R1
 have hk : (Lay.mk k n f A len cap ps).k = k := rfl
 have hql : ((qs.map (Cel.isC wd)).length : Int) = (n2 : Int) := by rw [List.length_map, hq2.len]
 subst hu hnl
 have HSL : Hid (Sl 4 encL w A len cap ps) := by cases hl with | @mk _ _ _ _ _ _ _ hk hn hsl hnil hcap hall => exact hide hsl
 have hlb : (len : Int) ≤ 140737488351232 := by cases hl with | @mk _ _ _ _ _ _ _ hk hn hsl hnil hcap hall => omega
 have H := hide hl
 have HV := hide hv
 have HSQ := hide hq2
 have HIH := hide ih
 have HQW := hide hqW
 obtain ⟨w2, hw2⟩ : ∃ w2, ((W.alloc (.cells #[.int .i64 wd, .bool b] 60)).alloc (.cells #[.int .i64 k, .int .i64 n, .bool f, .slice A len cap] 24)).alloc (.cells #[.int .i64 x, .bool true, .bool false, .slice A2 n2 c2] 31) = w2 := ⟨_, rfl⟩
 obtain ⟨hqq, hs2, hd, hc, hx⟩ := box3 hw2
 have hb0 : W.heap.size < w2.heap.size := by omega
 have hb1 : W.heap.size + 1 < w2.heap.size := by omega
 have hb2 : W.heap.size + 2 < w2.heap.size := by omega
 have KA := hide fun X (hX : Q w2 X) => (cs42 hX hb1 hc hb0 hd : Cs42 X (W.heap.size + 1) (.int .i64 k) (.int .i64 n) (.bool f) (.slice A len cap) W.heap.size (.int .i64 wd) (.bool b))
 have KX := hide fun X (hX : Q w2 X) => (cs4 hX hb2 hx : Cs4 X (W.heap.size + 2) (.int .i64 x) (.bool true) (.bool false) (.slice A2 n2 c2))
 have HW2 := hide hw2
 have HQ2 := hide hqq
 have HWQ := hide (hqW.trans hqq)
 obtain ⟨e0, he0⟩ : ∃ e, (k == 4) = e := ⟨_, rfl⟩
 obtain ⟨e1, he1⟩ : ∃ e, (x == 0) = e := ⟨_, rfl⟩
 obtain ⟨e3, he3⟩ : ∃ e, ((n2 : Int) == 0) = e := ⟨_, rfl⟩
 have RES : Hid (cellC wd (.mk k n f A len cap ps) x true false (qs.map (Cel.isC wd)) (qs.map Cel.und) = (e0 && (e1 && e3))) := hide (by rw [cellC_nul rfl rfl, hql, he1, he3, hk, he0])
 clear hl hv hq2 ih hqW hw2 hd hc hx hqq hql hk
 obtain ⟨k0, k1, k2, k3, t0, t1⟩ := KA.out w2 (Q.refl _)
 obtain ⟨c0, c1, c2', c3⟩ := KX.out w2 (Q.refl _)
 go_enter Try.func45, Try.ntmps45
 go_upto_region 1 with fail
 rw [HW2.out]
 cases e0 with
 | false =>
  go_wp2_with fail
  go_ret
  exact ⟨by rw [RES.out] <;> rfl, HQ2.out⟩
 | true =>
  cases e1 with
  | false =>
   go_wp2_with fail
   go_ret
   exact ⟨by rw [RES.out] <;> rfl, HQ2.out⟩
  | true =>
   go_wp2_with fail
   go_ret
   exact ⟨by rw [RES.out] <;> rfl, HQ2.out⟩
theorem isCell_0 {w : World} {k n : Int} {f : Bool} {A : Option Addr} {len cap : Nat} {ps : List Lay} (hl : LayR w (.mk k n f A len cap ps)) (hv : VL (.mk k n f A len cap ps)) (hcnt : (Lay.mk k n f A len cap ps).count ≤ 1048576) (wd : Int) (hw : okW wd) (b : Bool) {x : Int} {nul und : Bool} {A2 : Option Addr} {n2 c2 : Nat} {qs : List Cel} (hq2 : Sl 4 encC w A2 n2 c2 qs) (hn2 : n2 ≤ 140737488351232) (ih : ∀ q ∈ qs, ∀ p ∈ ps, ∀ W, Q w W → Calls Try.prog 45 #[tgW wd b, p.v, q.v] W (R1 W (.bool (q.isC wd p)))) (hu : und = false) (hnl : nul = false) (hk0 : k = 0) : ∀ W, Q w W → Calls Try.prog 45 #[tgW wd b, .agg #[.int .i64 k, .int .i64 n, .bool f, .slice A len cap], .agg #[.int .i64 x, .bool nul, .bool und, .slice A2 n2 c2]] W (R1 W (.bool (cellC wd (.mk k n f A len cap ps) x nul und (qs.map (Cel.isC wd)) (qs.map Cel.und)))) := by
 intro W hqW
 unfold R1
 have hk : (Lay.mk k n f A len cap ps).k = k := rfl
 have hql : ((qs.map (Cel.isC wd)).length : Int) = (n2 : Int) := by rw [List.length_map, hq2.len]
 subst hu hnl hk0
 have HSL : Hid (Sl 4 encL w A len cap ps) := by cases hl with | @mk _ _ _ _ _ _ _ hk hn hsl hnil hcap hall => exact hide hsl
 have hlb : (len : Int) ≤ 140737488351232 := by cases hl with | @mk _ _ _ _ _ _ _ hk hn hsl hnil hcap hall => omega
 have H := hide hl
 have HV := hide hv
 have HSQ := hide hq2
 have HIH := hide ih
 have HQW := hide hqW
 obtain ⟨w2, hw2⟩ : ∃ w2, ((W.alloc (.cells #[.int .i64 wd, .bool b] 60)).alloc (.cells #[.int .i64 0, .int .i64 n, .bool f, .slice A len cap] 24)).alloc (.cells #[.int .i64 x, .bool false, .bool false, .slice A2 n2 c2] 31) = w2 := ⟨_, rfl⟩
 obtain ⟨hqq, hs2, hd, hc, hx⟩ := box3 hw2
 have hb0 : W.heap.size < w2.heap.size := by omega
 have hb1 : W.heap.size + 1 < w2.heap.size := by omega
 have hb2 : W.heap.size + 2 < w2.heap.size := by omega
 have KA := hide fun X (hX : Q w2 X) => (cs42 hX hb1 hc hb0 hd : Cs42 X (W.heap.size + 1) (.int .i64 0) (.int .i64 n) (.bool f) (.slice A len cap) W.heap.size (.int .i64 wd) (.bool b))
 have KX := hide fun X (hX : Q w2 X) => (cs4 hX hb2 hx : Cs4 X (W.heap.size + 2) (.int .i64 x) (.bool false) (.bool false) (.slice A2 n2 c2))
 have HW2 := hide hw2
 have HQ2 := hide hqq
 have HWQ := hide (hqW.trans hqq)
 obtain ⟨e1, he1⟩ : ∃ e, (x == 0) = e := ⟨_, rfl⟩
 obtain ⟨e3, he3⟩ : ∃ e, ((n2 : Int) == 0) = e := ⟨_, rfl⟩
 have RES : Hid (cellC wd (.mk 0 n f A len cap ps) x false false (qs.map (Cel.isC wd)) (qs.map Cel.und) = (e1 && e3)) := hide (by rw [cellC_0 rfl rfl rfl, hql, he1, he3])
 clear hl hv hq2 ih hqW hw2 hd hc hx hqq hql hk
 obtain ⟨k0, k1, k2, k3, t0, t1⟩ := KA.out w2 (Q.refl _)
 obtain ⟨c0, c1, c2', c3⟩ := KX.out w2 (Q.refl _)
 go_enter Try.func45, Try.ntmps45
 go_upto_region 1 with fail
 rw [HW2.out]
 cases e1 with
 | false =>
  go_wp2_with fail
  go_ret
  exact ⟨by rw [RES.out] <;> rfl, HQ2.out⟩
 | true =>
  go_wp2_with fail
  go_ret
  exact ⟨by rw [RES.out] <;> rfl, HQ2.out⟩
theorem isCell_p5 {w : World} {k n : Int} {f : Bool} {A : Option Addr} {len cap : Nat} {ps : List Lay} (hl : LayR w (.mk k n f A len cap ps)) (hv : VL (.mk k n f A len cap ps)) (hcnt : (Lay.mk k n f A len cap ps).count ≤ 1048576) (wd : Int) (hw : okW wd) (b : Bool) {x : Int} {nul und : Bool} {A2 : Option Addr} {n2 c2 : Nat} {qs : List Cel} (hq2 : Sl 4 encC w A2 n2 c2 qs) (hn2 : n2 ≤ 140737488351232) (ih : ∀ q ∈ qs, ∀ p ∈ ps, ∀ W, Q w W → Calls Try.prog 45 #[tgW wd b, p.v, q.v] W (R1 W (.bool (q.isC wd p)))) (hu : und = false) (hnl : nul = false) (hk0 : k = 5) : ∀ W, Q w W → Calls Try.prog 45 #[tgW wd b, .agg #[.int .i64 k, .int .i64 n, .bool f, .slice A len cap], .agg #[.int .i64 x, .bool nul, .bool und, .slice A2 n2 c2]] W (R1 W (.bool (cellC wd (.mk k n f A len cap ps) x nul und (qs.map (Cel.isC wd)) (qs.map Cel.und)))) := by
 intro W hqW
 unfold R1
 have hk : (Lay.mk k n f A len cap ps).k = k := rfl
 have hql : ((qs.map (Cel.isC wd)).length : Int) = (n2 : Int) := by rw [List.length_map, hq2.len]
 subst hu hnl hk0
 have HSL : Hid (Sl 4 encL w A len cap ps) := by cases hl with | @mk _ _ _ _ _ _ _ hk hn hsl hnil hcap hall => exact hide hsl
 have hlb : (len : Int) ≤ 140737488351232 := by cases hl with | @mk _ _ _ _ _ _ _ hk hn hsl hnil hcap hall => omega
 have H := hide hl
 have HV := hide hv
 have HSQ := hide hq2
 have HIH := hide ih
 have HQW := hide hqW
 obtain ⟨w2, hw2⟩ : ∃ w2, ((W.alloc (.cells #[.int .i64 wd, .bool b] 60)).alloc (.cells #[.int .i64 5, .int .i64 n, .bool f, .slice A len cap] 24)).alloc (.cells #[.int .i64 x, .bool false, .bool false, .slice A2 n2 c2] 31) = w2 := ⟨_, rfl⟩
 obtain ⟨hqq, hs2, hd, hc, hx⟩ := box3 hw2
 have hb0 : W.heap.size < w2.heap.size := by omega
 have hb1 : W.heap.size + 1 < w2.heap.size := by omega
 have hb2 : W.heap.size + 2 < w2.heap.size := by omega
 have KA := hide fun X (hX : Q w2 X) => (cs42 hX hb1 hc hb0 hd : Cs42 X (W.heap.size + 1) (.int .i64 5) (.int .i64 n) (.bool f) (.slice A len cap) W.heap.size (.int .i64 wd) (.bool b))
 have KX := hide fun X (hX : Q w2 X) => (cs4 hX hb2 hx : Cs4 X (W.heap.size + 2) (.int .i64 x) (.bool false) (.bool false) (.slice A2 n2 c2))
 have HW2 := hide hw2
 have HQ2 := hide hqq
 have HWQ := hide (hqW.trans hqq)
 have hlen1 : (5 : Int) = 5 → len = 1 := fun h5 => by
  have h8 := hv.kind.2.2.1
  unfold numL at h8
  rw [if_pos (.inr rfl), decide_eq_true_eq] at h8
  exact HSL.out.len.symm.trans h8
 have HAC := hide (areCells_any hl hlen1 wd b hq2 hn2 ih)
 unfold R1 at HAC
 obtain ⟨r, hr⟩ : ∃ r, areC (.mk 5 n f A len cap ps) (qs.map (Cel.isC wd)) (qs.map Cel.und) = r := ⟨_, rfl⟩
 rw [hr] at HAC
 obtain ⟨e1, he1⟩ : ∃ e, (x == 0) = e := ⟨_, rfl⟩
 have RES : Hid (cellC wd (.mk 5 n f A len cap ps) x false false (qs.map (Cel.isC wd)) (qs.map Cel.und) = (e1 && r)) := hide (by rw [cellC_p rfl rfl (by rw [hk]; decide), he1, hr])
 clear hlen1 hr
 clear hl hv hq2 ih hqW hw2 hd hc hx hqq hql hk
 obtain ⟨k0, k1, k2, k3, t0, t1⟩ := KA.out w2 (Q.refl _)
 obtain ⟨c0, c1, c2', c3⟩ := KX.out w2 (Q.refl _)
 go_enter Try.func45, Try.ntmps45
 go_upto_region 1 with fail
 rw [HW2.out]
 cases e1 with
 | false =>
  go_wp2_with fail
  go_ret
  exact ⟨by rw [RES.out] <;> rfl, HQ2.out⟩
 | true =>
  go_wp2_with fail
  refine (HAC.out w2 HWQ.out).mono ?_
  rintro e w3 ⟨rfl, hq3⟩
  have HQ3 := hide (HQ2.out.trans hq3)
  clear hq3 k0 k1 k2 k3 t0 t1 c0 c1 c2' c3
  go_wp2_with fail
  go_ret
  exact ⟨by rw [RES.out] <;> rfl, HQ3.out⟩
theorem isCell_p6 {w : World} {k n : Int} {f : Bool} {A : Option Addr} {len cap : Nat} {ps : List Lay} (hl : LayR w (.mk k n f A len cap ps)) (hv : VL (.mk k n f A len cap ps)) (hcnt : (Lay.mk k n f A len cap ps).count ≤ 1048576) (wd : Int) (hw : okW wd) (b : Bool) {x : Int} {nul und : Bool} {A2 : Option Addr} {n2 c2 : Nat} {qs : List Cel} (hq2 : Sl 4 encC w A2 n2 c2 qs) (hn2 : n2 ≤ 140737488351232) (ih : ∀ q ∈ qs, ∀ p ∈ ps, ∀ W, Q w W → Calls Try.prog 45 #[tgW wd b, p.v, q.v] W (R1 W (.bool (q.isC wd p)))) (hu : und = false) (hnl : nul = false) (hk0 : k = 6) : ∀ W, Q w W → Calls Try.prog 45 #[tgW wd b, .agg #[.int .i64 k, .int .i64 n, .bool f, .slice A len cap], .agg #[.int .i64 x, .bool nul, .bool und, .slice A2 n2 c2]] W (R1 W (.bool (cellC wd (.mk k n f A len cap ps) x nul und (qs.map (Cel.isC wd)) (qs.map Cel.und)))) := by
 intro W hqW
 unfold R1
 have hk : (Lay.mk k n f A len cap ps).k = k := rfl
 have hql : ((qs.map (Cel.isC wd)).length : Int) = (n2 : Int) := by rw [List.length_map, hq2.len]
 subst hu hnl hk0
 have HSL : Hid (Sl 4 encL w A len cap ps) := by cases hl with | @mk _ _ _ _ _ _ _ hk hn hsl hnil hcap hall => exact hide hsl
 have hlb : (len : Int) ≤ 140737488351232 := by cases hl with | @mk _ _ _ _ _ _ _ hk hn hsl hnil hcap hall => omega
 have H := hide hl
 have HV := hide hv
 have HSQ := hide hq2
 have HIH := hide ih
 have HQW := hide hqW
 obtain ⟨w2, hw2⟩ : ∃ w2, ((W.alloc (.cells #[.int .i64 wd, .bool b] 60)).alloc (.cells #[.int .i64 6, .int .i64 n, .bool f, .slice A len cap] 24)).alloc (.cells #[.int .i64 x, .bool false, .bool false, .slice A2 n2 c2] 31) = w2 := ⟨_, rfl⟩
 obtain ⟨hqq, hs2, hd, hc, hx⟩ := box3 hw2
 have hb0 : W.heap.size < w2.heap.size := by omega
 have hb1 : W.heap.size + 1 < w2.heap.size := by omega
 have hb2 : W.heap.size + 2 < w2.heap.size := by omega
 have KA := hide fun X (hX : Q w2 X) => (cs42 hX hb1 hc hb0 hd : Cs42 X (W.heap.size + 1) (.int .i64 6) (.int .i64 n) (.bool f) (.slice A len cap) W.heap.size (.int .i64 wd) (.bool b))
 have KX := hide fun X (hX : Q w2 X) => (cs4 hX hb2 hx : Cs4 X (W.heap.size + 2) (.int .i64 x) (.bool false) (.bool false) (.slice A2 n2 c2))
 have HW2 := hide hw2
 have HQ2 := hide hqq
 have HWQ := hide (hqW.trans hqq)
 have hlen1 : (6 : Int) = 5 → len = 1 := fun h5 => by
  have h8 := hv.kind.2.2.1
  unfold numL at h8
  exact absurd h5 (by decide)
 have HAC := hide (areCells_any hl hlen1 wd b hq2 hn2 ih)
 unfold R1 at HAC
 obtain ⟨r, hr⟩ : ∃ r, areC (.mk 6 n f A len cap ps) (qs.map (Cel.isC wd)) (qs.map Cel.und) = r := ⟨_, rfl⟩
 rw [hr] at HAC
 obtain ⟨e1, he1⟩ : ∃ e, (x == 0) = e := ⟨_, rfl⟩
 have RES : Hid (cellC wd (.mk 6 n f A len cap ps) x false false (qs.map (Cel.isC wd)) (qs.map Cel.und) = (e1 && r)) := hide (by rw [cellC_p rfl rfl (by rw [hk]; decide), he1, hr])
 clear hlen1 hr
 clear hl hv hq2 ih hqW hw2 hd hc hx hqq hql hk
 obtain ⟨k0, k1, k2, k3, t0, t1⟩ := KA.out w2 (Q.refl _)
 obtain ⟨c0, c1, c2', c3⟩ := KX.out w2 (Q.refl _)
 go_enter Try.func45, Try.ntmps45
 go_upto_region 1 with fail
 rw [HW2.out]
 cases e1 with
 | false =>
  go_wp2_with fail
  go_ret
  exact ⟨by rw [RES.out] <;> rfl, HQ2.out⟩
 | true =>
  go_wp2_with fail
  refine (HAC.out w2 HWQ.out).mono ?_
  rintro e w3 ⟨rfl, hq3⟩
  have HQ3 := hide (HQ2.out.trans hq3)
  clear hq3 k0 k1 k2 k3 t0 t1 c0 c1 c2' c3
  go_wp2_with fail
  go_ret
  exact ⟨by rw [RES.out] <;> rfl, HQ3.out⟩
theorem isCell_p9 {w : World} {k n : Int} {f : Bool} {A : Option Addr} {len cap : Nat} {ps : List Lay} (hl : LayR w (.mk k n f A len cap ps)) (hv : VL (.mk k n f A len cap ps)) (hcnt : (Lay.mk k n f A len cap ps).count ≤ 1048576) (wd : Int) (hw : okW wd) (b : Bool) {x : Int} {nul und : Bool} {A2 : Option Addr} {n2 c2 : Nat} {qs : List Cel} (hq2 : Sl 4 encC w A2 n2 c2 qs) (hn2 : n2 ≤ 140737488351232) (ih : ∀ q ∈ qs, ∀ p ∈ ps, ∀ W, Q w W → Calls Try.prog 45 #[tgW wd b, p.v, q.v] W (R1 W (.bool (q.isC wd p)))) (hu : und = false) (hnl : nul = false) (hk0 : k = 9) : ∀ W, Q w W → Calls Try.prog 45 #[tgW wd b, .agg #[.int .i64 k, .int .i64 n, .bool f, .slice A len cap], .agg #[.int .i64 x, .bool nul, .bool und, .slice A2 n2 c2]] W (R1 W (.bool (cellC wd (.mk k n f A len cap ps) x nul und (qs.map (Cel.isC wd)) (qs.map Cel.und)))) := by
 intro W hqW
 unfold R1
 have hk : (Lay.mk k n f A len cap ps).k = k := rfl
 have hql : ((qs.map (Cel.isC wd)).length : Int) = (n2 : Int) := by rw [List.length_map, hq2.len]
 subst hu hnl hk0
 have HSL : Hid (Sl 4 encL w A len cap ps) := by cases hl with | @mk _ _ _ _ _ _ _ hk hn hsl hnil hcap hall => exact hide hsl
 have hlb : (len : Int) ≤ 140737488351232 := by cases hl with | @mk _ _ _ _ _ _ _ hk hn hsl hnil hcap hall => omega
 have H := hide hl
 have HV := hide hv
 have HSQ := hide hq2
 have HIH := hide ih
 have HQW := hide hqW
 obtain ⟨w2, hw2⟩ : ∃ w2, ((W.alloc (.cells #[.int .i64 wd, .bool b] 60)).alloc (.cells #[.int .i64 9, .int .i64 n, .bool f, .slice A len cap] 24)).alloc (.cells #[.int .i64 x, .bool false, .bool false, .slice A2 n2 c2] 31) = w2 := ⟨_, rfl⟩
 obtain ⟨hqq, hs2, hd, hc, hx⟩ := box3 hw2
 have hb0 : W.heap.size < w2.heap.size := by omega
 have hb1 : W.heap.size + 1 < w2.heap.size := by omega
 have hb2 : W.heap.size + 2 < w2.heap.size := by omega
 have KA := hide fun X (hX : Q w2 X) => (cs42 hX hb1 hc hb0 hd : Cs42 X (W.heap.size + 1) (.int .i64 9) (.int .i64 n) (.bool f) (.slice A len cap) W.heap.size (.int .i64 wd) (.bool b))
 have KX := hide fun X (hX : Q w2 X) => (cs4 hX hb2 hx : Cs4 X (W.heap.size + 2) (.int .i64 x) (.bool false) (.bool false) (.slice A2 n2 c2))
 have HW2 := hide hw2
 have HQ2 := hide hqq
 have HWQ := hide (hqW.trans hqq)
 have hlen1 : (9 : Int) = 5 → len = 1 := fun h5 => by
  have h8 := hv.kind.2.2.1
  unfold numL at h8
  exact absurd h5 (by decide)
 have HAC := hide (areCells_any hl hlen1 wd b hq2 hn2 ih)
 unfold R1 at HAC
 obtain ⟨r, hr⟩ : ∃ r, areC (.mk 9 n f A len cap ps) (qs.map (Cel.isC wd)) (qs.map Cel.und) = r := ⟨_, rfl⟩
 rw [hr] at HAC
 obtain ⟨e1, he1⟩ : ∃ e, (x == 0) = e := ⟨_, rfl⟩
 have RES : Hid (cellC wd (.mk 9 n f A len cap ps) x false false (qs.map (Cel.isC wd)) (qs.map Cel.und) = (e1 && r)) := hide (by rw [cellC_p rfl rfl (by rw [hk]; decide), he1, hr])
 clear hlen1 hr
 clear hl hv hq2 ih hqW hw2 hd hc hx hqq hql hk
 obtain ⟨k0, k1, k2, k3, t0, t1⟩ := KA.out w2 (Q.refl _)
 obtain ⟨c0, c1, c2', c3⟩ := KX.out w2 (Q.refl _)
 go_enter Try.func45, Try.ntmps45
 go_upto_region 1 with fail
 rw [HW2.out]
 cases e1 with
 | false =>
  go_wp2_with fail
  go_ret
  exact ⟨by rw [RES.out] <;> rfl, HQ2.out⟩
 | true =>
  go_wp2_with fail
  refine (HAC.out w2 HWQ.out).mono ?_
  rintro e w3 ⟨rfl, hq3⟩
  have HQ3 := hide (HQ2.out.trans hq3)
  clear hq3 k0 k1 k2 k3 t0 t1 c0 c1 c2' c3
  go_wp2_with fail
  go_ret
  exact ⟨by rw [RES.out] <;> rfl, HQ3.out⟩
theorem isCell_n {w : World} {k n : Int} {f : Bool} {A : Option Addr} {len cap : Nat} {ps : List Lay} (hl : LayR w (.mk k n f A len cap ps)) (hv : VL (.mk k n f A len cap ps)) (hcnt : (Lay.mk k n f A len cap ps).count ≤ 1048576) (wd : Int) (hw : okW wd) (b : Bool) {x : Int} {nul und : Bool} {A2 : Option Addr} {n2 c2 : Nat} {qs : List Cel} (hq2 : Sl 4 encC w A2 n2 c2 qs) (hn2 : n2 ≤ 140737488351232) (ih : ∀ q ∈ qs, ∀ p ∈ ps, ∀ W, Q w W → Calls Try.prog 45 #[tgW wd b, p.v, q.v] W (R1 W (.bool (q.isC wd p)))) (hu : und = false) (hnl : nul = false) (hk0 : k = 1 ∨ k = 2 ∨ k = 3 ∨ k = 7) : ∀ W, Q w W → Calls Try.prog 45 #[tgW wd b, .agg #[.int .i64 k, .int .i64 n, .bool f, .slice A len cap], .agg #[.int .i64 x, .bool nul, .bool und, .slice A2 n2 c2]] W (R1 W (.bool (cellC wd (.mk k n f A len cap ps) x nul und (qs.map (Cel.isC wd)) (qs.map Cel.und)))) := by
 intro W hqW
 unfold R1
 have hk : (Lay.mk k n f A len cap ps).k = k := rfl
 have hql : ((qs.map (Cel.isC wd)).length : Int) = (n2 : Int) := by rw [List.length_map, hq2.len]
 subst hu hnl
 have HSL : Hid (Sl 4 encL w A len cap ps) := by cases hl with | @mk _ _ _ _ _ _ _ hk hn hsl hnil hcap hall => exact hide hsl
 have hlb : (len : Int) ≤ 140737488351232 := by cases hl with | @mk _ _ _ _ _ _ _ hk hn hsl hnil hcap hall => omega
 have H := hide hl
 have HV := hide hv
 have HSQ := hide hq2
 have HIH := hide ih
 have HQW := hide hqW
 obtain ⟨w2, hw2⟩ : ∃ w2, ((W.alloc (.cells #[.int .i64 wd, .bool b] 60)).alloc (.cells #[.int .i64 k, .int .i64 n, .bool f, .slice A len cap] 24)).alloc (.cells #[.int .i64 x, .bool false, .bool false, .slice A2 n2 c2] 31) = w2 := ⟨_, rfl⟩
 obtain ⟨hqq, hs2, hd, hc, hx⟩ := box3 hw2
 have hb0 : W.heap.size < w2.heap.size := by omega
 have hb1 : W.heap.size + 1 < w2.heap.size := by omega
 have hb2 : W.heap.size + 2 < w2.heap.size := by omega
 have KA := hide fun X (hX : Q w2 X) => (cs42 hX hb1 hc hb0 hd : Cs42 X (W.heap.size + 1) (.int .i64 k) (.int .i64 n) (.bool f) (.slice A len cap) W.heap.size (.int .i64 wd) (.bool b))
 have KX := hide fun X (hX : Q w2 X) => (cs4 hX hb2 hx : Cs4 X (W.heap.size + 2) (.int .i64 x) (.bool false) (.bool false) (.slice A2 n2 c2))
 have HW2 := hide hw2
 have HQ2 := hide hqq
 have HWQ := hide (hqW.trans hqq)
 have HNB := hide (isNumber_any k n f A len cap b (numK_of hv hw hk0) x)
 unfold R1 at HNB
 obtain ⟨r, hr⟩ : ∃ r, (decide ((bnd wd k n f).1 ≤ x) && decide (x ≤ (bnd wd k n f).2)) = r := ⟨_, rfl⟩
 rw [hr] at HNB
 obtain ⟨e3, he3⟩ : ∃ e, ((n2 : Int) == 0) = e := ⟨_, rfl⟩
 have RES : Hid (cellC wd (.mk k n f A len cap ps) x false false (qs.map (Cel.isC wd)) (qs.map Cel.und) = (e3 && r)) := hide (by
  rw [cellC_n rfl rfl (by rw [hk]; exact hk0), hql, he3]
  show (e3 && (decide ((bnd wd k n f).1 ≤ x) && decide (x ≤ (bnd wd k n f).2))) = _
  rw [hr])
 have d0 : (k == 0) = false := by simp; omega
 have d4 : (k == 4) = false := by simp; omega
 have d8 : (k == 8) = false := by simp; omega
 have d5 : (k == 5) = false := by simp; omega
 have d6 : (k == 6) = false := by simp; omega
 have d9 : (k == 9) = false := by simp; omega
 clear hr hk0
 clear hl hv hq2 ih hqW hw2 hd hc hx hqq hql hk
 obtain ⟨k0, k1, k2, k3, t0, t1⟩ := KA.out w2 (Q.refl _)
 obtain ⟨c0, c1, c2', c3⟩ := KX.out w2 (Q.refl _)
 go_enter Try.func45, Try.ntmps45
 go_upto_region 1 with fail
 rw [HW2.out]
 cases e3 with
 | false =>
  go_wp2_with fail
  go_ret
  exact ⟨by rw [RES.out] <;> rfl, HQ2.out⟩
 | true =>
  go_wp2_with fail
  refine (HNB.out w2).mono ?_
  rintro e w3 ⟨rfl, hq3⟩
  have HQ3 := hide (HQ2.out.trans hq3)
  clear hq3 k0 k1 k2 k3 t0 t1 c0 c1 c2' c3
  go_wp2_with fail
  go_ret
  exact ⟨by rw [RES.out] <;> rfl, HQ3.out⟩
end Go.Proofs.Ytbgbalfhbficaaa
