/- hasOwn of the reference, hasBytes of the program. The bounds of a number, of both. limits of the reference, isNumber and count of the program. Which cells are of a layout: plain; areCells of the program. Conditions: as each theorem says. -/
import Derived.Test.YtbgbalfhbficaaaCz12
import Derived.Test.YtbgbalfhbficaaaCz11
namespace Go.Proofs.Ytbgbalfhbficaaa
set_option maxRecDepth 100000
set_option maxHeartbeats 2000000
open Go.RowKit
set_option linter.unusedVariables false
set_option linter.unusedSimpArgs false
namespace Ri
theorem run_gtr {P : Program} {o : Oper} {A : Act} {w : World} {x y : Operand} {t t' : TypeId} {p u : Int} (ho : o.op = .binOp .gtr t x y t') (hx : A.eval x = .int .i64 p) (hy : A.eval y = .int .i64 u) (hu : P.underlying t = some (.int .i64)) : (execOp A.eval o).run P w = .ok (.value (.bool (decide (u < p)))) w := by
 unfold execOp
 simp only [ho, hx, hy]
 simp [go_sem]
theorem run_geqJ {P : Program} {o : Oper} {A : Act} {w : World} {x y : Operand} {t t' : TypeId} {p u : Int} (ho : o.op = .binOp .geq t x y t') (hx : A.eval x = .int .i64 p) (hy : A.eval y = .int .i64 u) (hu : P.underlying t = some (.int .i64)) : (execOp A.eval o).run P w = .ok (.value (.bool (decide (u ≤ p)))) w := by
 unfold execOp
 simp only [ho, hx, hy]
 simp [go_sem]
theorem run_lssC {P : Program} {o : Oper} {A : Act} {w : World} {x y : Operand} {t t' : TypeId} {p u : Int} (ho : o.op = .binOp .lss t x y t') (hx : A.eval x = .int .i64 p) (hy : A.eval y = .int .i64 u) (hu : P.underlying t = some (.int .i64)) : (execOp A.eval o).run P w = .ok (.value (.bool (decide (p < u)))) w := by
 unfold execOp
 simp only [ho, hx, hy]
 simp [go_sem]
theorem run_eqlC {P : Program} {o : Oper} {A : Act} {w : World} {x y : Operand} {t t' : TypeId} {p u : Int} (ho : o.op = .binOp .eql t x y t') (hx : A.eval x = .int .i64 p) (hy : A.eval y = .int .i64 u) (hu : P.underlying t = some (.int .i64)) : (execOp A.eval o).run P w = .ok (.value (.bool (p == u))) w := by
 unfold execOp
 simp only [ho, hx, hy]
 simp [go_sem]
end Ri
theorem any_takeB {o : List Bool} {q : Nat} (h : q < o.length) : (o.take (q + 1)).any id = ((o.take q).any id || o.getD q false) := by
 rw [List.take_add_one, List.any_append, List.getD_eq_getElem?_getD, List.getElem?_eq_getElem h]
 simp
theorem hasOwn_any {w : World} {l : Lay} (h : LayR w l) (hc : l.count ≤ 1048576) (wd : Int) (b : Bool) (ho : Okw wd l) : ∀ W, Q w W → Calls Try.prog 112 #[l.v, tgW wd b] W (R1 W (.bool (l.hasB wd))) := by
 intro W hqW
 unfold R1
 obtain ⟨k, n, f, A, len, cap, hlv⟩ : ∃ k n f A len cap, l.v = .agg #[.int .i64 k, .int .i64 n, .bool f, .slice A len cap] := by cases l; exact ⟨_, _, _, _, _, _, rfl⟩
 have HLV := hide hlv
 rw [hlv]
 clear hlv
 obtain ⟨w2, hw2⟩ : ∃ w2, (W.alloc (.cells #[.int .i64 k, .int .i64 n, .bool f, .slice A len cap] 24)).alloc (.cells #[.int .i64 wd, .bool b] 26) = w2 := ⟨_, rfl⟩
 obtain ⟨hq2, hs2, hc2, hd2⟩ := box2 hw2
 have hb0 : W.heap.size < w2.heap.size := by omega
 have hb1 : W.heap.size + 1 < w2.heap.size := by omega
 have KA := hide fun X (hX : Q w2 X) => (cs42 hX hb0 hc2 hb1 hd2 : Cs42 X W.heap.size (.int .i64 k) (.int .i64 n) (.bool f) (.slice A len cap) (W.heap.size + 1) (.int .i64 wd) (.bool b))
 have HW2 := hide hw2
 have HWQ := hide (hqW.trans hq2)
 have HQ2 := hide hq2
 have H := hide h
 clear h hw2 hq2 hqW hc2 hd2
 have HOW := hide (rown_any H.out wd b hc ho)
 rw [HLV.out] at HOW
 unfold OwnP at HOW
 have HAN := hide (own_any H.out ho)
 obtain ⟨o, ho9⟩ : ∃ o, l.own wd = o := ⟨_, rfl⟩
 rw [ho9] at HOW HAN
 obtain ⟨m, hm⟩ : ∃ m, o.length = m := ⟨_, rfl⟩
 have hm4 : m ≤ 4096 := by
  have h1 := len_own wd l
  have h2 := szL_bd H.out wd
  rw [ho9] at h1
  omega
 rw [hm] at HOW
 have HM := hide hm
 clear ho9 hm
 have Q22 := hide (Q.refl w2)
 obtain ⟨k0, k1, k2, k3, t0, t1⟩ := KA.out w2 Q22.out
 go_enter Try.func112, Try.ntmps112
 go_upto_region 1 with fail
 rw [HW2.out]
 go_wp2_with fail
 refine (HOW.out w2 HWQ.out).mono ?_
 rintro e w3 ⟨g, rfl, hg0, hg, hq3⟩
 have Q23 := hide hq3
 have HG := hide hg
 clear hq3 k0 k1 k2 k3 t0 t1 hg hg0
 go_wp2_with fail
 go_loopw [6] (fun vi wr => ∃ q : Nat, q ≤ m ∧ vi = .int .i64 q ∧ (o.take q).any id = false ∧ Q w3 wr) (fun vi _ => m - (intOf vi).toNat)
 case atStart => exact ⟨0, by omega, by go_num, by simp, Q.refl _⟩
 case round =>
  obtain ⟨q, hqm, rfl, hany, hq⟩ := hrel
  have HQ := hide hq
  have HANY := hide hany
  by_cases hlt9 : q < m
  ·have hd1 : decide ((q : Int) < (m : Int)) = true := by simp; omega
   have hd0 : decide (q < m) = true := by simp; omega
   have hlti : (q : Int) < (m : Int) := by omega
   have hgq := blk_q HG.out hq
   obtain ⟨ov, hov⟩ : ∃ ov, o.getD q false = ov := ⟨_, rfl⟩
   have c0 := cell_blkJ hgq (boolA_get (bs := o) (i := q) (by have := HM.out; omega))
   rw [hov] at c0
   have HNX := hide (any_takeB (o := o) (q := q) (by have := HM.out; omega))
   rw [hany, hov, Bool.false_or] at HNX
   clear hany hq hgq hov
   cases ov with
   | true =>
    have HR : Hid (o.any id = true) := hide (by
     rw [← List.take_append_drop (q + 1) o, List.any_append, HNX.out]
     rfl)
    go_wp2_with fail
    go_ret
    exact ⟨by rw [← HAN.out, HR.out] <;> rfl, HQ2.out.trans (Q23.out.trans HQ.out)⟩
   | false =>
    go_wp2_with fail
    go_roundw
    case rel => exact ⟨q + 1, by omega, by go_num, HNX.out, HQ.out⟩
    case measure => simp [intOf] <;> omega
  ·have hd1 : decide ((q : Int) < (m : Int)) = false := by simp; omega
   have hd0 : decide (q < m) = false := by simp; omega
   obtain rfl : q = m := by omega
   have HR : Hid (o.any id = false) := hide (by
    have h9 := HANY.out
    rwa [List.take_of_length_le (by have := HM.out; omega)] at h9)
   clear hany hq
   go_wp2_with fail
   go_ret
   exact ⟨by rw [← HAN.out, HR.out] <;> rfl, HQ2.out.trans (Q23.out.trans HQ.out)⟩
theorem index3 {A : Option Addr} {n c : Nat} {ps : List Lay} {w : World} (hs : Sl 4 encL w A n c ps) (hc : n ≤ 140737488351232) (wd : Int) (b : Bool) (t : Lay → Bool) (hf : ∀ W, Q w W → ∀ p ∈ ps, Calls Try.prog 69 #[tgW wd b, p.v] W (R1 W (.bool (t p)))) :
  Calls Try.prog 121 #[.slice A n c, .func (.func 69) #[tgW wd b] #[]] w fun e w' => (∃ r : Int, e = .returned (.int .i64 r) ∧ decide (0 ≤ r) = ps.any t) ∧ Q w w' := by
 have hni : (n : Int) ≤ 140737488351232 := by have := hs.cap; omega
 have HS := hide hs
 have HF := hide hf
 have HPL := hide hs.len
 clear hs hc hf
 go_enter Try.func121, Try.ntmps121
 go_wp2_with fail
 go_loopw [8] (fun vi wr => ∃ j : Nat, j ≤ n ∧ vi = .int .i64 j ∧ (ps.take j).any t = false ∧ Q w wr) (fun vi _ => n - (intOf vi).toNat)
 case atStart => exact ⟨0, by omega, by go_num, by simp, Q.refl _⟩
 case round =>
  obtain ⟨j, hj, rfl, hany, hq⟩ := hrel
  have HANY := hide hany
  have HQ := hide hq
  clear hany
  by_cases hlt9 : j < n
  ·have hd1 : decide ((j : Int) < (n : Int)) = true := by simp; omega
   have hd0 : decide (j < n) = true := by simp; omega
   have hlti : (j : Int) < (n : Int) := by omega
   obtain ⟨b, o, m', x', y', B, l', d', qs, e, hb, hx, z0, z1, z2, z3⟩ := lay_at (HS.out.up hq) hlt9
   cases e
   obtain ⟨p, hpe⟩ : ∃ p, Lay.mk m' x' y' B l' d' qs = p := ⟨_, rfl⟩
   have hpv : p.v = .agg #[.int .i64 m', .int .i64 x', .bool y', .slice B l' d'] := by rw [← hpe]; rfl
   rw [hpe] at hx
   have HC := hide (HF.out wr hq p (List.mem_of_getElem? hx))
   unfold R1 at HC
   rw [hpv] at HC
   obtain ⟨r, hr⟩ : ∃ r, t p = r := ⟨_, rfl⟩
   rw [hr] at HC
   have HR := hide hr
   have HX := hide hx
   clear hpe hpv hx hr hq
   go_wp2_with fail
   refine HC.out.mono ?_
   rintro e w5 ⟨rfl, hq5⟩
   have HQ5 := hide (HQ.out.trans hq5)
   clear hq5 z0 z1 z2 z3
   cases r with
   | true =>
    go_wp2_with fail
    go_ret
    exact ⟨⟨(j : Int), rfl, by rw [any_hitL HX.out HR.out]; simp⟩, HQ5.out⟩
   | false =>
    go_wp2_with fail
    go_roundw
    case rel => exact ⟨j + 1, by omega, by go_num, by rw [any_takeL HX.out, HANY.out, HR.out]; rfl, HQ5.out⟩
    case measure => simp [intOf] <;> omega
  ·have hd1 : decide ((j : Int) < (n : Int)) = false := by simp; omega
   have hd0 : decide (j < n) = false := by simp; omega
   obtain rfl : j = n := by omega
   have HA := hide (show ps.any t = false by
    have h9 := HANY.out
    rwa [List.take_of_length_le (by have := HPL.out; omega)] at h9)
   clear hq
   go_wp2_with fail
   go_ret
   exact ⟨⟨-1, rfl, by rw [HA.out]; rfl⟩, HQ.out⟩
theorem contains3 {A : Option Addr} {n c : Nat} {ps : List Lay} {w : World} (hs : Sl 4 encL w A n c ps) (hc : n ≤ 140737488351232) (wd : Int) (b : Bool) (t : Lay → Bool) (hf : ∀ W, Q w W → ∀ p ∈ ps, Calls Try.prog 69 #[tgW wd b, p.v] W (R1 W (.bool (t p)))) :
  Calls Try.prog 100 #[.slice A n c, .func (.func 69) #[tgW wd b] #[]] w (R1 w (.bool (ps.any t))) := by
 have HC := hide (index3 hs hc wd b t hf)
 unfold R1
 go_enter Try.func100, Try.ntmps100
 go_wp2_with fail
 refine HC.out.mono ?_
 rintro e w1 ⟨⟨r, rfl, hr⟩, hq1⟩
 have HR := hide hr
 clear hr
 go_wp2_with fail
 go_ret
 exact ⟨by rw [← HR.out]; rfl, hq1⟩
theorem hasBytes_any {w : World} {l : Lay} (h : LayR w l) (wd : Int) (b : Bool) : l.count ≤ 1048576 → VL l → ∀ W, Q w W → Calls Try.prog 69 #[tgW wd b, l.v] W (R1 W (.bool (l.hasB wd))) := by
 induction h with
 | @mk k n f A len cap ps a1 a2 a3 a4 a5 a6 ih =>
  intro hc hvl W hqW
  unfold R1
  have hLR : LayR w (.mk k n f A len cap ps) := .mk a1 a2 a3 a4 a5 a6
  have HSL := hide a3
  have HIH : Hid (∀ p ∈ ps, ∀ W, Q w W → Calls Try.prog 69 #[tgW wd b, p.v] W (R1 W (.bool (p.hasB wd)))) := hide (fun p hp => ih p hp (by have := count_part (l := .mk k n f A len cap ps) hp; omega) (hvl.part (l := .mk k n f A len cap ps) hp))
  have HRES := hide (hasB_mk wd k n f A len cap ps)
  have HSZ := hide (csize_any hLR hc wd b)
  obtain ⟨sz, hsz⟩ : ∃ sz, szL wd (.mk k n f A len cap ps) = sz := ⟨_, rfl⟩
  rw [hsz] at HSZ
  rw [show (Lay.mk k n f A len cap ps).v = .agg #[.int .i64 k, .int .i64 n, .bool f, .slice A len cap] from rfl] at HSZ ⊢
  unfold R1 at HSZ
  have HSZE := hide hsz
  have hnum := hvl.kind.2.2.1
  have hkd := hvl.kind
  have hlen := a3.len
  have HLN := hide hlen
  have HA5 := hide a5
  have HQW := hide hqW
  obtain ⟨w2, hw2⟩ : ∃ w2, (W.alloc (.cells #[.int .i64 wd, .bool b] 60)).alloc (.cells #[.int .i64 k, .int .i64 n, .bool f, .slice A len cap] 24) = w2 := ⟨_, rfl⟩
  obtain ⟨hq2, hs2, hd2, hc2⟩ := box2 hw2
  have hb0 : W.heap.size < w2.heap.size := by omega
  have hb1 : W.heap.size + 1 < w2.heap.size := by omega
  have k0 : w2.cell? ⟨W.heap.size + 1, 0, none⟩ = some (.int .i64 k) := hc2 0 _ rfl
  have k1 : w2.cell? ⟨W.heap.size + 1, 1, none⟩ = some (.int .i64 n) := hc2 1 _ rfl
  have k2 : w2.cell? ⟨W.heap.size + 1, 2, none⟩ = some (.bool f) := hc2 2 _ rfl
  have k3 : w2.cell? ⟨W.heap.size + 1, 3, none⟩ = some (.slice A len cap) := hc2 3 _ rfl
  have t0 : w2.cell? ⟨W.heap.size, 0, none⟩ = some (.int .i64 wd) := hd2 0 _ rfl
  have t1 : w2.cell? ⟨W.heap.size, 1, none⟩ = some (.bool b) := hd2 1 _ rfl
  have KA : Hid (∀ X, Q w2 X → X.cell? ⟨W.heap.size + 1, 1, none⟩ = some (.int .i64 n) ∧ X.cell? ⟨W.heap.size + 1, 3, none⟩ = some (.slice A len cap) ∧ X.cell? ⟨W.heap.size, 0, none⟩ = some (.int .i64 wd) ∧ X.cell? ⟨W.heap.size, 1, none⟩ = some (.bool b)) := hide fun X hX => ⟨(hX.facts.1 _ 1 hb1).trans k1, (hX.facts.1 _ 3 hb1).trans k3, (hX.facts.1 _ 0 hb0).trans t0, (hX.facts.1 _ 1 hb0).trans t1⟩
  have HW2 := hide hw2
  have HWQ := hide (hqW.trans hq2)
  have HQ2 := hide hq2
  clear a1 a2 a3 a4 a5 a6 ih hLR hc hvl hqW hw2 hc2 hd2 hq2 hsz hlen
  by_cases h6 : k = 6
  ·subst h6
   have HCF := hide (fun W' (hW' : Q W W') => contains3 (w := W') (HSL.out.up (HQW.out.trans hW')) HA5.out wd b (fun p => p.hasB wd) (fun W3 hW3 p hp => HIH.out p hp W3 (HQW.out.trans (hW'.trans hW3))))
   unfold R1 at HCF
   have RES : Hid ((Lay.mk 6 n f A len cap ps).hasB wd = ps.any fun p => p.hasB wd) := hide (by
    rw [HRES.out]
    unfold hasC
    rw [if_pos (show (Lay.mk 6 n f A len cap ps).k = 6 from rfl), List.any_map]
    rfl)
   obtain ⟨r, hr⟩ : ∃ r, (ps.any fun p => p.hasB wd) = r := ⟨_, rfl⟩
   rw [hr] at HCF RES
   clear hnum hkd hr
   go_enter Try.func69, Try.ntmps69
   go_upto_region 1 with fail
   rw [HW2.out]
   go_wp2_with fail
   refine (HCF.out w2 HQ2.out).mono ?_
   rintro e w3 ⟨rfl, hq3⟩
   have HQ3 := hide (HQ2.out.trans hq3)
   clear hq3 k0 k1 k2 k3 t0 t1
   go_wp2_with fail
   go_ret
   exact ⟨by rw [RES.out] <;> rfl, HQ3.out⟩
  by_cases h5 : k = 5
  ·subst h5
   have hl1 : len = 1 := by
    unfold numL at hnum
    rw [if_pos (.inr rfl), decide_eq_true_eq] at hnum
    exact HLN.out.symm.trans hnum
   obtain ⟨g, o, m', x', y', B, l', d', qs, e, hb, hx, z0, z1, z2, z3⟩ := lay_at (HSL.out.up HWQ.out) (show 0 < len by omega)
   cases e
   obtain ⟨p, hpe⟩ : ∃ p, Lay.mk m' x' y' B l' d' qs = p := ⟨_, rfl⟩
   have hpv : p.v = .agg #[.int .i64 m', .int .i64 x', .bool y', .slice B l' d'] := by rw [← hpe]; rfl
   rw [hpe] at hx
   have HIP := hide (HIH.out p (List.mem_of_getElem? hx))
   obtain ⟨hbv, hhb⟩ : ∃ hbv, p.hasB wd = hbv := ⟨_, rfl⟩
   rw [hpv, hhb] at HIP
   unfold R1 at HIP
   have RES : Hid ((Lay.mk 5 n f (some ⟨g, o, none⟩) len cap ps).hasB wd = (decide (0 < n) && hbv)) := hide (by
    rw [HRES.out]
    unfold hasC
    rw [if_neg (show ¬ (Lay.mk 5 n f (some ⟨g, o, none⟩) len cap ps).k = 6 from (by decide : ¬ (5 : Int) = 6)), if_pos (show (Lay.mk 5 n f (some ⟨g, o, none⟩) len cap ps).k = 5 from rfl)]
    cases ps with
    | nil => simp at hx
    | cons a r =>
     injection hx with hx
     subst hx
     rw [List.map_cons, List.headD_cons, hhb]
     rfl)
   have HL1 := hide hl1
   have KP : Hid (∀ X, Q w2 X → X.cell? ⟨g, o + 0 * 4, none⟩ = some (.int .i64 m') ∧ X.cell? ⟨g, o + 0 * 4 + 1, none⟩ = some (.int .i64 x') ∧ X.cell? ⟨g, o + 0 * 4 + 2, none⟩ = some (.bool y') ∧ X.cell? ⟨g, o + 0 * 4 + 3, none⟩ = some (.slice B l' d')) := hide fun X hX => ⟨(hX.facts.1 _ _ hb).trans z0, (hX.facts.1 _ _ hb).trans z1, (hX.facts.1 _ _ hb).trans z2, (hX.facts.1 _ _ hb).trans z3⟩
   clear hnum hkd hl1 hb hx hpe hpv hhb z0 z1 z2 z3
   obtain ⟨nb, hnb⟩ : ∃ nb, decide (0 < n) = nb := ⟨_, rfl⟩
   rw [hnb] at RES
   have HNB := hide hnb
   clear hnb
   go_enter Try.func69, Try.ntmps69
   go_upto_region 1 with fail
   rw [HW2.out]
   go_upto_region 5 with fail
   clear k0 k1 k2 k3 t0 t1
   cases nb with
   | true =>
    refine Ri.madeZ (C := fun W0 => Q w2 W0) [] [0, 1, 2, 3, 4, 5, 6, 7, 8, 9, 10, 11] (fun w1 w3 X hq => X.trans hq) (Ri.phi [Ri.isV (.pointer (some ⟨W.heap.size + 1, 1, none⟩)), Ri.isV (.int .i64 n), Ri.isV (.bool true), Ri.isV (.bool true), Ri.isV (tgW wd b), Ri.isV (.pointer (some ⟨W.heap.size + 1, 3, none⟩)), Ri.isV (.slice (some ⟨g, o, none⟩) len cap), Ri.isV (.pointer (some ⟨g, o + 0 * 4, none⟩)), Ri.isV (.agg #[.int .i64 m', .int .i64 x', .bool y', .slice B l' d']), Ri.isV (.bool hbv), Ri.isV (.bool hbv), Ri.isV (.bool hbv)]) (by kernel_rfl) (by kernel_rfl) (by kernel_rfl) ((Q.refl _).drew) (Ri.phi_mono ?_) (Ri.phi_fix ?_) ?_ ?_
    ·repeat' first | exact trivial | exact fun _ _ _ h _ => h | refine ⟨?_, ?_⟩
    ·repeat' first | exact trivial | exact fun _ _ _ _ h => h | refine ⟨?_, ?_⟩
    ·refine Ri.All.cons ?_ (.cons ?_ (.cons ?_ (.cons ?_ (.cons ?_ (.cons ?_ (.cons ?_ (.cons ?_ (.cons ?_ (.cons ?_ (.cons ?_ (.cons ?_ (Ri.All.nil))))))))))))
     ·refine Ri.StepZ.q (h := fun f0 W9 hq hf Ac hA hB hO => ?_)
      have e1 := (hB 3).trans (show _ = .pointer (some ⟨W.heap.size + 1, 0, none⟩) by simp [Act.eval])
      exact Ri.wp_value _ (Ri.run_fld (f := _) rfl e1 Try.underlying24 rfl (sz := 0) (by kernel_rfl)) rfl
     ·refine Ri.StepZ.q (h := fun f0 W9 hq hf Ac hA hB hO => ?_)
      have e1 := (hA 16 0).trans (hf 0)
      exact Ri.wp_value _ (Ri.run_ld1 rfl e1 Try.underlying3 rfl ((KA.out W9 hq).1)) rfl
     ·refine Ri.StepZ.q (h := fun f0 W9 hq hf Ac hA hB hO => ?_)
      have e1 := (hA 17 1).trans (hf 1)
      have e2 : Ac.eval (.const (.int .i64 0)) = .int .i64 0 := rfl
      exact Ri.wp_value _ ((Ri.run_gtr rfl e1 e2 Try.underlying3).trans (by rw [HNB.out])) rfl
     ·refine Ri.StepZ.q (h := fun f0 W9 hq hf Ac hA hB hO => ?_)
      have e1 := (hA 18 2).trans (hf 2)
      exact Ri.wp_value _ (Ri.run_mv rfl e1) rfl
     ·refine Ri.StepZ.gq (by kernel_rfl) rfl rfl (by simp) fun f0 W9 hq hf Ac hA hB hO => ⟨hf 3, ?_⟩
      have e1 := (hB 2).trans (show _ = .pointer (some ⟨W.heap.size, 0, none⟩) by simp [Act.eval])
      obtain ⟨-, -, u0, u1⟩ := KA.out W9 hq
      exact Ri.wp_value _ (Ri.run_ldagg (cs := [.int .i64 wd, .bool b]) rfl e1 (c2L u0 u1) Try.underlying60 rfl (by kernel_rfl)) rfl
     ·refine Ri.StepZ.gq (by kernel_rfl) rfl rfl (by simp) fun f0 W9 hq hf Ac hA hB hO => ⟨hf 3, ?_⟩
      have e1 := (hB 3).trans (show _ = .pointer (some ⟨W.heap.size + 1, 0, none⟩) by simp [Act.eval])
      exact Ri.wp_value _ (Ri.run_fld (f := _) rfl e1 Try.underlying24 rfl (sz := 0) (by kernel_rfl)) rfl
     ·refine Ri.StepZ.gq (by kernel_rfl) rfl rfl (by simp) fun f0 W9 hq hf Ac hA hB hO => ⟨hf 3, ?_⟩
      have e1 := (hA 21 5).trans (hf 5)
      exact Ri.wp_value _ (Ri.run_ld1 rfl e1 Try.underlying22 rfl ((KA.out W9 hq).2.1)) rfl
     ·refine Ri.StepZ.gq (by kernel_rfl) rfl rfl (by simp) fun f0 W9 hq hf Ac hA hB hO => ⟨hf 3, ?_⟩
      have e1 := (hA 22 6).trans (hf 6)
      have e2 : Ac.eval (.const (.int .i64 0)) = .int .i64 ((0 : Nat) : Int) := rfl
      exact Ri.wp_value _ (Ri.run_idx rfl e1 e2 Try.underlying22 (sz := 4) (by kernel_rfl) (by have := HL1.out; omega)) rfl
     ·refine Ri.StepZ.gq (by kernel_rfl) rfl rfl (by simp) fun f0 W9 hq hf Ac hA hB hO => ⟨hf 3, ?_⟩
      have e1 := (hA 23 7).trans (hf 7)
      obtain ⟨b0, b1, b2, b3⟩ := KP.out W9 hq
      exact Ri.wp_value _ (Ri.run_ldagg rfl e1 (c4G b0 b1 b2 b3) Try.underlying24 rfl (by kernel_rfl)) rfl
     ·refine Ri.StepZ.gq (by kernel_rfl) rfl rfl (by simp) fun f0 W9 hq hf Ac hA hB hO => ⟨hf 3, ?_⟩
      have e1 := (hA 20 4).trans (hf 4)
      have e2 := (hA 24 8).trans (hf 8)
      refine Ri.wp_call #[tgW wd b, .agg #[.int .i64 m', .int .i64 x', .bool y', .slice B l' d']] rfl (by simp [e1, e2]) Try.func69 (by kernel_rfl) (by kernel_rfl) ((HIP.out W9 (HWQ.out.trans hq)).mono ?_)
      rintro e w9 ⟨rfl, h1⟩
      exact ⟨_, rfl, h1, rfl⟩
     ·refine Ri.StepZ.q (h := fun f0 W9 hq hf Ac hA hB hO => ?_)
      have e1 := (hA 19 3).trans (hf 3)
      have e2 := (hA 25 9).trans (hf 9)
      exact Ri.wp_value _ (Ri.run_pick rfl e1 (by simpa [Act.eval] using e2)) rfl
     ·refine Ri.StepZ.q (h := fun f0 W9 hq hf Ac hA hB hO => ?_)
      have e1 := (hA 26 10).trans (hf 10)
      exact Ri.wp_value _ (Ri.run_asg rfl e1) rfl
    ·intro f0 w8 hq8 hf
     have h11 := hf 11 (by simp) (by kernel_rfl)
     simp only [Ri.phi, List.getD_cons_zero, List.getD_cons_succ, Ri.isV] at h11
     simp only [Ri.acts, Act.put, List.setIfInBounds_toArray, List.set_cons_zero, List.set_cons_succ, Nat.zero_add, Nat.reduceAdd]
     rw [h11]
     have HQ8 := hide (HQ2.out.trans hq8)
     clear hf h11 hq8
     go_wp2_with fail
     go_ret
     exact ⟨by rw [RES.out] <;> rfl, HQ8.out⟩
   | false =>
    refine Ri.madeZ (C := fun W0 => Q w2 W0) [] [0, 1, 2, 3, 4, 5, 6, 7, 8, 9, 10, 11] (fun w1 w3 X hq => X.trans hq) (Ri.phi [Ri.isV (.pointer (some ⟨W.heap.size + 1, 1, none⟩)), Ri.isV (.int .i64 n), Ri.isV (.bool false), Ri.isV (.bool false), Ri.isV (undef), Ri.isV (undef), Ri.isV (undef), Ri.isV (undef), Ri.isV (undef), Ri.isV (undef), Ri.isV (.bool false), Ri.isV (.bool false)]) (by kernel_rfl) (by kernel_rfl) (by kernel_rfl) ((Q.refl _).drew) (Ri.phi_mono ?_) (Ri.phi_fix ?_) ?_ ?_
    ·repeat' first | exact trivial | exact fun _ _ _ h _ => h | refine ⟨?_, ?_⟩
    ·repeat' first | exact trivial | exact fun _ _ _ _ h => h | refine ⟨?_, ?_⟩
    ·refine Ri.All.cons ?_ (.cons ?_ (.cons ?_ (.cons ?_ (.cons ?_ (.cons ?_ (.cons ?_ (.cons ?_ (.cons ?_ (.cons ?_ (.cons ?_ (.cons ?_ (Ri.All.nil))))))))))))
     ·refine Ri.StepZ.q (h := fun f0 W9 hq hf Ac hA hB hO => ?_)
      have e1 := (hB 3).trans (show _ = .pointer (some ⟨W.heap.size + 1, 0, none⟩) by simp [Act.eval])
      exact Ri.wp_value _ (Ri.run_fld (f := _) rfl e1 Try.underlying24 rfl (sz := 0) (by kernel_rfl)) rfl
     ·refine Ri.StepZ.q (h := fun f0 W9 hq hf Ac hA hB hO => ?_)
      have e1 := (hA 16 0).trans (hf 0)
      exact Ri.wp_value _ (Ri.run_ld1 rfl e1 Try.underlying3 rfl ((KA.out W9 hq).1)) rfl
     ·refine Ri.StepZ.q (h := fun f0 W9 hq hf Ac hA hB hO => ?_)
      have e1 := (hA 17 1).trans (hf 1)
      have e2 : Ac.eval (.const (.int .i64 0)) = .int .i64 0 := rfl
      exact Ri.wp_value _ ((Ri.run_gtr rfl e1 e2 Try.underlying3).trans (by rw [HNB.out])) rfl
     ·refine Ri.StepZ.q (h := fun f0 W9 hq hf Ac hA hB hO => ?_)
      have e1 := (hA 18 2).trans (hf 2)
      exact Ri.wp_value _ (Ri.run_mv rfl e1) rfl
     iterate 6 · refine Ri.StepZ.off rfl rfl (by simp) fun f0 W9 hq hf => ⟨hf 3, rfl⟩
     ·refine Ri.StepZ.q (h := fun f0 W9 hq hf Ac hA hB hO => ?_)
      have e1 := (hA 19 3).trans (hf 3)
      exact Ri.wp_value _ (Ri.run_pick rfl e1 (by simp [Act.eval])) rfl
     ·refine Ri.StepZ.q (h := fun f0 W9 hq hf Ac hA hB hO => ?_)
      have e1 := (hA 26 10).trans (hf 10)
      exact Ri.wp_value _ (Ri.run_asg rfl e1) rfl
    ·intro f0 w8 hq8 hf
     have h11 := hf 11 (by simp) (by kernel_rfl)
     simp only [Ri.phi, List.getD_cons_zero, List.getD_cons_succ, Ri.isV] at h11
     simp only [Ri.acts, Act.put, List.setIfInBounds_toArray, List.set_cons_zero, List.set_cons_succ, Nat.zero_add, Nat.reduceAdd]
     rw [h11]
     have HQ8 := hide (HQ2.out.trans hq8)
     clear hf h11 hq8
     go_wp2_with fail
     go_ret
     exact ⟨by rw [RES.out] <;> rfl, HQ8.out⟩
  have hk : k ≠ 5 ∧ k ≠ 6 := ⟨h5, h6⟩
  by_cases h48 : k = 4 ∨ k = 8
  ·have RES : Hid ((Lay.mk k n f A len cap ps).hasB wd = true) := hide (by
    rw [HRES.out]
    unfold hasC
    rw [if_neg (show ¬ (Lay.mk k n f A len cap ps).k = 6 from h6), if_neg (show ¬ (Lay.mk k n f A len cap ps).k = 5 from h5), if_pos (show (Lay.mk k n f A len cap ps).k = 4 ∨ (Lay.mk k n f A len cap ps).k = 8 from h48)])
   have d5 : (k == 5) = false := by simp [h5]
   have d6 : (k == 6) = false := by simp [h6]
   rcases h48 with h4 | h8
   ·subst h4
    clear h5 h6 hk hnum hkd d5 d6
    go_enter Try.func69, Try.ntmps69
    go_upto_region 1 with fail
    rw [HW2.out]
    go_wp2_with fail
    go_ret
    exact ⟨by rw [RES.out] <;> rfl, HQ2.out⟩
   ·subst h8
    clear h5 h6 hk hnum hkd d5 d6
    go_enter Try.func69, Try.ntmps69
    go_upto_region 1 with fail
    rw [HW2.out]
    go_wp2_with fail
    go_ret
    exact ⟨by rw [RES.out] <;> rfl, HQ2.out⟩
  ·have RES : Hid ((Lay.mk k n f A len cap ps).hasB wd = decide (0 < sz)) := hide (by
    rw [HRES.out]
    unfold hasC
    rw [if_neg (show ¬ (Lay.mk k n f A len cap ps).k = 6 from h6), if_neg (show ¬ (Lay.mk k n f A len cap ps).k = 5 from h5), if_neg (show ¬ ((Lay.mk k n f A len cap ps).k = 4 ∨ (Lay.mk k n f A len cap ps).k = 8) from h48), HSZE.out])
   have d5 : (k == 5) = false := by simp [h5]
   have d6 : (k == 6) = false := by simp [h6]
   have d4 : (k == 4) = false := by simp; omega
   have d8 : (k == 8) = false := by simp; omega
   clear h5 h6 h48 hk hnum hkd
   go_enter Try.func69, Try.ntmps69
   go_upto_region 1 with fail
   rw [HW2.out]
   go_wp2_with fail
   refine (HSZ.out w2 HWQ.out).mono ?_
   rintro e w3 ⟨rfl, hq3⟩
   have HQ3 := hide (HQ2.out.trans hq3)
   clear hq3 k0 k1 k2 k3 t0 t1
   go_wp2_with fail
   go_ret
   exact ⟨by rw [RES.out] <;> rfl, HQ3.out⟩
def pw (x : Int) : Int := 2 ^ x.toNat
theorem pw_pos (x : Int) : 1 ≤ pw x := by
 unfold pw
 have : (0 : Int) < 2 ^ x.toNat := Int.pow_pos (by decide)
 omega
theorem pw_le {x : Int} (h : x ≤ 62) : pw x ≤ 4611686018427387904 := by
 unfold pw
 have h1 : (2 : Nat) ^ x.toNat ≤ 2 ^ 62 := Nat.pow_le_pow_right (by decide) (by omega)
 have h2 : ((2 ^ x.toNat : Nat) : Int) ≤ ((2 ^ 62 : Nat) : Int) := Int.ofNat_le.2 h1
 simpa using h2
def bndW (wd k n : Int) : Int := if k = 3 then 8 * wd else n
def bnd (wd k n : Int) (f : Bool) : Int × Int :=
 if k = 1 then (0, 1) else if k = 7 then (0, n - 1)
 else if f = true then (if 62 < bndW wd k n - 1 then (-4611686018427387904, 4611686018427387904) else (-pw (bndW wd k n - 1), pw (bndW wd k n - 1) - 1))
 else if 62 < bndW wd k n then (0, 4611686018427387904) else (0, pw (bndW wd k n) - 1)
theorem bounds1 (k n : Int) (f : Bool) (A : Option Addr) (len cap : Nat) (wd : Int) (b : Bool) (hk : k = 1) (W : World) : Calls Try.prog 104 #[tgW wd b, .agg #[.int .i64 k, .int .i64 n, .bool f, .slice A len cap]] W (R1 W (.tuple #[.int .i64 (bnd wd k n f).1, .int .i64 (bnd wd k n f).2])) := by
 unfold R1
 obtain ⟨w2, hw2⟩ : ∃ w2, (W.alloc (.cells #[.int .i64 wd, .bool b] 60)).alloc (.cells #[.int .i64 k, .int .i64 n, .bool f, .slice A len cap] 24) = w2 := ⟨_, rfl⟩
 obtain ⟨hq2, hs2, hd, hc⟩ := box2 hw2
 have k0 : w2.cell? ⟨W.heap.size + 1, 0, none⟩ = some (.int .i64 k) := hc 0 _ rfl
 have k1 : w2.cell? ⟨W.heap.size + 1, 1, none⟩ = some (.int .i64 n) := hc 1 _ rfl
 have k2 : w2.cell? ⟨W.heap.size + 1, 2, none⟩ = some (.bool f) := hc 2 _ rfl
 have t0 : w2.cell? ⟨W.heap.size, 0, none⟩ = some (.int .i64 wd) := hd 0 _ rfl
 have HW2 := hide hw2
 have HQ2 := hide hq2
 clear hw2 hc hd hq2
 subst hk
 have RES : Hid (bnd wd 1 n f = (0, 1)) := hide (by unfold bnd; rw [if_pos rfl])
 go_enter Try.func104, Try.ntmps104
 go_upto_region 1 with fail
 rw [HW2.out]
 go_region
 go_wp2_with fail
 go_ret2
 exact ⟨by rw [RES.out] <;> rfl, HQ2.out.drew⟩
theorem bounds7 (k n : Int) (f : Bool) (A : Option Addr) (len cap : Nat) (wd : Int) (b : Bool) (hk : k = 7) (hn : 1 ≤ n ∧ n ≤ 65536) (W : World) : Calls Try.prog 104 #[tgW wd b, .agg #[.int .i64 k, .int .i64 n, .bool f, .slice A len cap]] W (R1 W (.tuple #[.int .i64 (bnd wd k n f).1, .int .i64 (bnd wd k n f).2])) := by
 unfold R1
 obtain ⟨w2, hw2⟩ : ∃ w2, (W.alloc (.cells #[.int .i64 wd, .bool b] 60)).alloc (.cells #[.int .i64 k, .int .i64 n, .bool f, .slice A len cap] 24) = w2 := ⟨_, rfl⟩
 obtain ⟨hq2, hs2, hd, hc⟩ := box2 hw2
 have k0 : w2.cell? ⟨W.heap.size + 1, 0, none⟩ = some (.int .i64 k) := hc 0 _ rfl
 have k1 : w2.cell? ⟨W.heap.size + 1, 1, none⟩ = some (.int .i64 n) := hc 1 _ rfl
 have k2 : w2.cell? ⟨W.heap.size + 1, 2, none⟩ = some (.bool f) := hc 2 _ rfl
 have t0 : w2.cell? ⟨W.heap.size, 0, none⟩ = some (.int .i64 wd) := hd 0 _ rfl
 have HW2 := hide hw2
 have HQ2 := hide hq2
 clear hw2 hc hd hq2
 subst hk
 obtain ⟨hn0, hn1⟩ := hn
 have RES : Hid (bnd wd 7 n f = (0, n - 1)) := hide (by unfold bnd; rw [if_neg (by decide), if_pos rfl])
 go_enter Try.func104, Try.ntmps104
 go_upto_region 1 with fail
 rw [HW2.out]
 go_region
 go_upto_region 6 with fail
 go_region
 go_wp2_with fail
 go_ret2
 exact ⟨by rw [RES.out] <;> rfl, HQ2.out.drew.drew⟩
theorem bnd2u {wd n : Int} (h : n ≤ 62) : bnd wd 2 n false = (0, pw n - 1) := by
 have e : bndW wd 2 n = n := by unfold bndW; rw [if_neg (by decide)]
 unfold bnd
 rw [if_neg (by decide), if_neg (by decide), if_neg (by decide), e, if_neg (by omega)]
theorem bnd2v {wd n : Int} (h : 62 < n) : bnd wd 2 n false = (0, 4611686018427387904) := by
 have e : bndW wd 2 n = n := by unfold bndW; rw [if_neg (by decide)]
 unfold bnd
 rw [if_neg (by decide), if_neg (by decide), if_neg (by decide), e, if_pos (by omega)]
theorem bnd2s {wd m : Int} (h : m ≤ 62) : bnd wd 2 (m + 1) true = (-pw m, pw m - 1) := by
 have e : bndW wd 2 (m + 1) - 1 = m := by unfold bndW; rw [if_neg (by decide)]; omega
 unfold bnd
 rw [if_neg (by decide), if_neg (by decide), if_pos rfl, e, if_neg (by omega)]
theorem bnd2t {wd m : Int} (h : 62 < m) : bnd wd 2 (m + 1) true = (-4611686018427387904, 4611686018427387904) := by
 have e : bndW wd 2 (m + 1) - 1 = m := by unfold bndW; rw [if_neg (by decide)]; omega
 unfold bnd
 rw [if_neg (by decide), if_neg (by decide), if_pos rfl, e, if_pos (by omega)]
theorem bounds2u (k n : Int) (f : Bool) (A : Option Addr) (len cap : Nat) (wd : Int) (b : Bool) (hk : k = 2) (hf : f = false) (hn : 1 ≤ n ∧ n ≤ 62) (W : World) : Calls Try.prog 104 #[tgW wd b, .agg #[.int .i64 k, .int .i64 n, .bool f, .slice A len cap]] W (R1 W (.tuple #[.int .i64 (bnd wd k n f).1, .int .i64 (bnd wd k n f).2])) := by
 unfold R1
 obtain ⟨w2, hw2⟩ : ∃ w2, (W.alloc (.cells #[.int .i64 wd, .bool b] 60)).alloc (.cells #[.int .i64 k, .int .i64 n, .bool f, .slice A len cap] 24) = w2 := ⟨_, rfl⟩
 obtain ⟨hq2, hs2, hd, hc⟩ := box2 hw2
 have k0 : w2.cell? ⟨W.heap.size + 1, 0, none⟩ = some (.int .i64 k) := hc 0 _ rfl
 have k1 : w2.cell? ⟨W.heap.size + 1, 1, none⟩ = some (.int .i64 n) := hc 1 _ rfl
 have k2 : w2.cell? ⟨W.heap.size + 1, 2, none⟩ = some (.bool f) := hc 2 _ rfl
 have t0 : w2.cell? ⟨W.heap.size, 0, none⟩ = some (.int .i64 wd) := hd 0 _ rfl
 have HW2 := hide hw2
 have HQ2 := hide hq2
 clear hw2 hc hd hq2
 subst hk hf
 obtain ⟨hn0, hn1⟩ := hn
 have RES := hide (bnd2u (wd := wd) hn1)
 have hp0 := pw_pos n
 have hp1 := pw_le (x := n) (by omega)
 obtain ⟨p, hpw⟩ : ∃ p : Int, (2 : Int) ^ (n).toNat = p := ⟨_, rfl⟩
 have hpp : pw n = p := hpw
 rw [hpp] at hp0 hp1 RES
 clear hpp
 have hd62 : decide (n ≤ 62) = true := by simp; omega
 have hd63 : decide (62 < n) = false := by simp; omega
 go_enter Try.func104, Try.ntmps104
 go_upto_region 1 with fail
 rw [HW2.out]
 go_region
 go_wp2_with fail
 go_ret2
 exact ⟨by rw [RES.out] <;> rfl, HQ2.out.drew⟩
theorem bounds2v (k n : Int) (f : Bool) (A : Option Addr) (len cap : Nat) (wd : Int) (b : Bool) (hk : k = 2) (hf : f = false) (hn : 62 < n ∧ n ≤ 64) (W : World) : Calls Try.prog 104 #[tgW wd b, .agg #[.int .i64 k, .int .i64 n, .bool f, .slice A len cap]] W (R1 W (.tuple #[.int .i64 (bnd wd k n f).1, .int .i64 (bnd wd k n f).2])) := by
 unfold R1
 obtain ⟨w2, hw2⟩ : ∃ w2, (W.alloc (.cells #[.int .i64 wd, .bool b] 60)).alloc (.cells #[.int .i64 k, .int .i64 n, .bool f, .slice A len cap] 24) = w2 := ⟨_, rfl⟩
 obtain ⟨hq2, hs2, hd, hc⟩ := box2 hw2
 have k0 : w2.cell? ⟨W.heap.size + 1, 0, none⟩ = some (.int .i64 k) := hc 0 _ rfl
 have k1 : w2.cell? ⟨W.heap.size + 1, 1, none⟩ = some (.int .i64 n) := hc 1 _ rfl
 have k2 : w2.cell? ⟨W.heap.size + 1, 2, none⟩ = some (.bool f) := hc 2 _ rfl
 have t0 : w2.cell? ⟨W.heap.size, 0, none⟩ = some (.int .i64 wd) := hd 0 _ rfl
 have HW2 := hide hw2
 have HQ2 := hide hq2
 clear hw2 hc hd hq2
 subst hk hf
 obtain ⟨hn0, hn1⟩ := hn
 have RES := hide (bnd2v (wd := wd) hn0)
 have hd62 : decide (n ≤ 62) = false := by simp; omega
 have hd63 : decide (62 < n) = true := by simp; omega
 go_enter Try.func104, Try.ntmps104
 go_upto_region 1 with fail
 rw [HW2.out]
 go_region
 go_wp2_with fail
 go_ret2
 exact ⟨by rw [RES.out] <;> rfl, HQ2.out.drew⟩
theorem bounds2s (k n : Int) (f : Bool) (A : Option Addr) (len cap : Nat) (wd : Int) (b : Bool) (hk : k = 2) (hf : f = true) (hn : 1 ≤ n ∧ n ≤ 63) (W : World) : Calls Try.prog 104 #[tgW wd b, .agg #[.int .i64 k, .int .i64 n, .bool f, .slice A len cap]] W (R1 W (.tuple #[.int .i64 (bnd wd k n f).1, .int .i64 (bnd wd k n f).2])) := by
 unfold R1
 obtain ⟨w2, hw2⟩ : ∃ w2, (W.alloc (.cells #[.int .i64 wd, .bool b] 60)).alloc (.cells #[.int .i64 k, .int .i64 n, .bool f, .slice A len cap] 24) = w2 := ⟨_, rfl⟩
 obtain ⟨hq2, hs2, hd, hc⟩ := box2 hw2
 have k0 : w2.cell? ⟨W.heap.size + 1, 0, none⟩ = some (.int .i64 k) := hc 0 _ rfl
 have k1 : w2.cell? ⟨W.heap.size + 1, 1, none⟩ = some (.int .i64 n) := hc 1 _ rfl
 have k2 : w2.cell? ⟨W.heap.size + 1, 2, none⟩ = some (.bool f) := hc 2 _ rfl
 have t0 : w2.cell? ⟨W.heap.size, 0, none⟩ = some (.int .i64 wd) := hd 0 _ rfl
 have HW2 := hide hw2
 have HQ2 := hide hq2
 clear hw2 hc hd hq2
 subst hk hf
 obtain ⟨m, rfl⟩ : ∃ m, n = m + 1 := ⟨n - 1, by omega⟩
 obtain ⟨hn0, hn1⟩ := hn
 have hm0 : 0 ≤ m := by omega
 have hm1 : m ≤ 62 := by omega
 have RES := hide (bnd2s (wd := wd) hm1)
 have hp0 := pw_pos m
 have hp1 := pw_le (x := m) (by omega)
 obtain ⟨p, hpw⟩ : ∃ p : Int, (2 : Int) ^ (m).toNat = p := ⟨_, rfl⟩
 have hpp : pw m = p := hpw
 rw [hpp] at hp0 hp1 RES
 clear hpp
 have hd62 : decide (m ≤ 62) = true := by simp; omega
 have hd63 : decide (62 < m) = false := by simp; omega
 go_enter Try.func104, Try.ntmps104
 go_upto_region 1 with fail
 rw [HW2.out]
 go_region
 go_wp2_with fail
 go_ret2
 exact ⟨by rw [RES.out] <;> rfl, HQ2.out.drew⟩
theorem bounds2t (k n : Int) (f : Bool) (A : Option Addr) (len cap : Nat) (wd : Int) (b : Bool) (hk : k = 2) (hf : f = true) (hn : 63 < n ∧ n ≤ 64) (W : World) : Calls Try.prog 104 #[tgW wd b, .agg #[.int .i64 k, .int .i64 n, .bool f, .slice A len cap]] W (R1 W (.tuple #[.int .i64 (bnd wd k n f).1, .int .i64 (bnd wd k n f).2])) := by
 unfold R1
 obtain ⟨w2, hw2⟩ : ∃ w2, (W.alloc (.cells #[.int .i64 wd, .bool b] 60)).alloc (.cells #[.int .i64 k, .int .i64 n, .bool f, .slice A len cap] 24) = w2 := ⟨_, rfl⟩
 obtain ⟨hq2, hs2, hd, hc⟩ := box2 hw2
 have k0 : w2.cell? ⟨W.heap.size + 1, 0, none⟩ = some (.int .i64 k) := hc 0 _ rfl
 have k1 : w2.cell? ⟨W.heap.size + 1, 1, none⟩ = some (.int .i64 n) := hc 1 _ rfl
 have k2 : w2.cell? ⟨W.heap.size + 1, 2, none⟩ = some (.bool f) := hc 2 _ rfl
 have t0 : w2.cell? ⟨W.heap.size, 0, none⟩ = some (.int .i64 wd) := hd 0 _ rfl
 have HW2 := hide hw2
 have HQ2 := hide hq2
 clear hw2 hc hd hq2
 subst hk hf
 obtain ⟨m, rfl⟩ : ∃ m, n = m + 1 := ⟨n - 1, by omega⟩
 obtain ⟨hn0, hn1⟩ := hn
 have hm0 : 62 < m := by omega
 have hm1 : m ≤ 63 := by omega
 have RES := hide (bnd2t (wd := wd) hm0)
 have hd62 : decide (m ≤ 62) = false := by simp; omega
 have hd63 : decide (62 < m) = true := by simp; omega
 go_enter Try.func104, Try.ntmps104
 go_upto_region 1 with fail
 rw [HW2.out]
 go_region
 go_wp2_with fail
 go_ret2
 exact ⟨by rw [RES.out] <;> rfl, HQ2.out.drew⟩
theorem bounds3_2 (k n : Int) (f : Bool) (A : Option Addr) (len cap : Nat) (wd : Int) (b : Bool) (hk : k = 3) (hf : f = false) (hw : wd = 2) (W : World) : Calls Try.prog 104 #[tgW wd b, .agg #[.int .i64 k, .int .i64 n, .bool f, .slice A len cap]] W (R1 W (.tuple #[.int .i64 (bnd wd k n f).1, .int .i64 (bnd wd k n f).2])) := by
 unfold R1
 obtain ⟨w2, hw2⟩ : ∃ w2, (W.alloc (.cells #[.int .i64 wd, .bool b] 60)).alloc (.cells #[.int .i64 k, .int .i64 n, .bool f, .slice A len cap] 24) = w2 := ⟨_, rfl⟩
 obtain ⟨hq2, hs2, hd, hc⟩ := box2 hw2
 have k0 : w2.cell? ⟨W.heap.size + 1, 0, none⟩ = some (.int .i64 k) := hc 0 _ rfl
 have k1 : w2.cell? ⟨W.heap.size + 1, 1, none⟩ = some (.int .i64 n) := hc 1 _ rfl
 have k2 : w2.cell? ⟨W.heap.size + 1, 2, none⟩ = some (.bool f) := hc 2 _ rfl
 have t0 : w2.cell? ⟨W.heap.size, 0, none⟩ = some (.int .i64 wd) := hd 0 _ rfl
 have HW2 := hide hw2
 have HQ2 := hide hq2
 clear hw2 hc hd hq2
 subst hk hf hw
 have RES : Hid (bnd 2 3 n false = (0, 65535)) := hide rfl
 go_enter Try.func104, Try.ntmps104
 go_upto_region 1 with fail
 rw [HW2.out]
 go_region
 go_wp2_with fail
 go_ret2
 exact ⟨by rw [RES.out] <;> rfl, HQ2.out.drew⟩
theorem bounds3_4 (k n : Int) (f : Bool) (A : Option Addr) (len cap : Nat) (wd : Int) (b : Bool) (hk : k = 3) (hf : f = false) (hw : wd = 4) (W : World) : Calls Try.prog 104 #[tgW wd b, .agg #[.int .i64 k, .int .i64 n, .bool f, .slice A len cap]] W (R1 W (.tuple #[.int .i64 (bnd wd k n f).1, .int .i64 (bnd wd k n f).2])) := by
 unfold R1
 obtain ⟨w2, hw2⟩ : ∃ w2, (W.alloc (.cells #[.int .i64 wd, .bool b] 60)).alloc (.cells #[.int .i64 k, .int .i64 n, .bool f, .slice A len cap] 24) = w2 := ⟨_, rfl⟩
 obtain ⟨hq2, hs2, hd, hc⟩ := box2 hw2
 have k0 : w2.cell? ⟨W.heap.size + 1, 0, none⟩ = some (.int .i64 k) := hc 0 _ rfl
 have k1 : w2.cell? ⟨W.heap.size + 1, 1, none⟩ = some (.int .i64 n) := hc 1 _ rfl
 have k2 : w2.cell? ⟨W.heap.size + 1, 2, none⟩ = some (.bool f) := hc 2 _ rfl
 have t0 : w2.cell? ⟨W.heap.size, 0, none⟩ = some (.int .i64 wd) := hd 0 _ rfl
 have HW2 := hide hw2
 have HQ2 := hide hq2
 clear hw2 hc hd hq2
 subst hk hf hw
 have RES : Hid (bnd 4 3 n false = (0, 4294967295)) := hide rfl
 go_enter Try.func104, Try.ntmps104
 go_upto_region 1 with fail
 rw [HW2.out]
 go_region
 go_wp2_with fail
 go_ret2
 exact ⟨by rw [RES.out] <;> rfl, HQ2.out.drew⟩
theorem bounds3_8 (k n : Int) (f : Bool) (A : Option Addr) (len cap : Nat) (wd : Int) (b : Bool) (hk : k = 3) (hf : f = false) (hw : wd = 8) (W : World) : Calls Try.prog 104 #[tgW wd b, .agg #[.int .i64 k, .int .i64 n, .bool f, .slice A len cap]] W (R1 W (.tuple #[.int .i64 (bnd wd k n f).1, .int .i64 (bnd wd k n f).2])) := by
 unfold R1
 obtain ⟨w2, hw2⟩ : ∃ w2, (W.alloc (.cells #[.int .i64 wd, .bool b] 60)).alloc (.cells #[.int .i64 k, .int .i64 n, .bool f, .slice A len cap] 24) = w2 := ⟨_, rfl⟩
 obtain ⟨hq2, hs2, hd, hc⟩ := box2 hw2
 have k0 : w2.cell? ⟨W.heap.size + 1, 0, none⟩ = some (.int .i64 k) := hc 0 _ rfl
 have k1 : w2.cell? ⟨W.heap.size + 1, 1, none⟩ = some (.int .i64 n) := hc 1 _ rfl
 have k2 : w2.cell? ⟨W.heap.size + 1, 2, none⟩ = some (.bool f) := hc 2 _ rfl
 have t0 : w2.cell? ⟨W.heap.size, 0, none⟩ = some (.int .i64 wd) := hd 0 _ rfl
 have HW2 := hide hw2
 have HQ2 := hide hq2
 clear hw2 hc hd hq2
 subst hk hf hw
 have RES : Hid (bnd 8 3 n false = (0, 4611686018427387904)) := hide rfl
 go_enter Try.func104, Try.ntmps104
 go_upto_region 1 with fail
 rw [HW2.out]
 go_region
 go_wp2_with fail
 go_ret2
 exact ⟨by rw [RES.out] <;> rfl, HQ2.out.drew⟩
theorem limits1 (k n : Int) (f : Bool) (A : Option Addr) (len cap : Nat) (wd : Int) (b : Bool) (hk : k = 1) (W : World) : Calls Try.prog 113 #[.agg #[.int .i64 k, .int .i64 n, .bool f, .slice A len cap], tgW wd b] W (R1 W (.tuple #[.int .i64 (bnd wd k n f).1, .int .i64 (bnd wd k n f).2])) := by
 unfold R1
 obtain ⟨w2, hw2⟩ : ∃ w2, (W.alloc (.cells #[.int .i64 k, .int .i64 n, .bool f, .slice A len cap] 24)).alloc (.cells #[.int .i64 wd, .bool b] 26) = w2 := ⟨_, rfl⟩
 obtain ⟨hq2, hs2, hc, hd⟩ := box2 hw2
 have k0 : w2.cell? ⟨W.heap.size, 0, none⟩ = some (.int .i64 k) := hc 0 _ rfl
 have k1 : w2.cell? ⟨W.heap.size, 1, none⟩ = some (.int .i64 n) := hc 1 _ rfl
 have k2 : w2.cell? ⟨W.heap.size, 2, none⟩ = some (.bool f) := hc 2 _ rfl
 have t0 : w2.cell? ⟨W.heap.size + 1, 0, none⟩ = some (.int .i64 wd) := hd 0 _ rfl
 have HW2 := hide hw2
 have HQ2 := hide hq2
 clear hw2 hc hd hq2
 subst hk
 have RES : Hid (bnd wd 1 n f = (0, 1)) := hide (by unfold bnd; rw [if_pos rfl])
 go_enter Try.func113, Try.ntmps113
 go_upto_region 1 with fail
 rw [HW2.out]
 go_wp2_with fail
 go_ret2
 exact ⟨by rw [RES.out] <;> rfl, HQ2.out⟩
theorem limits7 (k n : Int) (f : Bool) (A : Option Addr) (len cap : Nat) (wd : Int) (b : Bool) (hk : k = 7) (hn : 1 ≤ n ∧ n ≤ 65536) (W : World) : Calls Try.prog 113 #[.agg #[.int .i64 k, .int .i64 n, .bool f, .slice A len cap], tgW wd b] W (R1 W (.tuple #[.int .i64 (bnd wd k n f).1, .int .i64 (bnd wd k n f).2])) := by
 unfold R1
 obtain ⟨w2, hw2⟩ : ∃ w2, (W.alloc (.cells #[.int .i64 k, .int .i64 n, .bool f, .slice A len cap] 24)).alloc (.cells #[.int .i64 wd, .bool b] 26) = w2 := ⟨_, rfl⟩
 obtain ⟨hq2, hs2, hc, hd⟩ := box2 hw2
 have k0 : w2.cell? ⟨W.heap.size, 0, none⟩ = some (.int .i64 k) := hc 0 _ rfl
 have k1 : w2.cell? ⟨W.heap.size, 1, none⟩ = some (.int .i64 n) := hc 1 _ rfl
 have k2 : w2.cell? ⟨W.heap.size, 2, none⟩ = some (.bool f) := hc 2 _ rfl
 have t0 : w2.cell? ⟨W.heap.size + 1, 0, none⟩ = some (.int .i64 wd) := hd 0 _ rfl
 have HW2 := hide hw2
 have HQ2 := hide hq2
 clear hw2 hc hd hq2
 subst hk
 obtain ⟨hn0, hn1⟩ := hn
 have RES : Hid (bnd wd 7 n f = (0, n - 1)) := hide (by unfold bnd; rw [if_neg (by decide), if_pos rfl])
 go_enter Try.func113, Try.ntmps113
 go_upto_region 1 with fail
 rw [HW2.out]
 go_upto_region 6 with fail
 go_region
 go_wp2_with fail
 go_ret2
 exact ⟨by rw [RES.out] <;> rfl, HQ2.out.drew⟩
theorem limits2u (k n : Int) (f : Bool) (A : Option Addr) (len cap : Nat) (wd : Int) (b : Bool) (hk : k = 2) (hf : f = false) (hn : 1 ≤ n ∧ n ≤ 62) (W : World) : Calls Try.prog 113 #[.agg #[.int .i64 k, .int .i64 n, .bool f, .slice A len cap], tgW wd b] W (R1 W (.tuple #[.int .i64 (bnd wd k n f).1, .int .i64 (bnd wd k n f).2])) := by
 unfold R1
 obtain ⟨w2, hw2⟩ : ∃ w2, (W.alloc (.cells #[.int .i64 k, .int .i64 n, .bool f, .slice A len cap] 24)).alloc (.cells #[.int .i64 wd, .bool b] 26) = w2 := ⟨_, rfl⟩
 obtain ⟨hq2, hs2, hc, hd⟩ := box2 hw2
 have k0 : w2.cell? ⟨W.heap.size, 0, none⟩ = some (.int .i64 k) := hc 0 _ rfl
 have k1 : w2.cell? ⟨W.heap.size, 1, none⟩ = some (.int .i64 n) := hc 1 _ rfl
 have k2 : w2.cell? ⟨W.heap.size, 2, none⟩ = some (.bool f) := hc 2 _ rfl
 have t0 : w2.cell? ⟨W.heap.size + 1, 0, none⟩ = some (.int .i64 wd) := hd 0 _ rfl
 have HW2 := hide hw2
 have HQ2 := hide hq2
 clear hw2 hc hd hq2
 subst hk hf
 obtain ⟨hn0, hn1⟩ := hn
 have RES := hide (bnd2u (wd := wd) hn1)
 have hp0 := pw_pos n
 have hp1 := pw_le (x := n) (by omega)
 obtain ⟨p, hpw⟩ : ∃ p : Int, (2 : Int) ^ (n).toNat = p := ⟨_, rfl⟩
 have hpp : pw n = p := hpw
 rw [hpp] at hp0 hp1 RES
 clear hpp
 have hd : decide (62 < n) = false := by simp; omega
 go_enter Try.func113, Try.ntmps113
 go_upto_region 1 with fail
 rw [HW2.out]
 go_wp2_with fail
 go_ret2
 exact ⟨by rw [RES.out] <;> rfl, HQ2.out⟩
theorem limits2v (k n : Int) (f : Bool) (A : Option Addr) (len cap : Nat) (wd : Int) (b : Bool) (hk : k = 2) (hf : f = false) (hn : 62 < n ∧ n ≤ 64) (W : World) : Calls Try.prog 113 #[.agg #[.int .i64 k, .int .i64 n, .bool f, .slice A len cap], tgW wd b] W (R1 W (.tuple #[.int .i64 (bnd wd k n f).1, .int .i64 (bnd wd k n f).2])) := by
 unfold R1
 obtain ⟨w2, hw2⟩ : ∃ w2, (W.alloc (.cells #[.int .i64 k, .int .i64 n, .bool f, .slice A len cap] 24)).alloc (.cells #[.int .i64 wd, .bool b] 26) = w2 := ⟨_, rfl⟩
 obtain ⟨hq2, hs2, hc, hd⟩ := box2 hw2
 have k0 : w2.cell? ⟨W.heap.size, 0, none⟩ = some (.int .i64 k) := hc 0 _ rfl
 have k1 : w2.cell? ⟨W.heap.size, 1, none⟩ = some (.int .i64 n) := hc 1 _ rfl
 have k2 : w2.cell? ⟨W.heap.size, 2, none⟩ = some (.bool f) := hc 2 _ rfl
 have t0 : w2.cell? ⟨W.heap.size + 1, 0, none⟩ = some (.int .i64 wd) := hd 0 _ rfl
 have HW2 := hide hw2
 have HQ2 := hide hq2
 clear hw2 hc hd hq2
 subst hk hf
 obtain ⟨hn0, hn1⟩ := hn
 have RES := hide (bnd2v (wd := wd) hn0)
 have hd : decide (62 < n) = true := by simp; omega
 go_enter Try.func113, Try.ntmps113
 go_upto_region 1 with fail
 rw [HW2.out]
 go_wp2_with fail
 go_ret2
 exact ⟨by rw [RES.out] <;> rfl, HQ2.out⟩
theorem limits2s (k n : Int) (f : Bool) (A : Option Addr) (len cap : Nat) (wd : Int) (b : Bool) (hk : k = 2) (hf : f = true) (hn : 1 ≤ n ∧ n ≤ 63) (W : World) : Calls Try.prog 113 #[.agg #[.int .i64 k, .int .i64 n, .bool f, .slice A len cap], tgW wd b] W (R1 W (.tuple #[.int .i64 (bnd wd k n f).1, .int .i64 (bnd wd k n f).2])) := by
 unfold R1
 obtain ⟨w2, hw2⟩ : ∃ w2, (W.alloc (.cells #[.int .i64 k, .int .i64 n, .bool f, .slice A len cap] 24)).alloc (.cells #[.int .i64 wd, .bool b] 26) = w2 := ⟨_, rfl⟩
 obtain ⟨hq2, hs2, hc, hd⟩ := box2 hw2
 have k0 : w2.cell? ⟨W.heap.size, 0, none⟩ = some (.int .i64 k) := hc 0 _ rfl
 have k1 : w2.cell? ⟨W.heap.size, 1, none⟩ = some (.int .i64 n) := hc 1 _ rfl
 have k2 : w2.cell? ⟨W.heap.size, 2, none⟩ = some (.bool f) := hc 2 _ rfl
 have t0 : w2.cell? ⟨W.heap.size + 1, 0, none⟩ = some (.int .i64 wd) := hd 0 _ rfl
 have HW2 := hide hw2
 have HQ2 := hide hq2
 clear hw2 hc hd hq2
 obtain ⟨m, rfl⟩ : ∃ m, n = m + 1 := ⟨n - 1, by omega⟩
 subst hk hf
 obtain ⟨hn0, hn1⟩ := hn
 have hm0 : 0 ≤ m := by omega
 have hm1 : m ≤ 62 := by omega
 have RES := hide (bnd2s (wd := wd) hm1)
 have hp0 := pw_pos m
 have hp1 := pw_le (x := m) (by omega)
 obtain ⟨p, hpw⟩ : ∃ p : Int, (2 : Int) ^ (m).toNat = p := ⟨_, rfl⟩
 have hpp : pw m = p := hpw
 rw [hpp] at hp0 hp1 RES
 clear hpp
 have hd : decide (63 < m + 1) = false := by simp; omega
 go_enter Try.func113, Try.ntmps113
 go_upto_region 1 with fail
 rw [HW2.out]
 go_wp2_with fail
 go_ret2
 exact ⟨by rw [RES.out] <;> rfl, HQ2.out⟩
theorem limits2t (k n : Int) (f : Bool) (A : Option Addr) (len cap : Nat) (wd : Int) (b : Bool) (hk : k = 2) (hf : f = true) (hn : 63 < n ∧ n ≤ 64) (W : World) : Calls Try.prog 113 #[.agg #[.int .i64 k, .int .i64 n, .bool f, .slice A len cap], tgW wd b] W (R1 W (.tuple #[.int .i64 (bnd wd k n f).1, .int .i64 (bnd wd k n f).2])) := by
 unfold R1
 obtain ⟨w2, hw2⟩ : ∃ w2, (W.alloc (.cells #[.int .i64 k, .int .i64 n, .bool f, .slice A len cap] 24)).alloc (.cells #[.int .i64 wd, .bool b] 26) = w2 := ⟨_, rfl⟩
 obtain ⟨hq2, hs2, hc, hd⟩ := box2 hw2
 have k0 : w2.cell? ⟨W.heap.size, 0, none⟩ = some (.int .i64 k) := hc 0 _ rfl
 have k1 : w2.cell? ⟨W.heap.size, 1, none⟩ = some (.int .i64 n) := hc 1 _ rfl
 have k2 : w2.cell? ⟨W.heap.size, 2, none⟩ = some (.bool f) := hc 2 _ rfl
 have t0 : w2.cell? ⟨W.heap.size + 1, 0, none⟩ = some (.int .i64 wd) := hd 0 _ rfl
 have HW2 := hide hw2
 have HQ2 := hide hq2
 clear hw2 hc hd hq2
 obtain ⟨m, rfl⟩ : ∃ m, n = m + 1 := ⟨n - 1, by omega⟩
 subst hk hf
 obtain ⟨hn0, hn1⟩ := hn
 have hm0 : 62 < m := by omega
 have hm1 : m ≤ 63 := by omega
 have RES := hide (bnd2t (wd := wd) hm0)
 have hd : decide (63 < m + 1) = true := by simp; omega
 go_enter Try.func113, Try.ntmps113
 go_upto_region 1 with fail
 rw [HW2.out]
 go_wp2_with fail
 go_ret2
 exact ⟨by rw [RES.out] <;> rfl, HQ2.out⟩
theorem limits3_2 (k n : Int) (f : Bool) (A : Option Addr) (len cap : Nat) (wd : Int) (b : Bool) (hk : k = 3) (hf : f = false) (hw : wd = 2) (W : World) : Calls Try.prog 113 #[.agg #[.int .i64 k, .int .i64 n, .bool f, .slice A len cap], tgW wd b] W (R1 W (.tuple #[.int .i64 (bnd wd k n f).1, .int .i64 (bnd wd k n f).2])) := by
 unfold R1
 obtain ⟨w2, hw2⟩ : ∃ w2, (W.alloc (.cells #[.int .i64 k, .int .i64 n, .bool f, .slice A len cap] 24)).alloc (.cells #[.int .i64 wd, .bool b] 26) = w2 := ⟨_, rfl⟩
 obtain ⟨hq2, hs2, hc, hd⟩ := box2 hw2
 have k0 : w2.cell? ⟨W.heap.size, 0, none⟩ = some (.int .i64 k) := hc 0 _ rfl
 have k1 : w2.cell? ⟨W.heap.size, 1, none⟩ = some (.int .i64 n) := hc 1 _ rfl
 have k2 : w2.cell? ⟨W.heap.size, 2, none⟩ = some (.bool f) := hc 2 _ rfl
 have t0 : w2.cell? ⟨W.heap.size + 1, 0, none⟩ = some (.int .i64 wd) := hd 0 _ rfl
 have HW2 := hide hw2
 have HQ2 := hide hq2
 clear hw2 hc hd hq2
 subst hk hf hw
 have RES : Hid (bnd 2 3 n false = (0, 65535)) := hide rfl
 go_enter Try.func113, Try.ntmps113
 go_upto_region 1 with fail
 rw [HW2.out]
 go_wp2_with fail
 go_ret2
 exact ⟨by rw [RES.out] <;> rfl, HQ2.out⟩
theorem limits3_4 (k n : Int) (f : Bool) (A : Option Addr) (len cap : Nat) (wd : Int) (b : Bool) (hk : k = 3) (hf : f = false) (hw : wd = 4) (W : World) : Calls Try.prog 113 #[.agg #[.int .i64 k, .int .i64 n, .bool f, .slice A len cap], tgW wd b] W (R1 W (.tuple #[.int .i64 (bnd wd k n f).1, .int .i64 (bnd wd k n f).2])) := by
 unfold R1
 obtain ⟨w2, hw2⟩ : ∃ w2, (W.alloc (.cells #[.int .i64 k, .int .i64 n, .bool f, .slice A len cap] 24)).alloc (.cells #[.int .i64 wd, .bool b] 26) = w2 := ⟨_, rfl⟩
 obtain ⟨hq2, hs2, hc, hd⟩ := box2 hw2
 have k0 : w2.cell? ⟨W.heap.size, 0, none⟩ = some (.int .i64 k) := hc 0 _ rfl
 have k1 : w2.cell? ⟨W.heap.size, 1, none⟩ = some (.int .i64 n) := hc 1 _ rfl
 have k2 : w2.cell? ⟨W.heap.size, 2, none⟩ = some (.bool f) := hc 2 _ rfl
 have t0 : w2.cell? ⟨W.heap.size + 1, 0, none⟩ = some (.int .i64 wd) := hd 0 _ rfl
 have HW2 := hide hw2
 have HQ2 := hide hq2
 clear hw2 hc hd hq2
 subst hk hf hw
 have RES : Hid (bnd 4 3 n false = (0, 4294967295)) := hide rfl
 go_enter Try.func113, Try.ntmps113
 go_upto_region 1 with fail
 rw [HW2.out]
 go_wp2_with fail
 go_ret2
 exact ⟨by rw [RES.out] <;> rfl, HQ2.out⟩
theorem limits3_8 (k n : Int) (f : Bool) (A : Option Addr) (len cap : Nat) (wd : Int) (b : Bool) (hk : k = 3) (hf : f = false) (hw : wd = 8) (W : World) : Calls Try.prog 113 #[.agg #[.int .i64 k, .int .i64 n, .bool f, .slice A len cap], tgW wd b] W (R1 W (.tuple #[.int .i64 (bnd wd k n f).1, .int .i64 (bnd wd k n f).2])) := by
 unfold R1
 obtain ⟨w2, hw2⟩ : ∃ w2, (W.alloc (.cells #[.int .i64 k, .int .i64 n, .bool f, .slice A len cap] 24)).alloc (.cells #[.int .i64 wd, .bool b] 26) = w2 := ⟨_, rfl⟩
 obtain ⟨hq2, hs2, hc, hd⟩ := box2 hw2
 have k0 : w2.cell? ⟨W.heap.size, 0, none⟩ = some (.int .i64 k) := hc 0 _ rfl
 have k1 : w2.cell? ⟨W.heap.size, 1, none⟩ = some (.int .i64 n) := hc 1 _ rfl
 have k2 : w2.cell? ⟨W.heap.size, 2, none⟩ = some (.bool f) := hc 2 _ rfl
 have t0 : w2.cell? ⟨W.heap.size + 1, 0, none⟩ = some (.int .i64 wd) := hd 0 _ rfl
 have HW2 := hide hw2
 have HQ2 := hide hq2
 clear hw2 hc hd hq2
 subst hk hf hw
 have RES : Hid (bnd 8 3 n false = (0, 4611686018427387904)) := hide rfl
 go_enter Try.func113, Try.ntmps113
 go_upto_region 1 with fail
 rw [HW2.out]
 go_wp2_with fail
 go_ret2
 exact ⟨by rw [RES.out] <;> rfl, HQ2.out⟩
structure NumK (wd k n : Int) (f : Bool) : Prop where
 kind : k = 1 ∨ k = 2 ∨ k = 3 ∨ k = 7
 bits : k = 2 → 1 ≤ n ∧ n ≤ 64
 sign : f = true → k = 2
 most : k = 7 → 1 ≤ n ∧ n ≤ 65536
 word : okW wd
theorem numK_of {wd : Int} {k n : Int} {f : Bool} {A : Option Addr} {len cap : Nat} {ps : List Lay} (hv : VL (.mk k n f A len cap ps)) (hw : okW wd) (hk : k = 1 ∨ k = 2 ∨ k = 3 ∨ k = 7) : NumK wd k n f := by
 have h1 := hv.self
 have h2 := hv.kind.2.2.2
 unfold restL at h2
 refine ⟨hk, fun e => ?_, fun e => ?_, fun e => ?_, hw⟩
 ·subst e
  rw [if_pos (.inl rfl), decide_eq_true_eq] at h2
  exact ⟨h2, hv.len.2.1 rfl⟩
 ·have h3 := h1.1
  unfold rightL at h3
  simp only [Bool.and_eq_true] at h3
  have h4 := h3.2.2.2.1
  subst e
  by_cases hk2 : k = 2
  ·exact hk2
  ·have h5 : decide ((Lay.mk k n true A len cap ps).k ≠ 2) = true := decide_eq_true (show k ≠ 2 from hk2)
   rw [h5] at h4
   exact absurd h4 (by show ¬ (!(true && true)) = true; decide)
 ·subst e
  rw [if_pos (.inr rfl), decide_eq_true_eq] at h2
  refine ⟨h2, ?_⟩
  have h3 := h1.2
  unfold bigL mostL at h3
  simp only [Bool.or_eq_false_iff] at h3
  have h4 := h3.2.1
  simpa [Lay.n, Lay.k] using h4
theorem bounds_any (k n : Int) (f : Bool) (A : Option Addr) (len cap : Nat) {wd : Int} (b : Bool) (h : NumK wd k n f) (W : World) : Calls Try.prog 104 #[tgW wd b, .agg #[.int .i64 k, .int .i64 n, .bool f, .slice A len cap]] W (R1 W (.tuple #[.int .i64 (bnd wd k n f).1, .int .i64 (bnd wd k n f).2])) := by
 obtain ⟨hk, h2, hf, h7, hw⟩ := h
 rcases hk with h1 | hk2 | h3 | hk7
 ·exact bounds1 k n f A len cap wd b h1 W
 ·obtain ⟨x1, x2⟩ := h2 hk2
  cases f with
  | false =>
   by_cases h62 : n ≤ 62
   ·exact bounds2u k n false A len cap wd b hk2 rfl ⟨x1, h62⟩ W
   ·exact bounds2v k n false A len cap wd b hk2 rfl ⟨by omega, x2⟩ W
  | true =>
   by_cases h63 : n ≤ 63
   ·exact bounds2s k n true A len cap wd b hk2 rfl ⟨x1, h63⟩ W
   ·exact bounds2t k n true A len cap wd b hk2 rfl ⟨by omega, x2⟩ W
 ·have hff : f = false := by
   cases f with
   | false => rfl
   | true => have := hf rfl; omega
  rcases hw with hw | hw | hw
  ·exact bounds3_2 k n f A len cap wd b h3 hff hw W
  ·exact bounds3_4 k n f A len cap wd b h3 hff hw W
  ·exact bounds3_8 k n f A len cap wd b h3 hff hw W
 ·exact bounds7 k n f A len cap wd b hk7 (h7 hk7) W
theorem limits_any (k n : Int) (f : Bool) (A : Option Addr) (len cap : Nat) {wd : Int} (b : Bool) (h : NumK wd k n f) (W : World) : Calls Try.prog 113 #[.agg #[.int .i64 k, .int .i64 n, .bool f, .slice A len cap], tgW wd b] W (R1 W (.tuple #[.int .i64 (bnd wd k n f).1, .int .i64 (bnd wd k n f).2])) := by
 obtain ⟨hk, h2, hf, h7, hw⟩ := h
 rcases hk with h1 | hk2 | h3 | hk7
 ·exact limits1 k n f A len cap wd b h1 W
 ·obtain ⟨x1, x2⟩ := h2 hk2
  cases f with
  | false =>
   by_cases h62 : n ≤ 62
   ·exact limits2u k n false A len cap wd b hk2 rfl ⟨x1, h62⟩ W
   ·exact limits2v k n false A len cap wd b hk2 rfl ⟨by omega, x2⟩ W
  | true =>
   by_cases h63 : n ≤ 63
   ·exact limits2s k n true A len cap wd b hk2 rfl ⟨x1, h63⟩ W
   ·exact limits2t k n true A len cap wd b hk2 rfl ⟨by omega, x2⟩ W
 ·have hff : f = false := by
   cases f with
   | false => rfl
   | true => have := hf rfl; omega
  rcases hw with hw | hw | hw
  ·exact limits3_2 k n f A len cap wd b h3 hff hw W
  ·exact limits3_4 k n f A len cap wd b h3 hff hw W
  ·exact limits3_8 k n f A len cap wd b h3 hff hw W
 ·exact limits7 k n f A len cap wd b hk7 (h7 hk7) W
theorem isNumber_any (k n : Int) (f : Bool) (A : Option Addr) (len cap : Nat) {wd : Int} (b : Bool) (h : NumK wd k n f) (x : Int) (W : World) : Calls Try.prog 71 #[tgW wd b, .agg #[.int .i64 k, .int .i64 n, .bool f, .slice A len cap], .int .i64 x] W (R1 W (.bool (decide ((bnd wd k n f).1 ≤ x) && decide (x ≤ (bnd wd k n f).2)))) := by
 have HB := hide (bounds_any k n f A len cap b h)
 unfold R1 at HB ⊢
 obtain ⟨lo, hlo⟩ : ∃ lo, (bnd wd k n f).1 = lo := ⟨_, rfl⟩
 obtain ⟨hi, hhi⟩ : ∃ hi, (bnd wd k n f).2 = hi := ⟨_, rfl⟩
 rw [hlo, hhi] at HB ⊢
 clear h hlo hhi
 obtain ⟨w2, hw2⟩ : ∃ w2, (W.alloc (.cells #[.int .i64 wd, .bool b] 60)).alloc (.cells #[.int .i64 k, .int .i64 n, .bool f, .slice A len cap] 24) = w2 := ⟨_, rfl⟩
 obtain ⟨hq2, hs2, hd, hc⟩ := box2 hw2
 have k0 : w2.cell? ⟨W.heap.size + 1, 0, none⟩ = some (.int .i64 k) := hc 0 _ rfl
 have k1 : w2.cell? ⟨W.heap.size + 1, 1, none⟩ = some (.int .i64 n) := hc 1 _ rfl
 have k2 : w2.cell? ⟨W.heap.size + 1, 2, none⟩ = some (.bool f) := hc 2 _ rfl
 have k3 : w2.cell? ⟨W.heap.size + 1, 3, none⟩ = some (.slice A len cap) := hc 3 _ rfl
 have t0 : w2.cell? ⟨W.heap.size, 0, none⟩ = some (.int .i64 wd) := hd 0 _ rfl
 have t1 : w2.cell? ⟨W.heap.size, 1, none⟩ = some (.bool b) := hd 1 _ rfl
 have HW2 := hide hw2
 have HQ2 := hide hq2
 clear hw2 hc hd hq2
 go_enter Try.func71, Try.ntmps71
 go_upto_region 1 with fail
 rw [HW2.out]
 go_wp2_with fail
 refine (HB.out w2).mono ?_
 rintro e w3 ⟨rfl, hq3⟩
 have HQ3 := hide (HQ2.out.trans hq3)
 clear hq3 k0 k1 k2 k3 t0 t1
 by_cases h1 : lo ≤ x
 ·have d1 : decide (lo ≤ x) = true := by simp [h1]
  clear h1
  go_wp2_with fail
  go_ret
  exact ⟨by rw [d1] <;> rfl, HQ3.out⟩
 ·have d1 : decide (lo ≤ x) = false := by simp [h1]
  clear h1
  go_wp2_with fail
  go_ret
  exact ⟨by rw [d1] <;> rfl, HQ3.out⟩
def cntL (l : Lay) : Int := if l.k = 5 then l.n else l.parts.length
theorem ccount_any (k n : Int) (f : Bool) (A : Option Addr) (len cap : Nat) (W : World) : Calls Try.prog 81 #[.agg #[.int .i64 k, .int .i64 n, .bool f, .slice A len cap]] W (R1 W (.int .i64 (if k = 5 then n else (len : Int)))) := by
 unfold R1
 obtain ⟨w1, hw1⟩ : ∃ w1, W.alloc (.cells #[.int .i64 k, .int .i64 n, .bool f, .slice A len cap] 24) = w1 := ⟨_, rfl⟩
 obtain ⟨hq1, hs1, hc⟩ := box1 hw1
 have k0 : w1.cell? ⟨W.heap.size, 0, none⟩ = some (.int .i64 k) := hc 0 _ rfl
 have k1 : w1.cell? ⟨W.heap.size, 1, none⟩ = some (.int .i64 n) := hc 1 _ rfl
 have k3 : w1.cell? ⟨W.heap.size, 3, none⟩ = some (.slice A len cap) := hc 3 _ rfl
 have HW1 := hide hw1
 have HQ1 := hide hq1
 clear hw1 hc hq1
 by_cases h5 : k = 5
 ·rw [if_pos h5]
  have d5 : (k == 5) = true := by simp [h5]
  clear h5
  go_enter Try.func81, Try.ntmps81
  go_upto_region 1 with fail
  rw [HW1.out]
  go_wp2_with fail
  go_ret
  exact ⟨rfl, HQ1.out⟩
 ·rw [if_neg h5]
  have d5 : (k == 5) = false := by simp [h5]
  clear h5
  go_enter Try.func81, Try.ntmps81
  go_upto_region 1 with fail
  rw [HW1.out]
  go_wp2_with fail
  go_ret
  exact ⟨rfl, HQ1.out⟩
def Cel.und : Cel → Bool
 | .mk _ _ u _ _ _ _ => u
def prtL (l : Lay) (j : Nat) : Lay := (l.parts[min j (l.parts.length - 1)]?).getD noL
def areC (l : Lay) (fs : List (Lay → Bool)) (us : List Bool) : Bool := ((fs.length : Int) == cntL l) && (List.range fs.length).all fun j => ((fs[j]?).getD (fun _ => false)) (prtL l j) && !((l.k == 9) && (us[j]?).getD false)
def cellC (wd : Int) (l : Lay) (n : Int) (nul und : Bool) (fs : List (Lay → Bool)) (us : List Bool) : Bool :=
 if und = true then (n == 0) && (!nul && (((fs.length : Int) == 0) && l.hasB wd))
 else if nul = true then (l.k == 4) && ((n == 0) && ((fs.length : Int) == 0))
 else if l.k = 0 then (n == 0) && ((fs.length : Int) == 0)
 else if l.k = 4 then (n == 0) && (((fs.length : Int) == 1) && (fs.headD fun _ => false) ((l.parts[0]?).getD noL))
 else if l.k = 8 then decide (0 ≤ n) && (decide (n < (l.parts.length : Int)) && (((fs.length : Int) == 1) && (fs.headD fun _ => false) ((l.parts[n.toNat]?).getD noL)))
 else if l.k = 5 ∨ l.k = 6 ∨ l.k = 9 then (n == 0) && areC l fs us
 else ((fs.length : Int) == 0) && (decide ((bnd wd l.k l.n l.f).1 ≤ n) && decide (n ≤ (bnd wd l.k l.n l.f).2))
def Cel.isC (wd : Int) : Cel → Lay → Bool
 | .mk n nul und _ _ _ qs => fun l => cellC wd l n nul und (qs.attach.map fun q => Cel.isC wd q.1) (qs.map Cel.und)
termination_by c => SizeOf.sizeOf c
decreasing_by
 have := List.sizeOf_lt_of_mem q.2
 simp
 omega
theorem isC_mk (wd n : Int) (nul und : Bool) (A : Option Addr) (len cap : Nat) (qs : List Cel) (l : Lay) : (Cel.mk n nul und A len cap qs).isC wd l = cellC wd l n nul und (qs.map (Cel.isC wd)) (qs.map Cel.und) := by
 rw [Cel.isC, attach_map']
theorem all_range_succ (f : Nat → Bool) (j : Nat) : (List.range (j + 1)).all f = ((List.range j).all f && f j) := by
 rw [List.range_succ, List.all_append]
 simp
theorem all_range_no {f : Nat → Bool} {m j : Nat} (hj : j < m) (h : f j = false) : (List.range m).all f = false := by
 rw [List.all_eq_false]
 exact ⟨j, List.mem_range.2 hj, by simp [h]⟩
theorem areCells_any {w : World} {k n : Int} {f : Bool} {A : Option Addr} {len cap : Nat} {ps : List Lay} (hl : LayR w (.mk k n f A len cap ps)) (h1 : k = 5 → len = 1) (wd : Int) (b : Bool) {A2 : Option Addr} {n2 c2 : Nat} {qs : List Cel} (hq2 : Sl 4 encC w A2 n2 c2 qs) (hn2 : n2 ≤ 140737488351232) (ih : ∀ q ∈ qs, ∀ p ∈ ps, ∀ W, Q w W → Calls Try.prog 45 #[tgW wd b, p.v, q.v] W (R1 W (.bool (q.isC wd p)))) : ∀ W, Q w W → Calls Try.prog 70 #[tgW wd b, .agg #[.int .i64 k, .int .i64 n, .bool f, .slice A len cap], .slice A2 n2 c2] W (R1 W (.bool (areC (.mk k n f A len cap ps) (qs.map (Cel.isC wd)) (qs.map Cel.und)))) := by
 intro W hqW
 unfold R1
 have HSL : Hid (Sl 4 encL w A len cap ps) := by cases hl with | @mk _ _ _ _ _ _ _ hk hn hsl hnil hcap hall => exact hide hsl
 have hlb : (len : Int) ≤ 140737488351232 := by cases hl with | @mk _ _ _ _ _ _ _ hk hn hsl hnil hcap hall => omega
 have hpl := HSL.out.len
 have hql := hq2.len
 have HSQ := hide hq2
 have HIH := hide ih
 have HQW := hide hqW
 have HCT := hide (ccount_any k n f A len cap)
 unfold R1 at HCT
 obtain ⟨ct, hct⟩ : ∃ ct, (if k = 5 then n else (len : Int)) = ct := ⟨_, rfl⟩
 rw [hct] at HCT
 obtain ⟨F, hF⟩ : ∃ F : Nat → Bool, F = fun j => (((qs.map (Cel.isC wd))[j]?).getD (fun _ => false)) (prtL (.mk k n f A len cap ps) j) && !((k == 9) && ((qs.map Cel.und)[j]?).getD false) := ⟨_, rfl⟩
 have HRES : Hid (areC (.mk k n f A len cap ps) (qs.map (Cel.isC wd)) (qs.map Cel.und) = (((n2 : Int) == ct) && (List.range n2).all F)) := hide (by
  unfold areC
  have e1 : cntL (.mk k n f A len cap ps) = ct := by
   rw [← hct]
   unfold cntL
   show (if k = 5 then n else (ps.length : Int)) = _
   rw [hpl]
  rw [e1, List.length_map, hql, hF]
  rfl)
 have HSTEP : Hid (∀ (j : Nat) (q : Cel) (p : Lay), qs[j]? = some q → prtL (.mk k n f A len cap ps) j = p → F j = (q.isC wd p && !((k == 9) && q.und))) := hide (fun j q p hq hp => by
  rw [hF]
  dsimp only
  rw [List.getElem?_map, List.getElem?_map, hq, hp]
  rfl)
 have HLEN : Hid ((n2 : Int) = ct → (k = 5 → len = 1) ∧ (k ≠ 5 → len = n2)) := hide (fun h => ⟨h1, fun h5 => by rw [if_neg h5] at hct; omega⟩)
 have HPL := hide hpl
 obtain ⟨w2, hw2⟩ : ∃ w2, (W.alloc (.cells #[.int .i64 wd, .bool b] 60)).alloc (.cells #[.int .i64 k, .int .i64 n, .bool f, .slice A len cap] 24) = w2 := ⟨_, rfl⟩
 obtain ⟨hqq, hs2, hd, hc⟩ := box2 hw2
 have hb0 : W.heap.size < w2.heap.size := by omega
 have hb1 : W.heap.size + 1 < w2.heap.size := by omega
 have KA := hide fun X (hX : Q w2 X) => (cs42 hX hb1 hc hb0 hd : Cs42 X (W.heap.size + 1) (.int .i64 k) (.int .i64 n) (.bool f) (.slice A len cap) W.heap.size (.int .i64 wd) (.bool b))
 have HW2 := hide hw2
 have HQ2 := hide hqq
 have HWQ := hide (hqW.trans hqq)
 obtain ⟨e2, he2⟩ : ∃ e2, ((n2 : Int) == ct) = e2 := ⟨_, rfl⟩
 have HE2 := hide he2
 have hne : ((n2 : Int) != ct) = !e2 := by rw [← he2]; rfl
 clear hl h1 hq2 ih hqW hpl hql hct hF hw2 hd hc hqq he2
 obtain ⟨k0, k1, k2, k3, t0, t1⟩ := KA.out w2 (Q.refl _)
 go_enter Try.func70, Try.ntmps70
 go_upto_region 1 with fail
 rw [HW2.out]
 go_wp2_with fail
 refine (HCT.out w2).mono ?_
 rintro e w3 ⟨rfl, hq3⟩
 have Q23 := hide hq3
 clear hq3 k0 k1 k2 k3 t0 t1
 cases e2 with
 | false =>
  go_wp2_with fail
  go_ret
  exact ⟨by rw [HRES.out, HE2.out] <;> rfl, HQ2.out.trans Q23.out⟩
 | true =>
  have hn2c : (n2 : Int) = ct := by have := HE2.out; simpa using this
  obtain ⟨hL1, hL2⟩ := HLEN.out hn2c
  have HL1 := hide hL1
  have HL2 := hide hL2
  clear hn2c hL1 hL2
  go_wp2_with fail
  go_loopw [17] (fun vi wr => ∃ j : Nat, j ≤ n2 ∧ vi = .int .i64 j ∧ (List.range j).all F = true ∧ Q w2 wr) (fun vi _ => n2 - (intOf vi).toNat)
  case atStart => exact ⟨0, by omega, by go_num, by simp, Q23.out⟩
  case round =>
   obtain ⟨j, hj, rfl, hall, hq⟩ := hrel
   have HQ := hide hq
   have HALL := hide hall
   by_cases hlt9 : j < n2
   ·have hd1 : decide ((j : Int) < (n2 : Int)) = true := by simp; omega
    have hd0 : decide (j < n2) = true := by simp; omega
    have hlti : (j : Int) < (n2 : Int) := by omega
    obtain ⟨g, o, m', x', y', B, l', d', qq, e, hb, hx, z0, z1, z2, z3⟩ := cel_at (HSQ.out.up (HWQ.out.trans hq)) hlt9
    cases e
    obtain ⟨q, hqe⟩ : ∃ q, Cel.mk m' x' y' B l' d' qq = q := ⟨_, rfl⟩
    have hqv : q.v = .agg #[.int .i64 m', .bool x', .bool y', .slice B l' d'] := by rw [← hqe]; rfl
    have hqu : q.und = y' := by rw [← hqe]; rfl
    rw [hqe] at hx
    have hi : ∃ i : Nat, min j (len - 1) = i ∧ i < len ∧ min (j : Int) ((len : Int) - 1) = (i : Int) := by
     refine ⟨min j (len - 1), rfl, ?_, ?_⟩
     ·by_cases h5 : k = 5
      ·have := HL1.out h5; omega
      ·have := HL2.out h5; omega
     ·by_cases h5 : k = 5
      ·have := HL1.out h5; omega
      ·have := HL2.out h5; omega
    obtain ⟨i, hi1, hi2, hi3⟩ := hi
    obtain ⟨g2, o2, m2, x2, y2, B2, l2, d2, qs2, e, hb2, hx2, v0, v1, v2, v3⟩ := lay_at (HSL.out.up (HWQ.out.trans hq)) hi2
    cases e
    obtain ⟨p, hpe⟩ : ∃ p, Lay.mk m2 x2 y2 B2 l2 d2 qs2 = p := ⟨_, rfl⟩
    have hpv : p.v = .agg #[.int .i64 m2, .int .i64 x2, .bool y2, .slice B2 l2 d2] := by rw [← hpe]; rfl
    rw [hpe] at hx2
    have hprt : prtL (.mk k n f (some ⟨g2, o2, none⟩) len cap ps) j = p := by
     unfold prtL
     show (ps[min j (ps.length - 1)]?).getD noL = p
     rw [HPL.out, hi1, hx2]
     rfl
    have HFJ := hide (HSTEP.out j q p hx hprt)
    have HIP := hide (HIH.out q (List.mem_of_getElem? hx) p (List.mem_of_getElem? hx2))
    obtain ⟨r, hr⟩ : ∃ r, q.isC wd p = r := ⟨_, rfl⟩
    rw [hqv, hpv, hr] at HIP
    unfold R1 at HIP
    rw [hr, hqu] at HFJ
    obtain ⟨w4, hw4⟩ : ∃ w4, wr.alloc (.cells #[.int .i64 m', .bool x', .bool y', .slice B l' d'] 31) = w4 := ⟨_, rfl⟩
    obtain ⟨hq4, hs4, hc4⟩ := box1 hw4
    have hbc : wr.heap.size < w4.heap.size := by omega
    obtain ⟨w5, hw5⟩ : ∃ w5, w4.alloc (.cells #[.int .i64 m2, .int .i64 x2, .bool y2, .slice B2 l2 d2] 24) = w5 := ⟨_, rfl⟩
    obtain ⟨hq5, hs5, hc5⟩ := box1 hw5
    have KC := hide fun X (hX : Q w4 X) => (cs4 hX hbc hc4 : Cs4 X wr.heap.size (.int .i64 m') (.bool x') (.bool y') (.slice B l' d'))
    have u0 := (hq4.facts.1 _ _ hb2).trans v0
    have u1 := (hq4.facts.1 _ _ hb2).trans v1
    have u2 := (hq4.facts.1 _ _ hb2).trans v2
    have u3 := (hq4.facts.1 _ _ hb2).trans v3
    have b0 := hc5 0 _ rfl
    rw [hs4] at b0
    have b1 := hc5 1 _ rfl
    rw [hs4] at b1
    have b2 := hc5 2 _ rfl
    rw [hs4] at b2
    have b3 := hc5 3 _ rfl
    rw [hs4] at b3
    have HW4 := hide hw4
    have HW5 := hide hw5
    have Q24 := hide (hq.trans hq4)
    have Q45 := hide hq5
    have HI3 := hide hi3
    clear hq hall hx hqe hqv hqu hi1 hx2 hpe hpv hprt hr hw4 hw5 hc4 hc5 hq4 hq5 v0 v1 v2 v3 hi3 hb hb2
    go_upto_region 6 with fail
    rw [HW4.out]
    have hi3 := HI3.out
    clear z0 z1 z2 z3
    obtain ⟨k0, k1, k2, k3, t0, t1⟩ := KA.out w4 Q24.out
    go_upto_region 7 with fail
    rw [HW5.out]
    clear k0 k1 k2 k3 t0 t1 u0 u1 u2 u3 hi3
    obtain ⟨k0, k1, k2, k3, t0, t1⟩ := KA.out w5 (Q24.out.trans Q45.out)
    obtain ⟨c0, c1, c2, c3⟩ := KC.out w5 Q45.out
    go_wp2_with fail
    refine (HIP.out w5 (HWQ.out.trans (Q24.out.trans Q45.out))).mono ?_
    rintro e w6 ⟨rfl, hq6⟩
    have Q26 := hide (Q24.out.trans (Q45.out.trans hq6))
    have Q46 := hide (Q45.out.trans hq6)
    clear hq6 k0 k1 k2 k3 t0 t1 c0 c1 c2 c3 b0 b1 b2 b3
    obtain ⟨k0, k1, k2, k3, t0, t1⟩ := KA.out w6 Q26.out
    obtain ⟨c0, c1, c2, c3⟩ := KC.out w6 Q46.out
    have HBAD : Hid (F j = false → areC (.mk k n f (some ⟨g2, o2, none⟩) len cap ps) (qs.map (Cel.isC wd)) (qs.map Cel.und) = false) := hide (fun h => by rw [HRES.out, HE2.out, all_range_no hlt9 h]; rfl)
    cases r with
    | false =>
     have HB := hide (HBAD.out (by rw [HFJ.out]; rfl))
     go_wp2_with fail
     go_ret
     exact ⟨by rw [HB.out] <;> rfl, HQ2.out.trans Q26.out⟩
    | true =>
     obtain ⟨e9, he9⟩ : ∃ e9, (k == 9) = e9 := ⟨_, rfl⟩
     rw [he9] at HFJ
     cases e9 with
     | false =>
      have HNX := hide (show (List.range (j + 1)).all F = true by rw [all_range_succ, HALL.out, HFJ.out]; rfl)
      go_wp2_with fail
      go_roundw
      case rel => exact ⟨j + 1, by omega, by go_num, HNX.out, Q26.out⟩
      case measure => simp [intOf] <;> omega
     | true =>
      cases y' with
      | true =>
       have HB := hide (HBAD.out (by rw [HFJ.out]; rfl))
       go_wp2_with fail
       go_ret
       exact ⟨by rw [HB.out] <;> rfl, HQ2.out.trans Q26.out⟩
      | false =>
       have HNX := hide (show (List.range (j + 1)).all F = true by rw [all_range_succ, HALL.out, HFJ.out]; rfl)
       go_wp2_with fail
       go_roundw
       case rel => exact ⟨j + 1, by omega, by go_num, HNX.out, Q26.out⟩
       case measure => simp [intOf] <;> omega
   ·have hd1 : decide ((j : Int) < (n2 : Int)) = false := by simp; omega
    have hd0 : decide (j < n2) = false := by simp; omega
    obtain rfl : j = n2 := by omega
    clear hq hall
    go_wp2_with fail
    go_ret
    exact ⟨by rw [HRES.out, HE2.out, HALL.out] <;> rfl, HQ2.out.trans HQ.out⟩
end Go.Proofs.Ytbgbalfhbficaaa
