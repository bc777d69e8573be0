/- own of the reference. Conditions: as each theorem says. -/
import Derived.Test.YtbgbalfhbficaaaCz11
import Derived.Test.YtbgbalfhbficaaaCz10
namespace Go.Proofs.Ytbgbalfhbficaaa
set_option maxRecDepth 100000
set_option maxHeartbeats 2000000
open Go.RowKit
set_option linter.unusedVariables false
set_option linter.unusedSimpArgs false
theorem CW.set1 {k : Nat} {W w2 : World} {g i : Nat} {cur nxt : List Bool} {v : Bool} {S : Nat → Bool} {f : Nat → Value} {X : World} (h : CW k W w2 g 4 (boolA cur) (boolA nxt) S f X) (hS : S k = false) (hg : W.heap.size ≤ g) (hn : nxt = cur.set i v) (u : Value) : CW k W w2 g 4 (boolA cur) (boolA nxt) (Ri.upd S k true) (Ri.upd f k u) (X.setCell ⟨g, i, none⟩ (.bool v)) := by
 have h4 := h.2.2.2
 rw [hS, if_neg (by decide)] at h4
 rw [set_boolA h4, ← hn]
 exact h.store hg u
def PoP (B m : Nat) (o : List Bool) (v : Value) (X : World) : Prop := ∃ gO, v = .slice (some ⟨gO, 0, none⟩) m m ∧ B ≤ gO ∧ X.heap[gO]? = some (.cells (boolA o) 4 (0, 0))
theorem po_mono (B m : Nat) (o : List Bool) : Ri.Mono (PoP B m o) := fun v w1 w2 ⟨gO, e, h1, h2⟩ hq => ⟨gO, e, h1, blk_q h2 hq⟩
theorem st_of_lt {l : Lay} {j : Nat} (h : j < numP l) : stE l (j : Int) = 0 := by
 unfold stE
 by_cases hk : l.k = 4 ∨ l.k = 5 ∨ l.k = 6 ∨ l.k = 8
 ·rw [if_pos hk, if_neg (by omega)]
 ·exfalso
  unfold numP at h
  rw [if_neg (by omega), if_neg (by omega), if_neg (by omega)] at h
  omega
theorem own_sc {l : Lay} {wd : Int} (hs : isSc l.k = true) : l.own wd = List.replicate (szL wd l).toNat true := by
 cases l with
 | mk k n f A len cap ps =>
  rw [own_mk']
  unfold ownC
  rw [if_pos hs]
structure OwnI (wd : Int) (l : Lay) (B g gp np cp gO m : Nat) (o : List Bool) (X : World) : Prop where
 pl : X.ownsRow B 107 5 (.slice (some ⟨gp, 0, none⟩) np cp) np (rowsP wd l np)
 ow : X.heap[gO]? = some (.cells (boolA o) 4 (0, 0))
 pg : g ≠ gp
 og : g ≠ gO
theorem OwnI.move {wd : Int} {l : Lay} {B g gp np cp gO m : Nat} {o : List Bool} {X Y : World} (h : OwnI wd l B g gp np cp gO m o X) (hb : ∀ i, i < X.heap.size → i ≠ g → Y.heap[i]? = X.heap[i]?) (hs : X.heap.size ≤ Y.heap.size) : OwnI wd l B g gp np cp gO m o Y := by
 obtain ⟨h1, h2, h3, h4⟩ := h
 refine ⟨?_, (hb gO (Array.getElem?_eq_some_iff.1 h2).1 (Ne.symm h4)).trans h2, h3, h4⟩
 obtain ⟨x1, x2⟩ := h1
 refine ⟨x1, ?_⟩
 rcases x2 with x2 | ⟨g', cap, cur, e, x3, x4, x5⟩
 ·exact .inl x2
 ·injection e with e e2 e3
  injection e with e
  injection e with e
  subst e e3
  exact .inr ⟨gp, cp, cur, rfl, x3, (hb gp (Array.getElem?_eq_some_iff.1 x4).1 (Ne.symm h3)).trans x4, x5⟩
theorem rown_any {w : World} {l : Lay} (h : LayR w l) (wd : Int) (b : Bool) : l.count ≤ 1048576 → Okw wd l → ∀ W, Q w W → Calls Try.prog 127 #[l.v, tgW wd b] W (OwnP W (l.own wd)) := by
 induction h with
 | @mk k n f A len cap ps a1 a2 a3 a4 a5 a6 ih =>
  intro hc ho W hqW
  obtain ⟨l, hl⟩ : ∃ l, Lay.mk k n f A len cap ps = l := ⟨_, rfl⟩
  have hLR : LayR w l := by rw [← hl]; exact .mk a1 a2 a3 a4 a5 a6
  have hps : l.parts = ps := by rw [← hl]; rfl
  have hlk : l.k = k := by rw [← hl]; rfl
  have hlv : l.v = .agg #[.int .i64 k, .int .i64 n, .bool f, .slice A len cap] := by rw [← hl]; rfl
  rw [hl] at hc ho ⊢
  rw [hlv]
  clear hl
  have HLV := hide hlv
  have H := hide hLR
  have HO := hide ho
  have HIH : Hid (∀ p ∈ l.parts, p.count ≤ 1048576 → Okw wd p → ∀ W, Q w W → Calls Try.prog 127 #[p.v, tgW wd b] W (OwnP W (p.own wd))) := hide (by rw [hps]; exact ih)
  have hszb := szL_bd hLR wd
  obtain ⟨N, hN⟩ : ∃ N : Nat, szL wd l = N := ⟨(szL wd l).toNat, by omega⟩
  have HNN := hide hN
  have hN4 : N ≤ 4096 := by omega
  obtain ⟨w2, hw2⟩ : ∃ w2, (W.alloc (.cells #[.int .i64 k, .int .i64 n, .bool f, .slice A len cap] 24)).alloc (.cells #[.int .i64 wd, .bool b] 26) = w2 := ⟨_, rfl⟩
  obtain ⟨hq2, hs2, hc2, hd2⟩ := box2 hw2
  have hb0 : W.heap.size < w2.heap.size := by omega
  have hb1 : W.heap.size + 1 < w2.heap.size := by omega
  have KA := hide fun X (hX : Q w2 X) => (cs42 hX hb0 hc2 hb1 hd2 : Cs42 X W.heap.size (.int .i64 k) (.int .i64 n) (.bool f) (.slice A len cap) (W.heap.size + 1) (.int .i64 wd) (.bool b))
  have HSZ := hide (rsize_any hLR hc wd b)
  rw [hlv, hN] at HSZ
  unfold R1 at HSZ
  have HBY := hide (hasByte_any k n f A len cap)
  have HSC := hide (isScalar_any k n f A len cap)
  unfold R1 at HBY HSC
  have HLEN := hide (len_own wd l)
  rw [hN, Int.toNat_natCast] at HLEN
  have HW2 := hide hw2
  have HWQ := hide (hqW.trans hq2)
  have HQ2 := hide hq2
  obtain ⟨sc, hsc⟩ : ∃ sc, isSc k = sc := ⟨_, rfl⟩
  rw [hsc] at HSC
  have HKS := hide (show isSc l.k = sc by rw [hlk, hsc])
  have HLK := hide hlk
  clear a1 a2 a3 a4 a5 a6 ih hLR hps hlv hqW hw2 hc2 hd2 hq2 hszb hN hsc hlk
  obtain ⟨k0, k1, k2, k3, t0, t1⟩ := KA.out w2 (Q.refl _)
  go_enter Try.func127, Try.ntmps127
  go_upto_region 1 with fail
  rw [HW2.out]
  go_wp2_with fail
  refine (HSZ.out w2 HWQ.out).mono ?_
  rintro e w3 ⟨rfl, hq3⟩
  have Q23 := hide hq3
  clear hq3 k0 k1 k2 k3 t0 t1
  obtain ⟨k0, k1, k2, k3, t0, t1⟩ := KA.out w3 Q23.out
  have hs23 := Q23.out.size
  go_upto_region 2 with (at_make; refine wpList_mk rfl _ _ rfl Try.underlying154 (show (Try.prog.info? 4).map (fun i => (i.zero, i.size, i.bytes)) = some (some (.bool false), 1, 1) by kernel_rfl) rfl w3.heap.size (n := N) rfl rfl rfl rfl ?_ ?_ ?_ ?_; (focus omega); (focus omega); (focus exact Nat.le_refl _); intro w4 hown4 hq4 hlt4; have HOW4 := hide hown4; have HQ4 := hide hq4; clear hown4 hq4)
  have hgw2 : w2.heap.size ≤ w3.heap.size := hs23
  obtain ⟨g, hg⟩ : ∃ g, w3.heap.size = g := ⟨_, rfl⟩
  rw [hg] at HOW4 hgw2 ⊢
  have HG4 : Hid (w4.heap[g]? = some (.cells (boolA (List.replicate N false)) 4 (0, 0))) := hide (by
   have h9 := own_whole HOW4.out
   rw [h9]
   unfold boolA
   rw [List.map_replicate])
  have HGW := hide hgw2
  have hgW : W.heap.size ≤ g := by omega
  have HGWW := hide hgW
  have Q24 := hide (Q23.out.trans HQ4.out)
  clear HOW4 hg hs23 hlt4 k0 k1 k2 k3 t0 t1
  obtain ⟨k0, k1, k2, k3, t0, t1⟩ := KA.out w4 Q24.out
  go_wp2_with fail
  refine (HSC.out w4).mono ?_
  rintro e w5 ⟨rfl, hq5⟩
  have Q25 := hide (Q24.out.trans hq5)
  have HG5 := hide (blk_q HG4.out hq5)
  clear hq5 k0 k1 k2 k3 t0 t1
  cases sc with
  | true =>
   go_wp2_with fail
   go_loopw [6] (fun vi wr => ∃ q : Nat, q ≤ N ∧ vi = .int .i64 q ∧ wr.heap[g]? = some (.cells (boolA (List.replicate q true ++ List.replicate (N - q) false)) 4 (0, 0)) ∧ Q w2 wr) (fun vi _ => N - (intOf vi).toNat)
   case atStart => exact ⟨0, by omega, by go_num, by simpa using HG5.out, Q25.out⟩
   case round =>
    obtain ⟨q, hqN, rfl, hgq, hq⟩ := hrel
    have HQ := hide hq
    have HGQ := hide hgq
    by_cases hlt9 : q < N
    ·have hd1 : decide ((q : Int) < (N : Int)) = true := by simp; omega
     have hd0 : decide (q < N) = true := by simp; omega
     have hlti : (q : Int) < (N : Int) := by omega
     have c0 : wr.cell? ⟨g, q, none⟩ = some (.bool ((List.replicate q true ++ List.replicate (N - q) false).getD q false)) := cell_blkJ hgq (boolA_get (by simp; omega))
     have f0 : wr.frozen? ⟨g, q, none⟩ = false := frz_new (j := q) hgq
     have hnx := blk_set (j := q) hgq (.bool true)
     rw [boolA_set, rep_set N q hlt9] at hnx
     have HNX := hide hnx
     have HQS := hide (hq.set (p := ⟨g, q, none⟩) HGW.out (.bool true))
     clear hq hgq hnx
     go_wp2_with fail
     go_roundw
     case rel => exact ⟨q + 1, by omega, by go_num, HNX.out, HQS.out⟩
     case measure => simp [intOf] <;> omega
    ·have hd1 : decide ((q : Int) < (N : Int)) = false := by simp; omega
     have hd0 : decide (q < N) = false := by simp; omega
     obtain rfl : q = N := by omega
     clear hq hgq
     go_wp2_with fail
     go_ret
     have hown : l.own wd = List.replicate q true := by
      have h9 := own_sc (wd := wd) HKS.out
      rw [HNN.out, Int.toNat_natCast] at h9
      exact h9
     refine ⟨g, by rw [HLEN.out] <;> rfl, HGWW.out, ?_, HQ2.out.trans HQ.out⟩
     rw [hown]
     simpa using HGQ.out
  | false =>
   have HALL := hide (own_all H.out HO.out HKS.out)
   have hks := HKS.out
   obtain ⟨np, hnp⟩ : ∃ np, numP l = np := ⟨_, rfl⟩
   have HNP := hide hnp
   have HPL := hide (places_any H.out hc wd b HO.out)
   rw [HLV.out, hnp] at HPL
   obtain ⟨hb, hhb⟩ : ∃ hb, hbK k = hb := ⟨_, rfl⟩
   rw [hhb] at HBY
   have HHB := hide hhb
   clear hks hnp hhb
   obtain ⟨k0, k1, k2, k3, t0, t1⟩ := KA.out w5 Q25.out
   go_wp2_with fail
   refine (HBY.out w5).mono ?_
   rintro e w6 ⟨rfl, hq6⟩
   have Q26 := hide (Q25.out.trans hq6)
   have HG6 := hide (blk_q HG5.out hq6)
   clear hq6 k0 k1 k2 k3 t0 t1
   obtain ⟨k0, k1, k2, k3, t0, t1⟩ := KA.out w6 Q26.out
   cases hb with
   | true =>
    have hk48 : l.k = 4 ∨ l.k = 8 := by
     rw [HLK.out]
     have h9 := HHB.out
     unfold hbK at h9
     simpa using h9
    have hbf := beh_fits H.out HO.out hk48
    have hbn := beh_nn wd l
    rw [HNN.out] at hbf
    obtain ⟨bN, hbN⟩ : ∃ bN : Nat, behL wd l = bN := ⟨(behL wd l).toNat, by omega⟩
    rw [hbN] at hbf
    have hblt : bN < N := by omega
    have HBH := hide (rbehind_any H.out hc wd b)
    rw [HLV.out, hbN] at HBH
    unfold R1 at HBH
    have HB0 : Hid (ownTo wd l 0 = (List.replicate N false).set bN true) := hide (by
     show ownB wd l = _
     unfold ownB
     rw [if_pos hk48, HNN.out, hbN, Int.toNat_natCast, Int.toNat_natCast])
    clear hk48 hbn hbN hbf
    have hbi : (bN : Int) < (N : Int) := by omega
    go_wp2_with fail
    refine (HBH.out w6 (HWQ.out.trans Q26.out)).mono ?_
    rintro e w7 ⟨rfl, hq7⟩
    have Q27 := hide (Q26.out.trans hq7)
    have hg7 := blk_q HG6.out hq7
    have c0 : w7.cell? ⟨g, bN, none⟩ = some (.bool ((List.replicate N false).getD bN false)) := cell_blkJ hg7 (boolA_get (by simp; omega))
    have f0 : w7.frozen? ⟨g, bN, none⟩ = false := frz_new (j := bN) hg7
    have hnx := blk_set (j := bN) hg7 (.bool true)
    rw [boolA_set, ← HB0.out] at hnx
    obtain ⟨wb, hwb⟩ : ∃ wb, w7.setCell ⟨g, bN, none⟩ (.bool true) = wb := ⟨_, rfl⟩
    rw [hwb] at hnx
    have HGB := hide hnx
    have HWB := hide hwb
    have HQB := hide (show Q w2 wb by rw [← hwb]; exact Q27.out.set (p := ⟨g, bN, none⟩) HGW.out (.bool true))
    clear hq7 k0 k1 k2 k3 t0 t1 hg7 hnx hwb
    obtain ⟨k0, k1, k2, k3, t0, t1⟩ := KA.out wb HQB.out
    go_upto_region 10 with fail
    rw [HWB.out]
    clear c0 f0
    clear HB0
    go_wp2_with fail
    refine (HPL.out wb (HWQ.out.trans HQB.out)).mono ?_
    rintro e w8 ⟨vp, rfl, hop, hq8⟩
    have Q28 := hide (HQB.out.trans hq8)
    have HG8 := hide (blk_q HGB.out hq8)
    have HOP8 := hide hop
    have hgb : g < wb.heap.size := (Array.getElem?_eq_some_iff.1 HGB.out).1
    have HGBL := hide hgb
    obtain ⟨B, hB⟩ : ∃ B, wb.heap.size = B := ⟨_, rfl⟩
    rw [hB] at HOP8 HGBL
    clear hq8 hop k0 k1 k2 k3 t0 t1 hgb hB
    have hnpm : np ≤ 9223372036854775807 := by
     obtain ⟨A0, c0, -, h1, h2, -⟩ := own_form HOP8.out
     unfold maxLen at h2
     omega
    go_wp2_with fail
    go_loopw [8] (fun vi wr => ∃ j : Nat, j ≤ np ∧ vi = .int .i64 j ∧ wr.heap[g]? = some (.cells (boolA (ownTo wd l j)) 4 (0, 0)) ∧ wr.ownsRow B 107 5 vp np (rowsP wd l np) ∧ Q w2 wr) (fun vi _ => np - (intOf vi).toNat)
    case atStart => exact ⟨0, by omega, by go_num, HG8.out, HOP8.out, Q28.out⟩
    case round =>
     obtain ⟨j, hj, rfl, hgj, hown, hq⟩ := hrel
     have HQ := hide hq
     have HGJ := hide hgj
     have HOWN := hide hown
     obtain ⟨Ap, cp0, hvp0, hnc0, -⟩ := own_form hown
     by_cases hlt9 : j < np
     ·have hd1 : decide ((j : Int) < (np : Int)) = true := by simp; omega
      have hd0 : decide (j < np) = true := by simp; omega
      have hlti : (j : Int) < (np : Int) := by omega
      have hst : stE l (j : Int) = 0 := st_of_lt (by rw [HNP.out]; exact hlt9)
      obtain ⟨j', ej, hpm, -, -⟩ := sub_mem HO.out hst
      obtain rfl : j = j' := by omega
      obtain ⟨so1, so2, so3⟩ := step_okw H.out HO.out hst
      rw [show stL l (j : Int) = subL l j by unfold stL; rw [if_pos hst, Int.toNat_natCast]] at so1 so2 so3
      obtain ⟨f1, f2, f3⟩ := at_fits H.out HO.out hst
      rw [HNN.out] at f3
      obtain ⟨aN, haN⟩ : ∃ aN : Nat, atL wd l j = aN := ⟨(atL wd l j).toNat, by omega⟩
      obtain ⟨p, hp⟩ : ∃ p, subL l j = p := ⟨_, rfl⟩
      rw [hp] at hpm so1 so2 so3 f2 f3
      obtain ⟨o, ho9⟩ : ∃ o, p.own wd = o := ⟨_, rfl⟩
      obtain ⟨m, hm⟩ : ∃ m, o.length = m := ⟨_, rfl⟩
      have hmz : (m : Int) = szL wd p := by rw [← hm, ← ho9, len_own]; omega
      have hfit : aN + m ≤ N := by omega
      have hm4 : m ≤ 4096 := by omega
      have HOP := hide (HIH.out p hpm (by omega) so1)
      obtain ⟨k9, n9, f9, A9, l9, d9, hv9, he9⟩ := enc_v p
      rw [hv9, ho9] at HOP
      unfold OwnP at HOP
      have HOL := hide hm
      obtain ⟨gp, cp, rfl, -, hgp, -, -, hgc, -⟩ := own_at hown (by omega)
      have hpl : plcC wd l j = [.int .i64 aN, .int .i64 k9, .int .i64 n9, .bool f9, .slice A9 l9 d9] := by unfold plcC; rw [haN, hp, he9]
      have hcell : ∀ X : World, (∀ (i : Nat) u, (rowsP wd l np)[i]? = some u → X.cell? ⟨gp, i, none⟩ = some u) → X.cell? ⟨gp, 0 + j * 5, none⟩ = some (.int .i64 aN) ∧ X.cell? ⟨gp, 0 + j * 5 + 1, none⟩ = some (.int .i64 k9) ∧ X.cell? ⟨gp, 0 + j * 5 + 1 + 1, none⟩ = some (.int .i64 n9) ∧ X.cell? ⟨gp, 0 + j * 5 + 1 + 2, none⟩ = some (.bool f9) ∧ X.cell? ⟨gp, 0 + j * 5 + 1 + 3, none⟩ = some (.slice A9 l9 d9) := fun X hX => by
       rw [Nat.zero_add]
       have hr := fun i (hi : i < 5) => rows_get wd l (m := np) (j := j) (i := i) hlt9 hi
       rw [hpl] at hr
       exact ⟨hX _ _ (hr 0 (by decide)), hX _ _ (hr 1 (by decide)), hX _ _ (hr 2 (by decide)), hX _ _ (hr 3 (by decide)), hX _ _ (hr 4 (by decide))⟩
      have HCELL := hide hcell
      have hkp := hcell wr hgc
      have KP : Hid (∀ X, Q wr X → X.cell? ⟨gp, 0 + j * 5 + 1, none⟩ = some (.int .i64 k9) ∧ X.cell? ⟨gp, 0 + j * 5 + 1 + 1, none⟩ = some (.int .i64 n9) ∧ X.cell? ⟨gp, 0 + j * 5 + 1 + 2, none⟩ = some (.bool f9) ∧ X.cell? ⟨gp, 0 + j * 5 + 1 + 3, none⟩ = some (.slice A9 l9 d9)) := hide fun X hX => ⟨(hX.facts.1 _ _ hgp).trans hkp.2.1, (hX.facts.1 _ _ hgp).trans hkp.2.2.1, (hX.facts.1 _ _ hgp).trans hkp.2.2.2.1, (hX.facts.1 _ _ hgp).trans hkp.2.2.2.2⟩
      have KT : Hid (∀ X, Q wr X → X.cell? ⟨W.heap.size + 1, 0, none⟩ = some (.int .i64 wd) ∧ X.cell? ⟨W.heap.size + 1, 1, none⟩ = some (.bool b)) := hide fun X hX => (KA.out X (HQ.out.trans hX)).2.2.2.2
      have HQR := hide (HWQ.out.trans hq)
      have HLT := hide hlt9
      have hBg := (hown.lt gp rfl).1
      have hne : g ≠ gp := by have := HGBL.out; omega
      have hgl : g < wr.heap.size := (Array.getElem?_eq_some_iff.1 hgj).1
      have HFIT := hide hfit
      have HNE := hide hne
      have HGL := hide hgl
      have HAN := hide haN
      have HPP := hide hp
      have HO9 := hide ho9
      clear hgj hown hq hvp0 hnc0 hst ej hpm so1 so2 so3 f1 f2 f3 haN hp ho9 hm hmz hfit hv9 he9 hgp hgc hpl hcell hkp hBg hne hgl
      go_upto_region 14 with fail
      refine Ri.made (Ri.phi [Ri.isV (.slice (some ⟨gp, 0, none⟩) np cp), Ri.isV (.int .i64 ((j : Nat) : Int)), Ri.isV (.pointer (some ⟨gp, 0 + j * 5, none⟩)), Ri.isV (.pointer (some ⟨gp, 0 + j * 5 + 1, none⟩)), Ri.isV (.agg #[.int .i64 k9, .int .i64 n9, .bool f9, .slice A9 l9 d9]), Ri.isV (tgW wd b), (PoP wr.heap.size m o), (PoP wr.heap.size m o)]) (by kernel_rfl) (by kernel_rfl) (Ri.phi_mono ?_) ?_ ?_
      ·repeat' first | exact trivial | exact fun _ _ _ h _ => h | exact (po_mono _ _ _) | refine ⟨?_, ?_⟩
      ·refine Ri.All.cons ?_ (.cons ?_ (.cons ?_ (.cons ?_ (.cons ?_ (.cons ?_ (.cons ?_ (.cons ?_ (Ri.All.nil))))))))
       ·refine ⟨rfl, fun f0 W9 hq hf Ac hA hB hO => ?_⟩
        have e1 := (hB 7).trans (show _ = .slice (some ⟨gp, 0, none⟩) np cp by simp [Act.eval])
        exact Ri.wp_value _ (Ri.run_mv rfl e1) rfl
       ·refine ⟨rfl, fun f0 W9 hq hf Ac hA hB hO => ?_⟩
        have e1 := (hB 8).trans (show _ = .int .i64 (j : Nat) by simp [Act.eval])
        exact Ri.wp_value _ (Ri.run_mv rfl e1) rfl
       ·refine ⟨rfl, fun f0 W9 hq hf Ac hA hB hO => ?_⟩
        have e1 := (hA 43 0).trans (hf 0)
        have e2 := (hA 44 1).trans (hf 1)
        exact Ri.wp_value _ (Ri.run_idx rfl e1 e2 Try.underlying135 (sz := 5) (by kernel_rfl) HLT.out) rfl
       ·refine ⟨rfl, fun f0 W9 hq hf Ac hA hB hO => ?_⟩
        have e1 := (hA 45 2).trans (hf 2)
        exact Ri.wp_value _ (Ri.run_fld (f := _) rfl e1 Try.underlying107 rfl (sz := 3) (by kernel_rfl)) rfl
       ·refine ⟨rfl, fun f0 W9 hq hf Ac hA hB hO => ?_⟩
        have e1 := (hA 46 3).trans (hf 3)
        obtain ⟨b0, b1, b2, b3⟩ := KP.out W9 ((Q.refl wr).drew.trans hq)
        exact Ri.wp_value _ (Ri.run_ldagg rfl e1 (c4G b0 b1 b2 b3) Try.underlying24 rfl (by kernel_rfl)) rfl
       ·refine ⟨rfl, fun f0 W9 hq hf Ac hA hB hO => ?_⟩
        have e1 := (hB 3).trans (show _ = .pointer (some ⟨W.heap.size + 1, 0, none⟩) by simp [Act.eval])
        obtain ⟨u0, u1⟩ := KT.out W9 ((Q.refl wr).drew.trans hq)
        exact Ri.wp_value _ (Ri.run_ldagg (cs := [.int .i64 wd, .bool b]) rfl e1 (c2L u0 u1) Try.underlying26 rfl (by kernel_rfl)) rfl
       ·refine ⟨rfl, fun f0 W9 hq hf Ac hA hB hO => ?_⟩
        have e1 := (hA 47 4).trans (hf 4)
        have e2 := (hA 48 5).trans (hf 5)
        refine Ri.wp_call #[.agg #[.int .i64 k9, .int .i64 n9, .bool f9, .slice A9 l9 d9], tgW wd b] rfl (by simp [e1, e2]) Try.func127 (by kernel_rfl) (by kernel_rfl) ((HOP.out W9 (HQR.out.trans ((Q.refl wr).drew.trans hq))).mono ?_)
        rintro e w9 ⟨gO, rfl, h1, h2, h3⟩
        exact ⟨_, rfl, h3, gO, by rw [HOL.out], Nat.le_trans ((Q.refl wr).drew.trans hq).size h1, h2⟩
       ·refine ⟨rfl, fun f0 W9 hq hf Ac hA hB hO => ?_⟩
        obtain ⟨gO, e0, h1, h2⟩ := hf 6
        have e1 := (hA 49 6).trans e0
        exact Ri.wp_value _ (Ri.run_asg rfl e1) ⟨gO, rfl, h1, h2⟩
      ·intro f0 w9 hq9 hf
       obtain ⟨gO, e0, h1, h2⟩ := hf 7 (by simp)
       simp only [Ri.acts, Act.put, List.setIfInBounds_toArray, List.set_cons_zero, List.set_cons_succ, Nat.zero_add, Nat.reduceAdd]
       rw [e0]
       have HOI := hide (OwnI.mk (own_q HOWN.out hq9) h2 HNE.out (by have := HGL.out; omega) : OwnI wd l B g gp np cp gO m o w9)
       have HG9 := hide (blk_q HGJ.out hq9)
       have HQ9 := hide (HQ.out.trans hq9)
       clear hf h1 h2 hq9 e0
       go_wp2_with fail
       go_loopw [10] (fun vi wz => ∃ q : Nat, q ≤ m ∧ vi = .int .i64 q ∧ wz.heap[g]? = some (.cells (boolA (orTo (ownTo wd l j) aN o q)) 4 (0, 0)) ∧ OwnI wd l B g gp np cp gO m o wz ∧ Q w2 wz) (fun vi _ => m - (intOf vi).toNat)
       case atStart => exact ⟨0, by omega, by go_num, HG9.out, HOI.out, HQ9.out⟩
       case round =>
        obtain ⟨q, hqm, rfl, hgz, hoi, hqz⟩ := hrel
        have HQZ := hide hqz
        have HOO := hide hoi
        by_cases hlt8 : q < m
        ·have hd1 : decide ((q : Int) < (m : Int)) = true := by simp; omega
         have hd0 : decide (q < m) = true := by simp; omega
         have hlti : (q : Int) < (m : Int) := by omega
         obtain ⟨cur, hcur⟩ : ∃ cur, orTo (ownTo wd l j) aN o q = cur := ⟨_, rfl⟩
         rw [hcur] at hgz
         have HGZ := hide hgz
         have hcl : cur.length = N := by rw [← hcur, len_orTo, len_ownTo, HNN.out, Int.toNat_natCast]
         have hin : aN + q < N := by have := HFIT.out; omega
         obtain ⟨cv, hcv⟩ : ∃ cv, cur.getD (aN + q) false = cv := ⟨_, rfl⟩
         obtain ⟨ov, hov⟩ : ∃ ov, o.getD q false = ov := ⟨_, rfl⟩
         obtain ⟨nxt, hnxt⟩ : ∃ nxt, cur.set (aN + q) (cv || ov) = nxt := ⟨_, rfl⟩
         have HREL : Hid (orTo (ownTo wd l j) aN o (q + 1) = nxt) := hide (by rw [orTo_succ, hcur, hcv, hov, hnxt])
         have HCV : Hid ((boolA cur)[aN + q]? = some (.bool cv)) := hide (by rw [boolA_get (by omega), hcv])
         have HIN := hide hin
         have HQM := hide hlt8
         have HBD := hide (show aN + q < 4097 by omega)
         obtain ⟨gp', cp', ep, -, hgp, -, -, hgc, -⟩ := own_at hoi.pl (by omega)
         cases ep
         have hkz := HCELL.out _ hgc
         have KPA : Hid (∀ X : World, (∀ i, i < wr.heap.size → i ≠ g → X.heap[i]? = wr.heap[i]?) → X.cell? ⟨gp, 0 + j * 5, none⟩ = some (.int .i64 (aN : Int))) := hide fun X hX => (World.cell?_of_block (hX gp hgp (Ne.symm HNE.out))).trans hkz.1
         have hov9 := cell_blkJ hoi.ow (boolA_get (bs := o) (i := q) (by have := HOL.out; omega))
         rw [hov] at hov9
         have KOV : Hid (∀ X : World, (∀ i, i < wr.heap.size → i ≠ g → X.heap[i]? = wr.heap[i]?) → X.cell? ⟨gO, 0 + q * 1, none⟩ = some (.bool ov)) := hide fun X hX => by
          rw [Nat.zero_add, Nat.mul_one]
          exact (World.cell?_of_block (hX gO (Array.getElem?_eq_some_iff.1 hoi.ow).1 (Ne.symm hoi.og))).trans hov9
         clear hgz hoi hqz hcur hcl hin hcv hov hgp hgc hkz hov9
         cases cv with
         | true =>
          have HNX : Hid (nxt = cur.set (aN + q) true) := hide (by rw [← hnxt]; rfl)
          clear hnxt
          go_upto_region 18 with fail
          refine Ri.madeY (C := CW 25 w2 wr g 4 (boolA cur) (boolA nxt)) [25] [0, 1, 2, 3, 4, 5, 6, 7, 8, 9, 10, 11, 12, 13, 14, 15, 16, 17, 18, 19, 20, 21, 22, 23, 24, 25] [] (fun S0 S2 f f2 w1 w2 hk X hq => X.q hk hq) (Ri.phi [Ri.isV (.slice (some ⟨g, 0, none⟩) N N), Ri.isV (.slice (some ⟨gp, 0, none⟩) np cp), Ri.isV (.int .i64 ((j : Nat) : Int)), Ri.isV (.pointer (some ⟨gp, 0 + j * 5, none⟩)), Ri.isV (.pointer (some ⟨gp, 0 + j * 5, none⟩)), Ri.isV (.int .i64 (aN : Int)), Ri.isV (.int .i64 ((q : Nat) : Int)), Ri.isV (.int .i64 ((aN + q : Nat) : Int)), Ri.isV (.slice (some ⟨g, 0, none⟩) N N), Ri.isV (.slice (some ⟨gp, 0, none⟩) np cp), Ri.isV (.int .i64 ((j : Nat) : Int)), Ri.isV (.pointer (some ⟨gp, 0 + j * 5, none⟩)), Ri.isV (.pointer (some ⟨gp, 0 + j * 5, none⟩)), Ri.isV (.int .i64 (aN : Int)), Ri.isV (.int .i64 ((q : Nat) : Int)), Ri.isV (.int .i64 ((aN + q : Nat) : Int)), Ri.isV (.pointer (some ⟨g, 0 + (aN + q) * 1, none⟩)), Ri.isV (.bool true), Ri.isV (.bool true), Ri.isV (undef), Ri.isV (undef), Ri.isV (undef), Ri.isV (undef), Ri.isV (.bool true), Ri.isV (.pointer (some ⟨g, 0 + (aN + q) * 1, none⟩)), (fun _ _ => True)]) (by kernel_rfl) (by kernel_rfl) (by kernel_rfl) (⟨HQZ.out.trans (Q.refl _).drew, Nat.le_refl _, fun _ _ _ => rfl, by rw [if_neg (by decide)]; exact HGZ.out⟩) (Ri.phi_mono ?_) (Ri.phi_fix ?_) ?_ ?_
          ·repeat' first | exact trivial | exact fun _ _ _ h _ => h | refine ⟨?_, ?_⟩
          ·repeat' first | exact trivial | exact fun _ _ _ _ h => h | refine ⟨?_, ?_⟩
          ·refine Ri.All.cons ?_ (.cons ?_ (.cons ?_ (.cons ?_ (.cons ?_ (.cons ?_ (.cons ?_ (.cons ?_ (.cons ?_ (.cons ?_ (.cons ?_ (.cons ?_ (.cons ?_ (.cons ?_ (.cons ?_ (.cons ?_ (.cons ?_ (.cons ?_ (.cons ?_ (.cons ?_ (.cons ?_ (.cons ?_ (.cons ?_ (.cons ?_ (.cons ?_ (.cons ?_ (Ri.All.nil))))))))))))))))))))))))))
           ·refine Ri.StepY.q (h := fun S9 f0 W9 hS hD hq hf Ac hA hB hO => ?_)
            have e1 := (hB 5).trans (show _ = .slice (some ⟨g, 0, none⟩) N N by simp [Act.eval])
            exact Ri.wp_value _ (Ri.run_mv rfl e1) rfl
           ·refine Ri.StepY.q (h := fun S9 f0 W9 hS hD hq hf Ac hA hB hO => ?_)
            have e1 := (hB 7).trans (show _ = .slice (some ⟨gp, 0, none⟩) np cp by simp [Act.eval])
            exact Ri.wp_value _ (Ri.run_mv rfl e1) rfl
           ·refine Ri.StepY.q (h := fun S9 f0 W9 hS hD hq hf Ac hA hB hO => ?_)
            have e1 := (hB 8).trans (show _ = .int .i64 (j : Nat) by simp [Act.eval])
            exact Ri.wp_value _ (Ri.run_mv rfl e1) rfl
           ·refine Ri.StepY.q (h := fun S9 f0 W9 hS hD hq hf Ac hA hB hO => ?_)
            have e1 := (hA 57 1).trans (hf 1)
            have e2 := (hA 58 2).trans (hf 2)
            exact Ri.wp_value _ (Ri.run_idx rfl e1 e2 Try.underlying135 (sz := 5) (by kernel_rfl) HLT.out) rfl
           ·refine Ri.StepY.q (h := fun S9 f0 W9 hS hD hq hf Ac hA hB hO => ?_)
            have e1 := (hA 59 3).trans (hf 3)
            exact Ri.wp_value _ (Ri.run_fld (f := _) rfl e1 Try.underlying107 rfl (sz := 0) (by kernel_rfl)) rfl
           ·refine Ri.StepY.q (h := fun S9 f0 W9 hS hD hq hf Ac hA hB hO => ?_)
            have e1 := (hA 60 4).trans (hf 4)
            exact Ri.wp_value _ (Ri.run_ld1 rfl e1 Try.underlying3 rfl (KPA.out W9 hq.2.2.1)) rfl
           ·refine Ri.StepY.q (h := fun S9 f0 W9 hS hD hq hf Ac hA hB hO => ?_)
            have e1 := (hB 10).trans (show _ = .int .i64 (q : Nat) by simp [Act.eval])
            exact Ri.wp_value _ (Ri.run_mv rfl e1) rfl
           ·refine Ri.StepY.q (h := fun S9 f0 W9 hS hD hq hf Ac hA hB hO => ?_)
            have e1 := (hA 61 5).trans (hf 5)
            have e2 := (hA 62 6).trans (hf 6)
            have hb9 := HBD.out
            exact Ri.wp_value _ ((Ri.run_add rfl e1 e2 Try.underlying3 (by omega) (by omega)).trans (by rw [Int.natCast_add])) rfl
           ·refine Ri.StepY.q (h := fun S9 f0 W9 hS hD hq hf Ac hA hB hO => ?_)
            have e1 := (hB 5).trans (show _ = .slice (some ⟨g, 0, none⟩) N N by simp [Act.eval])
            exact Ri.wp_value _ (Ri.run_mv rfl e1) rfl
           ·refine Ri.StepY.q (h := fun S9 f0 W9 hS hD hq hf Ac hA hB hO => ?_)
            have e1 := (hB 7).trans (show _ = .slice (some ⟨gp, 0, none⟩) np cp by simp [Act.eval])
            exact Ri.wp_value _ (Ri.run_mv rfl e1) rfl
           ·refine Ri.StepY.q (h := fun S9 f0 W9 hS hD hq hf Ac hA hB hO => ?_)
            have e1 := (hB 8).trans (show _ = .int .i64 (j : Nat) by simp [Act.eval])
            exact Ri.wp_value _ (Ri.run_mv rfl e1) rfl
           ·refine Ri.StepY.q (h := fun S9 f0 W9 hS hD hq hf Ac hA hB hO => ?_)
            have e1 := (hA 65 9).trans (hf 9)
            have e2 := (hA 66 10).trans (hf 10)
            exact Ri.wp_value _ (Ri.run_idx rfl e1 e2 Try.underlying135 (sz := 5) (by kernel_rfl) HLT.out) rfl
           ·refine Ri.StepY.q (h := fun S9 f0 W9 hS hD hq hf Ac hA hB hO => ?_)
            have e1 := (hA 67 11).trans (hf 11)
            exact Ri.wp_value _ (Ri.run_fld (f := _) rfl e1 Try.underlying107 rfl (sz := 0) (by kernel_rfl)) rfl
           ·refine Ri.StepY.q (h := fun S9 f0 W9 hS hD hq hf Ac hA hB hO => ?_)
            have e1 := (hA 68 12).trans (hf 12)
            exact Ri.wp_value _ (Ri.run_ld1 rfl e1 Try.underlying3 rfl (KPA.out W9 hq.2.2.1)) rfl
           ·refine Ri.StepY.q (h := fun S9 f0 W9 hS hD hq hf Ac hA hB hO => ?_)
            have e1 := (hB 10).trans (show _ = .int .i64 (q : Nat) by simp [Act.eval])
            exact Ri.wp_value _ (Ri.run_mv rfl e1) rfl
           ·refine Ri.StepY.q (h := fun S9 f0 W9 hS hD hq hf Ac hA hB hO => ?_)
            have e1 := (hA 69 13).trans (hf 13)
            have e2 := (hA 70 14).trans (hf 14)
            have hb9 := HBD.out
            exact Ri.wp_value _ ((Ri.run_add rfl e1 e2 Try.underlying3 (by omega) (by omega)).trans (by rw [Int.natCast_add])) rfl
           ·refine Ri.StepY.q (h := fun S9 f0 W9 hS hD hq hf Ac hA hB hO => ?_)
            have e1 := (hA 64 8).trans (hf 8)
            have e2 := (hA 71 15).trans (hf 15)
            exact Ri.wp_value _ (Ri.run_idx rfl e1 e2 Try.underlying154 (sz := 1) (by kernel_rfl) HIN.out) rfl
           ·refine Ri.StepY.q (h := fun S9 f0 W9 hS hD hq hf Ac hA hB hO => ?_)
            have e1 := (hA 72 16).trans (hf 16)
            have hbk9 := hq.2.2.2
            rw [(hO 25).1, if_neg (by decide)] at hbk9
            have hc9 := cell_blkJ hbk9 (HCV.out)
            exact Ri.wp_value _ (Ri.run_ld1 rfl e1 Try.underlying4 rfl (by rw [Nat.zero_add, Nat.mul_one]; exact hc9)) rfl
           ·refine Ri.StepY.q (h := fun S9 f0 W9 hS hD hq hf Ac hA hB hO => ?_)
            have e1 := (hA 73 17).trans (hf 17)
            exact Ri.wp_value _ (Ri.run_mv rfl e1) rfl
           iterate 4 · refine Ri.StepY.off (by kernel_rfl) rfl rfl (by simp) fun S f W hq hf => ⟨hf 18, rfl⟩
           ·refine Ri.StepY.q (h := fun S9 f0 W9 hS hD hq hf Ac hA hB hO => ?_)
            have e1 := (hA 74 18).trans (hf 18)
            exact Ri.wp_value _ (Ri.run_pick rfl e1 (by simp [Act.eval])) rfl
           ·refine Ri.StepY.q (h := fun S9 f0 W9 hS hD hq hf Ac hA hB hO => ?_)
            have e1 := (hA 56 0).trans (hf 0)
            have e2 := (hA 63 7).trans (hf 7)
            exact Ri.wp_value _ (Ri.run_idx rfl e1 e2 Try.underlying154 (sz := 1) (by kernel_rfl) HIN.out) rfl
           ·refine Ri.StepY.c (h := fun S9 f0 W9 hS hD hq hf Ac hA hB hO => ?_)
            have e1 := (hA 80 24).trans (hf 24)
            have e2 := (hA 79 23).trans (hf 23)
            rw [Nat.zero_add, Nat.mul_one] at e1
            have hbk9 := hq.2.2.2
            rw [hS, if_neg (by decide)] at hbk9
            exact Ri.wp_store1 rfl e1 e2 (by kernel_rfl) rfl rfl (cell_blkJ hbk9 HCV.out) (frz_new (j := aN + q) hbk9) ⟨undef, rfl, hq.set1 hS HGW.out HNX.out _, trivial⟩
          ·intro S9 f0 w8 hS hq8 hf
           simp only [Ri.acts, Act.put, List.setIfInBounds_toArray, List.set_cons_zero, List.set_cons_succ, Nat.zero_add, Nat.reduceAdd]
           have hbk := hq8.2.2.2
           rw [hS 25 (by simp), if_pos rfl] at hbk
           have HBK := hide hbk
           have HQ8 := hide hq8.1
           have HOT := hide hq8.2.2.1
           have HSZ8 := hide hq8.2.1
           clear hf hq8 hS hbk
           go_wp2_with fail
           go_roundw
           case rel => exact ⟨q + 1, by omega, by go_num, by rw [HREL.out]; exact HBK.out, HOO.out.move HOT.out HSZ8.out, HQ8.out⟩
           case measure => simp [intOf] <;> omega
         | false =>
          have HNX : Hid (nxt = cur.set (aN + q) ov) := hide (by rw [← hnxt]; rfl)
          clear hnxt
          go_upto_region 18 with fail
          refine Ri.madeY (C := CW 25 w2 wr g 4 (boolA cur) (boolA nxt)) [25] [0, 1, 2, 3, 4, 5, 6, 7, 8, 9, 10, 11, 12, 13, 14, 15, 16, 17, 18, 19, 20, 21, 22, 23, 24, 25] [] (fun S0 S2 f f2 w1 w2 hk X hq => X.q hk hq) (Ri.phi [Ri.isV (.slice (some ⟨g, 0, none⟩) N N), Ri.isV (.slice (some ⟨gp, 0, none⟩) np cp), Ri.isV (.int .i64 ((j : Nat) : Int)), Ri.isV (.pointer (some ⟨gp, 0 + j * 5, none⟩)), Ri.isV (.pointer (some ⟨gp, 0 + j * 5, none⟩)), Ri.isV (.int .i64 (aN : Int)), Ri.isV (.int .i64 ((q : Nat) : Int)), Ri.isV (.int .i64 ((aN + q : Nat) : Int)), Ri.isV (.slice (some ⟨g, 0, none⟩) N N), Ri.isV (.slice (some ⟨gp, 0, none⟩) np cp), Ri.isV (.int .i64 ((j : Nat) : Int)), Ri.isV (.pointer (some ⟨gp, 0 + j * 5, none⟩)), Ri.isV (.pointer (some ⟨gp, 0 + j * 5, none⟩)), Ri.isV (.int .i64 (aN : Int)), Ri.isV (.int .i64 ((q : Nat) : Int)), Ri.isV (.int .i64 ((aN + q : Nat) : Int)), Ri.isV (.pointer (some ⟨g, 0 + (aN + q) * 1, none⟩)), Ri.isV (.bool false), Ri.isV (.bool false), Ri.isV (.slice (some ⟨gO, 0, none⟩) m m), Ri.isV (.int .i64 ((q : Nat) : Int)), Ri.isV (.pointer (some ⟨gO, 0 + q * 1, none⟩)), Ri.isV (.bool ov), Ri.isV (.bool ov), Ri.isV (.pointer (some ⟨g, 0 + (aN + q) * 1, none⟩)), (fun _ _ => True)]) (by kernel_rfl) (by kernel_rfl) (by kernel_rfl) (⟨HQZ.out.trans (Q.refl _).drew, Nat.le_refl _, fun _ _ _ => rfl, by rw [if_neg (by decide)]; exact HGZ.out⟩) (Ri.phi_mono ?_) (Ri.phi_fix ?_) ?_ ?_
          ·repeat' first | exact trivial | exact fun _ _ _ h _ => h | refine ⟨?_, ?_⟩
          ·repeat' first | exact trivial | exact fun _ _ _ _ h => h | refine ⟨?_, ?_⟩
          ·refine Ri.All.cons ?_ (.cons ?_ (.cons ?_ (.cons ?_ (.cons ?_ (.cons ?_ (.cons ?_ (.cons ?_ (.cons ?_ (.cons ?_ (.cons ?_ (.cons ?_ (.cons ?_ (.cons ?_ (.cons ?_ (.cons ?_ (.cons ?_ (.cons ?_ (.cons ?_ (.cons ?_ (.cons ?_ (.cons ?_ (.cons ?_ (.cons ?_ (.cons ?_ (.cons ?_ (Ri.All.nil))))))))))))))))))))))))))
           ·refine Ri.StepY.q (h := fun S9 f0 W9 hS hD hq hf Ac hA hB hO => ?_)
            have e1 := (hB 5).trans (show _ = .slice (some ⟨g, 0, none⟩) N N by simp [Act.eval])
            exact Ri.wp_value _ (Ri.run_mv rfl e1) rfl
           ·refine Ri.StepY.q (h := fun S9 f0 W9 hS hD hq hf Ac hA hB hO => ?_)
            have e1 := (hB 7).trans (show _ = .slice (some ⟨gp, 0, none⟩) np cp by simp [Act.eval])
            exact Ri.wp_value _ (Ri.run_mv rfl e1) rfl
           ·refine Ri.StepY.q (h := fun S9 f0 W9 hS hD hq hf Ac hA hB hO => ?_)
            have e1 := (hB 8).trans (show _ = .int .i64 (j : Nat) by simp [Act.eval])
            exact Ri.wp_value _ (Ri.run_mv rfl e1) rfl
           ·refine Ri.StepY.q (h := fun S9 f0 W9 hS hD hq hf Ac hA hB hO => ?_)
            have e1 := (hA 57 1).trans (hf 1)
            have e2 := (hA 58 2).trans (hf 2)
            exact Ri.wp_value _ (Ri.run_idx rfl e1 e2 Try.underlying135 (sz := 5) (by kernel_rfl) HLT.out) rfl
           ·refine Ri.StepY.q (h := fun S9 f0 W9 hS hD hq hf Ac hA hB hO => ?_)
            have e1 := (hA 59 3).trans (hf 3)
            exact Ri.wp_value _ (Ri.run_fld (f := _) rfl e1 Try.underlying107 rfl (sz := 0) (by kernel_rfl)) rfl
           ·refine Ri.StepY.q (h := fun S9 f0 W9 hS hD hq hf Ac hA hB hO => ?_)
            have e1 := (hA 60 4).trans (hf 4)
            exact Ri.wp_value _ (Ri.run_ld1 rfl e1 Try.underlying3 rfl (KPA.out W9 hq.2.2.1)) rfl
           ·refine Ri.StepY.q (h := fun S9 f0 W9 hS hD hq hf Ac hA hB hO => ?_)
            have e1 := (hB 10).trans (show _ = .int .i64 (q : Nat) by simp [Act.eval])
            exact Ri.wp_value _ (Ri.run_mv rfl e1) rfl
           ·refine Ri.StepY.q (h := fun S9 f0 W9 hS hD hq hf Ac hA hB hO => ?_)
            have e1 := (hA 61 5).trans (hf 5)
            have e2 := (hA 62 6).trans (hf 6)
            have hb9 := HBD.out
            exact Ri.wp_value _ ((Ri.run_add rfl e1 e2 Try.underlying3 (by omega) (by omega)).trans (by rw [Int.natCast_add])) rfl
           ·refine Ri.StepY.q (h := fun S9 f0 W9 hS hD hq hf Ac hA hB hO => ?_)
            have e1 := (hB 5).trans (show _ = .slice (some ⟨g, 0, none⟩) N N by simp [Act.eval])
            exact Ri.wp_value _ (Ri.run_mv rfl e1) rfl
           ·refine Ri.StepY.q (h := fun S9 f0 W9 hS hD hq hf Ac hA hB hO => ?_)
            have e1 := (hB 7).trans (show _ = .slice (some ⟨gp, 0, none⟩) np cp by simp [Act.eval])
            exact Ri.wp_value _ (Ri.run_mv rfl e1) rfl
           ·refine Ri.StepY.q (h := fun S9 f0 W9 hS hD hq hf Ac hA hB hO => ?_)
            have e1 := (hB 8).trans (show _ = .int .i64 (j : Nat) by simp [Act.eval])
            exact Ri.wp_value _ (Ri.run_mv rfl e1) rfl
           ·refine Ri.StepY.q (h := fun S9 f0 W9 hS hD hq hf Ac hA hB hO => ?_)
            have e1 := (hA 65 9).trans (hf 9)
            have e2 := (hA 66 10).trans (hf 10)
            exact Ri.wp_value _ (Ri.run_idx rfl e1 e2 Try.underlying135 (sz := 5) (by kernel_rfl) HLT.out) rfl
           ·refine Ri.StepY.q (h := fun S9 f0 W9 hS hD hq hf Ac hA hB hO => ?_)
            have e1 := (hA 67 11).trans (hf 11)
            exact Ri.wp_value _ (Ri.run_fld (f := _) rfl e1 Try.underlying107 rfl (sz := 0) (by kernel_rfl)) rfl
           ·refine Ri.StepY.q (h := fun S9 f0 W9 hS hD hq hf Ac hA hB hO => ?_)
            have e1 := (hA 68 12).trans (hf 12)
            exact Ri.wp_value _ (Ri.run_ld1 rfl e1 Try.underlying3 rfl (KPA.out W9 hq.2.2.1)) rfl
           ·refine Ri.StepY.q (h := fun S9 f0 W9 hS hD hq hf Ac hA hB hO => ?_)
            have e1 := (hB 10).trans (show _ = .int .i64 (q : Nat) by simp [Act.eval])
            exact Ri.wp_value _ (Ri.run_mv rfl e1) rfl
           ·refine Ri.StepY.q (h := fun S9 f0 W9 hS hD hq hf Ac hA hB hO => ?_)
            have e1 := (hA 69 13).trans (hf 13)
            have e2 := (hA 70 14).trans (hf 14)
            have hb9 := HBD.out
            exact Ri.wp_value _ ((Ri.run_add rfl e1 e2 Try.underlying3 (by omega) (by omega)).trans (by rw [Int.natCast_add])) rfl
           ·refine Ri.StepY.q (h := fun S9 f0 W9 hS hD hq hf Ac hA hB hO => ?_)
            have e1 := (hA 64 8).trans (hf 8)
            have e2 := (hA 71 15).trans (hf 15)
            exact Ri.wp_value _ (Ri.run_idx rfl e1 e2 Try.underlying154 (sz := 1) (by kernel_rfl) HIN.out) rfl
           ·refine Ri.StepY.q (h := fun S9 f0 W9 hS hD hq hf Ac hA hB hO => ?_)
            have e1 := (hA 72 16).trans (hf 16)
            have hbk9 := hq.2.2.2
            rw [(hO 25).1, if_neg (by decide)] at hbk9
            have hc9 := cell_blkJ hbk9 (HCV.out)
            exact Ri.wp_value _ (Ri.run_ld1 rfl e1 Try.underlying4 rfl (by rw [Nat.zero_add, Nat.mul_one]; exact hc9)) rfl
           ·refine Ri.StepY.q (h := fun S9 f0 W9 hS hD hq hf Ac hA hB hO => ?_)
            have e1 := (hA 73 17).trans (hf 17)
            exact Ri.wp_value _ (Ri.run_mv rfl e1) rfl
           ·refine Ri.StepY.gq (by kernel_rfl) rfl rfl (by simp) fun S9 f0 W9 hS hD hq hf Ac hA hB hO => ⟨hf 18, ?_⟩
            have e1 := (hB 9).trans (show _ = .slice (some ⟨gO, 0, none⟩) m m by simp [Act.eval])
            exact Ri.wp_value _ (Ri.run_mv rfl e1) rfl
           ·refine Ri.StepY.gq (by kernel_rfl) rfl rfl (by simp) fun S9 f0 W9 hS hD hq hf Ac hA hB hO => ⟨hf 18, ?_⟩
            have e1 := (hB 10).trans (show _ = .int .i64 (q : Nat) by simp [Act.eval])
            exact Ri.wp_value _ (Ri.run_mv rfl e1) rfl
           ·refine Ri.StepY.gq (by kernel_rfl) rfl rfl (by simp) fun S9 f0 W9 hS hD hq hf Ac hA hB hO => ⟨hf 18, ?_⟩
            have e1 := (hA 75 19).trans (hf 19)
            have e2 := (hA 76 20).trans (hf 20)
            exact Ri.wp_value _ (Ri.run_idx rfl e1 e2 Try.underlying154 (sz := 1) (by kernel_rfl) HQM.out) rfl
           ·refine Ri.StepY.gq (by kernel_rfl) rfl rfl (by simp) fun S9 f0 W9 hS hD hq hf Ac hA hB hO => ⟨hf 18, ?_⟩
            have e1 := (hA 77 21).trans (hf 21)
            exact Ri.wp_value _ (Ri.run_ld1 rfl e1 Try.underlying4 rfl (KOV.out W9 hq.2.2.1)) rfl
           ·refine Ri.StepY.q (h := fun S9 f0 W9 hS hD hq hf Ac hA hB hO => ?_)
            have e1 := (hA 74 18).trans (hf 18)
            have e2 := (hA 78 22).trans (hf 22)
            exact Ri.wp_value _ (Ri.run_pick rfl e1 (by simpa [Act.eval] using e2)) rfl
           ·refine Ri.StepY.q (h := fun S9 f0 W9 hS hD hq hf Ac hA hB hO => ?_)
            have e1 := (hA 56 0).trans (hf 0)
            have e2 := (hA 63 7).trans (hf 7)
            exact Ri.wp_value _ (Ri.run_idx rfl e1 e2 Try.underlying154 (sz := 1) (by kernel_rfl) HIN.out) rfl
           ·refine Ri.StepY.c (h := fun S9 f0 W9 hS hD hq hf Ac hA hB hO => ?_)
            have e1 := (hA 80 24).trans (hf 24)
            have e2 := (hA 79 23).trans (hf 23)
            rw [Nat.zero_add, Nat.mul_one] at e1
            have hbk9 := hq.2.2.2
            rw [hS, if_neg (by decide)] at hbk9
            exact Ri.wp_store1 rfl e1 e2 (by kernel_rfl) rfl rfl (cell_blkJ hbk9 HCV.out) (frz_new (j := aN + q) hbk9) ⟨undef, rfl, hq.set1 hS HGW.out HNX.out _, trivial⟩
          ·intro S9 f0 w8 hS hq8 hf
           simp only [Ri.acts, Act.put, List.setIfInBounds_toArray, List.set_cons_zero, List.set_cons_succ, Nat.zero_add, Nat.reduceAdd]
           have hbk := hq8.2.2.2
           rw [hS 25 (by simp), if_pos rfl] at hbk
           have HBK := hide hbk
           have HQ8 := hide hq8.1
           have HOT := hide hq8.2.2.1
           have HSZ8 := hide hq8.2.1
           clear hf hq8 hS hbk
           go_wp2_with fail
           go_roundw
           case rel => exact ⟨q + 1, by omega, by go_num, by rw [HREL.out]; exact HBK.out, HOO.out.move HOT.out HSZ8.out, HQ8.out⟩
           case measure => simp [intOf] <;> omega
        ·have hd1 : decide ((q : Int) < (m : Int)) = false := by simp; omega
         have hd0 : decide (q < m) = false := by simp; omega
         obtain rfl : q = m := by omega
         have HFIN : Hid (ownTo wd l (j + 1) = orTo (ownTo wd l j) aN o q) := hide (by
          rw [ownTo_succ, HAN.out, HPP.out, HO9.out, Int.toNat_natCast]
          unfold orAt
          rw [HOL.out])
         have HGZ := hide hgz
         clear hgz hoi hqz
         go_wp2_with fail
         go_roundw
         case rel => exact ⟨j + 1, by omega, by go_num, by rw [HFIN.out]; exact HGZ.out, HOO.out.pl, HQZ.out⟩
         case measure => simp [intOf] <;> omega
     ·have hd1 : decide ((j : Int) < (np : Int)) = false := by simp; omega
      have hd0 : decide (j < np) = false := by simp; omega
      obtain rfl : j = np := by omega
      subst hvp0
      clear hgj hown hq hnc0
      go_wp2_with fail
      go_ret
      refine ⟨g, by rw [HLEN.out] <;> rfl, HGWW.out, ?_, HQ2.out.trans HQ.out⟩
      rw [HALL.out, HNP.out]
      exact HGJ.out
   | false =>
    have HB0 : Hid (ownTo wd l 0 = List.replicate N false) := hide (by
     have h9 := HHB.out
     unfold hbK at h9
     rw [← HLK.out] at h9
     show ownB wd l = _
     unfold ownB
     rw [if_neg (by simpa using h9), HNN.out, Int.toNat_natCast])
    obtain ⟨wb, hwb⟩ : ∃ wb, w6 = wb := ⟨_, rfl⟩
    subst hwb
    have HQB := Q26
    have HGB := HG6
    rw [← HB0.out] at HGB
    go_upto_region 10 with fail
    clear HB0
    go_wp2_with fail
    refine (HPL.out w6 (HWQ.out.trans HQB.out)).mono ?_
    rintro e w8 ⟨vp, rfl, hop, hq8⟩
    have Q28 := hide (HQB.out.trans hq8)
    have HG8 := hide (blk_q HGB.out hq8)
    have HOP8 := hide hop
    have hgb : g < w6.heap.size := (Array.getElem?_eq_some_iff.1 HGB.out).1
    have HGBL := hide hgb
    obtain ⟨B, hB⟩ : ∃ B, w6.heap.size = B := ⟨_, rfl⟩
    rw [hB] at HOP8 HGBL
    clear hq8 hop k0 k1 k2 k3 t0 t1 hgb hB
    have hnpm : np ≤ 9223372036854775807 := by
     obtain ⟨A0, c0, -, h1, h2, -⟩ := own_form HOP8.out
     unfold maxLen at h2
     omega
    go_wp2_with fail
    go_loopw [8] (fun vi wr => ∃ j : Nat, j ≤ np ∧ vi = .int .i64 j ∧ wr.heap[g]? = some (.cells (boolA (ownTo wd l j)) 4 (0, 0)) ∧ wr.ownsRow B 107 5 vp np (rowsP wd l np) ∧ Q w2 wr) (fun vi _ => np - (intOf vi).toNat)
    case atStart => exact ⟨0, by omega, by go_num, HG8.out, HOP8.out, Q28.out⟩
    case round =>
     obtain ⟨j, hj, rfl, hgj, hown, hq⟩ := hrel
     have HQ := hide hq
     have HGJ := hide hgj
     have HOWN := hide hown
     obtain ⟨Ap, cp0, hvp0, hnc0, -⟩ := own_form hown
     by_cases hlt9 : j < np
     ·have hd1 : decide ((j : Int) < (np : Int)) = true := by simp; omega
      have hd0 : decide (j < np) = true := by simp; omega
      have hlti : (j : Int) < (np : Int) := by omega
      have hst : stE l (j : Int) = 0 := st_of_lt (by rw [HNP.out]; exact hlt9)
      obtain ⟨j', ej, hpm, -, -⟩ := sub_mem HO.out hst
      obtain rfl : j = j' := by omega
      obtain ⟨so1, so2, so3⟩ := step_okw H.out HO.out hst
      rw [show stL l (j : Int) = subL l j by unfold stL; rw [if_pos hst, Int.toNat_natCast]] at so1 so2 so3
      obtain ⟨f1, f2, f3⟩ := at_fits H.out HO.out hst
      rw [HNN.out] at f3
      obtain ⟨aN, haN⟩ : ∃ aN : Nat, atL wd l j = aN := ⟨(atL wd l j).toNat, by omega⟩
      obtain ⟨p, hp⟩ : ∃ p, subL l j = p := ⟨_, rfl⟩
      rw [hp] at hpm so1 so2 so3 f2 f3
      obtain ⟨o, ho9⟩ : ∃ o, p.own wd = o := ⟨_, rfl⟩
      obtain ⟨m, hm⟩ : ∃ m, o.length = m := ⟨_, rfl⟩
      have hmz : (m : Int) = szL wd p := by rw [← hm, ← ho9, len_own]; omega
      have hfit : aN + m ≤ N := by omega
      have hm4 : m ≤ 4096 := by omega
      have HOP := hide (HIH.out p hpm (by omega) so1)
      obtain ⟨k9, n9, f9, A9, l9, d9, hv9, he9⟩ := enc_v p
      rw [hv9, ho9] at HOP
      unfold OwnP at HOP
      have HOL := hide hm
      obtain ⟨gp, cp, rfl, -, hgp, -, -, hgc, -⟩ := own_at hown (by omega)
      have hpl : plcC wd l j = [.int .i64 aN, .int .i64 k9, .int .i64 n9, .bool f9, .slice A9 l9 d9] := by unfold plcC; rw [haN, hp, he9]
      have hcell : ∀ X : World, (∀ (i : Nat) u, (rowsP wd l np)[i]? = some u → X.cell? ⟨gp, i, none⟩ = some u) → X.cell? ⟨gp, 0 + j * 5, none⟩ = some (.int .i64 aN) ∧ X.cell? ⟨gp, 0 + j * 5 + 1, none⟩ = some (.int .i64 k9) ∧ X.cell? ⟨gp, 0 + j * 5 + 1 + 1, none⟩ = some (.int .i64 n9) ∧ X.cell? ⟨gp, 0 + j * 5 + 1 + 2, none⟩ = some (.bool f9) ∧ X.cell? ⟨gp, 0 + j * 5 + 1 + 3, none⟩ = some (.slice A9 l9 d9) := fun X hX => by
       rw [Nat.zero_add]
       have hr := fun i (hi : i < 5) => rows_get wd l (m := np) (j := j) (i := i) hlt9 hi
       rw [hpl] at hr
       exact ⟨hX _ _ (hr 0 (by decide)), hX _ _ (hr 1 (by decide)), hX _ _ (hr 2 (by decide)), hX _ _ (hr 3 (by decide)), hX _ _ (hr 4 (by decide))⟩
      have HCELL := hide hcell
      have hkp := hcell wr hgc
      have KP : Hid (∀ X, Q wr X → X.cell? ⟨gp, 0 + j * 5 + 1, none⟩ = some (.int .i64 k9) ∧ X.cell? ⟨gp, 0 + j * 5 + 1 + 1, none⟩ = some (.int .i64 n9) ∧ X.cell? ⟨gp, 0 + j * 5 + 1 + 2, none⟩ = some (.bool f9) ∧ X.cell? ⟨gp, 0 + j * 5 + 1 + 3, none⟩ = some (.slice A9 l9 d9)) := hide fun X hX => ⟨(hX.facts.1 _ _ hgp).trans hkp.2.1, (hX.facts.1 _ _ hgp).trans hkp.2.2.1, (hX.facts.1 _ _ hgp).trans hkp.2.2.2.1, (hX.facts.1 _ _ hgp).trans hkp.2.2.2.2⟩
      have KT : Hid (∀ X, Q wr X → X.cell? ⟨W.heap.size + 1, 0, none⟩ = some (.int .i64 wd) ∧ X.cell? ⟨W.heap.size + 1, 1, none⟩ = some (.bool b)) := hide fun X hX => (KA.out X (HQ.out.trans hX)).2.2.2.2
      have HQR := hide (HWQ.out.trans hq)
      have HLT := hide hlt9
      have hBg := (hown.lt gp rfl).1
      have hne : g ≠ gp := by have := HGBL.out; omega
      have hgl : g < wr.heap.size := (Array.getElem?_eq_some_iff.1 hgj).1
      have HFIT := hide hfit
      have HNE := hide hne
      have HGL := hide hgl
      have HAN := hide haN
      have HPP := hide hp
      have HO9 := hide ho9
      clear hgj hown hq hvp0 hnc0 hst ej hpm so1 so2 so3 f1 f2 f3 haN hp ho9 hm hmz hfit hv9 he9 hgp hgc hpl hcell hkp hBg hne hgl
      go_upto_region 14 with fail
      refine Ri.made (Ri.phi [Ri.isV (.slice (some ⟨gp, 0, none⟩) np cp), Ri.isV (.int .i64 ((j : Nat) : Int)), Ri.isV (.pointer (some ⟨gp, 0 + j * 5, none⟩)), Ri.isV (.pointer (some ⟨gp, 0 + j * 5 + 1, none⟩)), Ri.isV (.agg #[.int .i64 k9, .int .i64 n9, .bool f9, .slice A9 l9 d9]), Ri.isV (tgW wd b), (PoP wr.heap.size m o), (PoP wr.heap.size m o)]) (by kernel_rfl) (by kernel_rfl) (Ri.phi_mono ?_) ?_ ?_
      ·repeat' first | exact trivial | exact fun _ _ _ h _ => h | exact (po_mono _ _ _) | refine ⟨?_, ?_⟩
      ·refine Ri.All.cons ?_ (.cons ?_ (.cons ?_ (.cons ?_ (.cons ?_ (.cons ?_ (.cons ?_ (.cons ?_ (Ri.All.nil))))))))
       ·refine ⟨rfl, fun f0 W9 hq hf Ac hA hB hO => ?_⟩
        have e1 := (hB 7).trans (show _ = .slice (some ⟨gp, 0, none⟩) np cp by simp [Act.eval])
        exact Ri.wp_value _ (Ri.run_mv rfl e1) rfl
       ·refine ⟨rfl, fun f0 W9 hq hf Ac hA hB hO => ?_⟩
        have e1 := (hB 8).trans (show _ = .int .i64 (j : Nat) by simp [Act.eval])
        exact Ri.wp_value _ (Ri.run_mv rfl e1) rfl
       ·refine ⟨rfl, fun f0 W9 hq hf Ac hA hB hO => ?_⟩
        have e1 := (hA 43 0).trans (hf 0)
        have e2 := (hA 44 1).trans (hf 1)
        exact Ri.wp_value _ (Ri.run_idx rfl e1 e2 Try.underlying135 (sz := 5) (by kernel_rfl) HLT.out) rfl
       ·refine ⟨rfl, fun f0 W9 hq hf Ac hA hB hO => ?_⟩
        have e1 := (hA 45 2).trans (hf 2)
        exact Ri.wp_value _ (Ri.run_fld (f := _) rfl e1 Try.underlying107 rfl (sz := 3) (by kernel_rfl)) rfl
       ·refine ⟨rfl, fun f0 W9 hq hf Ac hA hB hO => ?_⟩
        have e1 := (hA 46 3).trans (hf 3)
        obtain ⟨b0, b1, b2, b3⟩ := KP.out W9 ((Q.refl wr).drew.trans hq)
        exact Ri.wp_value _ (Ri.run_ldagg rfl e1 (c4G b0 b1 b2 b3) Try.underlying24 rfl (by kernel_rfl)) rfl
       ·refine ⟨rfl, fun f0 W9 hq hf Ac hA hB hO => ?_⟩
        have e1 := (hB 3).trans (show _ = .pointer (some ⟨W.heap.size + 1, 0, none⟩) by simp [Act.eval])
        obtain ⟨u0, u1⟩ := KT.out W9 ((Q.refl wr).drew.trans hq)
        exact Ri.wp_value _ (Ri.run_ldagg (cs := [.int .i64 wd, .bool b]) rfl e1 (c2L u0 u1) Try.underlying26 rfl (by kernel_rfl)) rfl
       ·refine ⟨rfl, fun f0 W9 hq hf Ac hA hB hO => ?_⟩
        have e1 := (hA 47 4).trans (hf 4)
        have e2 := (hA 48 5).trans (hf 5)
        refine Ri.wp_call #[.agg #[.int .i64 k9, .int .i64 n9, .bool f9, .slice A9 l9 d9], tgW wd b] rfl (by simp [e1, e2]) Try.func127 (by kernel_rfl) (by kernel_rfl) ((HOP.out W9 (HQR.out.trans ((Q.refl wr).drew.trans hq))).mono ?_)
        rintro e w9 ⟨gO, rfl, h1, h2, h3⟩
        exact ⟨_, rfl, h3, gO, by rw [HOL.out], Nat.le_trans ((Q.refl wr).drew.trans hq).size h1, h2⟩
       ·refine ⟨rfl, fun f0 W9 hq hf Ac hA hB hO => ?_⟩
        obtain ⟨gO, e0, h1, h2⟩ := hf 6
        have e1 := (hA 49 6).trans e0
        exact Ri.wp_value _ (Ri.run_asg rfl e1) ⟨gO, rfl, h1, h2⟩
      ·intro f0 w9 hq9 hf
       obtain ⟨gO, e0, h1, h2⟩ := hf 7 (by simp)
       simp only [Ri.acts, Act.put, List.setIfInBounds_toArray, List.set_cons_zero, List.set_cons_succ, Nat.zero_add, Nat.reduceAdd]
       rw [e0]
       have HOI := hide (OwnI.mk (own_q HOWN.out hq9) h2 HNE.out (by have := HGL.out; omega) : OwnI wd l B g gp np cp gO m o w9)
       have HG9 := hide (blk_q HGJ.out hq9)
       have HQ9 := hide (HQ.out.trans hq9)
       clear hf h1 h2 hq9 e0
       go_wp2_with fail
       go_loopw [10] (fun vi wz => ∃ q : Nat, q ≤ m ∧ vi = .int .i64 q ∧ wz.heap[g]? = some (.cells (boolA (orTo (ownTo wd l j) aN o q)) 4 (0, 0)) ∧ OwnI wd l B g gp np cp gO m o wz ∧ Q w2 wz) (fun vi _ => m - (intOf vi).toNat)
       case atStart => exact ⟨0, by omega, by go_num, HG9.out, HOI.out, HQ9.out⟩
       case round =>
        obtain ⟨q, hqm, rfl, hgz, hoi, hqz⟩ := hrel
        have HQZ := hide hqz
        have HOO := hide hoi
        by_cases hlt8 : q < m
        ·have hd1 : decide ((q : Int) < (m : Int)) = true := by simp; omega
         have hd0 : decide (q < m) = true := by simp; omega
         have hlti : (q : Int) < (m : Int) := by omega
         obtain ⟨cur, hcur⟩ : ∃ cur, orTo (ownTo wd l j) aN o q = cur := ⟨_, rfl⟩
         rw [hcur] at hgz
         have HGZ := hide hgz
         have hcl : cur.length = N := by rw [← hcur, len_orTo, len_ownTo, HNN.out, Int.toNat_natCast]
         have hin : aN + q < N := by have := HFIT.out; omega
         obtain ⟨cv, hcv⟩ : ∃ cv, cur.getD (aN + q) false = cv := ⟨_, rfl⟩
         obtain ⟨ov, hov⟩ : ∃ ov, o.getD q false = ov := ⟨_, rfl⟩
         obtain ⟨nxt, hnxt⟩ : ∃ nxt, cur.set (aN + q) (cv || ov) = nxt := ⟨_, rfl⟩
         have HREL : Hid (orTo (ownTo wd l j) aN o (q + 1) = nxt) := hide (by rw [orTo_succ, hcur, hcv, hov, hnxt])
         have HCV : Hid ((boolA cur)[aN + q]? = some (.bool cv)) := hide (by rw [boolA_get (by omega), hcv])
         have HIN := hide hin
         have HQM := hide hlt8
         have HBD := hide (show aN + q < 4097 by omega)
         obtain ⟨gp', cp', ep, -, hgp, -, -, hgc, -⟩ := own_at hoi.pl (by omega)
         cases ep
         have hkz := HCELL.out _ hgc
         have KPA : Hid (∀ X : World, (∀ i, i < wr.heap.size → i ≠ g → X.heap[i]? = wr.heap[i]?) → X.cell? ⟨gp, 0 + j * 5, none⟩ = some (.int .i64 (aN : Int))) := hide fun X hX => (World.cell?_of_block (hX gp hgp (Ne.symm HNE.out))).trans hkz.1
         have hov9 := cell_blkJ hoi.ow (boolA_get (bs := o) (i := q) (by have := HOL.out; omega))
         rw [hov] at hov9
         have KOV : Hid (∀ X : World, (∀ i, i < wr.heap.size → i ≠ g → X.heap[i]? = wr.heap[i]?) → X.cell? ⟨gO, 0 + q * 1, none⟩ = some (.bool ov)) := hide fun X hX => by
          rw [Nat.zero_add, Nat.mul_one]
          exact (World.cell?_of_block (hX gO (Array.getElem?_eq_some_iff.1 hoi.ow).1 (Ne.symm hoi.og))).trans hov9
         clear hgz hoi hqz hcur hcl hin hcv hov hgp hgc hkz hov9
         cases cv with
         | true =>
          have HNX : Hid (nxt = cur.set (aN + q) true) := hide (by rw [← hnxt]; rfl)
          clear hnxt
          go_upto_region 18 with fail
          refine Ri.madeY (C := CW 25 w2 wr g 4 (boolA cur) (boolA nxt)) [25] [0, 1, 2, 3, 4, 5, 6, 7, 8, 9, 10, 11, 12, 13, 14, 15, 16, 17, 18, 19, 20, 21, 22, 23, 24, 25] [] (fun S0 S2 f f2 w1 w2 hk X hq => X.q hk hq) (Ri.phi [Ri.isV (.slice (some ⟨g, 0, none⟩) N N), Ri.isV (.slice (some ⟨gp, 0, none⟩) np cp), Ri.isV (.int .i64 ((j : Nat) : Int)), Ri.isV (.pointer (some ⟨gp, 0 + j * 5, none⟩)), Ri.isV (.pointer (some ⟨gp, 0 + j * 5, none⟩)), Ri.isV (.int .i64 (aN : Int)), Ri.isV (.int .i64 ((q : Nat) : Int)), Ri.isV (.int .i64 ((aN + q : Nat) : Int)), Ri.isV (.slice (some ⟨g, 0, none⟩) N N), Ri.isV (.slice (some ⟨gp, 0, none⟩) np cp), Ri.isV (.int .i64 ((j : Nat) : Int)), Ri.isV (.pointer (some ⟨gp, 0 + j * 5, none⟩)), Ri.isV (.pointer (some ⟨gp, 0 + j * 5, none⟩)), Ri.isV (.int .i64 (aN : Int)), Ri.isV (.int .i64 ((q : Nat) : Int)), Ri.isV (.int .i64 ((aN + q : Nat) : Int)), Ri.isV (.pointer (some ⟨g, 0 + (aN + q) * 1, none⟩)), Ri.isV (.bool true), Ri.isV (.bool true), Ri.isV (undef), Ri.isV (undef), Ri.isV (undef), Ri.isV (undef), Ri.isV (.bool true), Ri.isV (.pointer (some ⟨g, 0 + (aN + q) * 1, none⟩)), (fun _ _ => True)]) (by kernel_rfl) (by kernel_rfl) (by kernel_rfl) (⟨HQZ.out.trans (Q.refl _).drew, Nat.le_refl _, fun _ _ _ => rfl, by rw [if_neg (by decide)]; exact HGZ.out⟩) (Ri.phi_mono ?_) (Ri.phi_fix ?_) ?_ ?_
          ·repeat' first | exact trivial | exact fun _ _ _ h _ => h | refine ⟨?_, ?_⟩
          ·repeat' first | exact trivial | exact fun _ _ _ _ h => h | refine ⟨?_, ?_⟩
          ·refine Ri.All.cons ?_ (.cons ?_ (.cons ?_ (.cons ?_ (.cons ?_ (.cons ?_ (.cons ?_ (.cons ?_ (.cons ?_ (.cons ?_ (.cons ?_ (.cons ?_ (.cons ?_ (.cons ?_ (.cons ?_ (.cons ?_ (.cons ?_ (.cons ?_ (.cons ?_ (.cons ?_ (.cons ?_ (.cons ?_ (.cons ?_ (.cons ?_ (.cons ?_ (.cons ?_ (Ri.All.nil))))))))))))))))))))))))))
           ·refine Ri.StepY.q (h := fun S9 f0 W9 hS hD hq hf Ac hA hB hO => ?_)
            have e1 := (hB 5).trans (show _ = .slice (some ⟨g, 0, none⟩) N N by simp [Act.eval])
            exact Ri.wp_value _ (Ri.run_mv rfl e1) rfl
           ·refine Ri.StepY.q (h := fun S9 f0 W9 hS hD hq hf Ac hA hB hO => ?_)
            have e1 := (hB 7).trans (show _ = .slice (some ⟨gp, 0, none⟩) np cp by simp [Act.eval])
            exact Ri.wp_value _ (Ri.run_mv rfl e1) rfl
           ·refine Ri.StepY.q (h := fun S9 f0 W9 hS hD hq hf Ac hA hB hO => ?_)
            have e1 := (hB 8).trans (show _ = .int .i64 (j : Nat) by simp [Act.eval])
            exact Ri.wp_value _ (Ri.run_mv rfl e1) rfl
           ·refine Ri.StepY.q (h := fun S9 f0 W9 hS hD hq hf Ac hA hB hO => ?_)
            have e1 := (hA 57 1).trans (hf 1)
            have e2 := (hA 58 2).trans (hf 2)
            exact Ri.wp_value _ (Ri.run_idx rfl e1 e2 Try.underlying135 (sz := 5) (by kernel_rfl) HLT.out) rfl
           ·refine Ri.StepY.q (h := fun S9 f0 W9 hS hD hq hf Ac hA hB hO => ?_)
            have e1 := (hA 59 3).trans (hf 3)
            exact Ri.wp_value _ (Ri.run_fld (f := _) rfl e1 Try.underlying107 rfl (sz := 0) (by kernel_rfl)) rfl
           ·refine Ri.StepY.q (h := fun S9 f0 W9 hS hD hq hf Ac hA hB hO => ?_)
            have e1 := (hA 60 4).trans (hf 4)
            exact Ri.wp_value _ (Ri.run_ld1 rfl e1 Try.underlying3 rfl (KPA.out W9 hq.2.2.1)) rfl
           ·refine Ri.StepY.q (h := fun S9 f0 W9 hS hD hq hf Ac hA hB hO => ?_)
            have e1 := (hB 10).trans (show _ = .int .i64 (q : Nat) by simp [Act.eval])
            exact Ri.wp_value _ (Ri.run_mv rfl e1) rfl
           ·refine Ri.StepY.q (h := fun S9 f0 W9 hS hD hq hf Ac hA hB hO => ?_)
            have e1 := (hA 61 5).trans (hf 5)
            have e2 := (hA 62 6).trans (hf 6)
            have hb9 := HBD.out
            exact Ri.wp_value _ ((Ri.run_add rfl e1 e2 Try.underlying3 (by omega) (by omega)).trans (by rw [Int.natCast_add])) rfl
           ·refine Ri.StepY.q (h := fun S9 f0 W9 hS hD hq hf Ac hA hB hO => ?_)
            have e1 := (hB 5).trans (show _ = .slice (some ⟨g, 0, none⟩) N N by simp [Act.eval])
            exact Ri.wp_value _ (Ri.run_mv rfl e1) rfl
           ·refine Ri.StepY.q (h := fun S9 f0 W9 hS hD hq hf Ac hA hB hO => ?_)
            have e1 := (hB 7).trans (show _ = .slice (some ⟨gp, 0, none⟩) np cp by simp [Act.eval])
            exact Ri.wp_value _ (Ri.run_mv rfl e1) rfl
           ·refine Ri.StepY.q (h := fun S9 f0 W9 hS hD hq hf Ac hA hB hO => ?_)
            have e1 := (hB 8).trans (show _ = .int .i64 (j : Nat) by simp [Act.eval])
            exact Ri.wp_value _ (Ri.run_mv rfl e1) rfl
           ·refine Ri.StepY.q (h := fun S9 f0 W9 hS hD hq hf Ac hA hB hO => ?_)
            have e1 := (hA 65 9).trans (hf 9)
            have e2 := (hA 66 10).trans (hf 10)
            exact Ri.wp_value _ (Ri.run_idx rfl e1 e2 Try.underlying135 (sz := 5) (by kernel_rfl) HLT.out) rfl
           ·refine Ri.StepY.q (h := fun S9 f0 W9 hS hD hq hf Ac hA hB hO => ?_)
            have e1 := (hA 67 11).trans (hf 11)
            exact Ri.wp_value _ (Ri.run_fld (f := _) rfl e1 Try.underlying107 rfl (sz := 0) (by kernel_rfl)) rfl
           ·refine Ri.StepY.q (h := fun S9 f0 W9 hS hD hq hf Ac hA hB hO => ?_)
            have e1 := (hA 68 12).trans (hf 12)
            exact Ri.wp_value _ (Ri.run_ld1 rfl e1 Try.underlying3 rfl (KPA.out W9 hq.2.2.1)) rfl
           ·refine Ri.StepY.q (h := fun S9 f0 W9 hS hD hq hf Ac hA hB hO => ?_)
            have e1 := (hB 10).trans (show _ = .int .i64 (q : Nat) by simp [Act.eval])
            exact Ri.wp_value _ (Ri.run_mv rfl e1) rfl
           ·refine Ri.StepY.q (h := fun S9 f0 W9 hS hD hq hf Ac hA hB hO => ?_)
            have e1 := (hA 69 13).trans (hf 13)
            have e2 := (hA 70 14).trans (hf 14)
            have hb9 := HBD.out
            exact Ri.wp_value _ ((Ri.run_add rfl e1 e2 Try.underlying3 (by omega) (by omega)).trans (by rw [Int.natCast_add])) rfl
           ·refine Ri.StepY.q (h := fun S9 f0 W9 hS hD hq hf Ac hA hB hO => ?_)
            have e1 := (hA 64 8).trans (hf 8)
            have e2 := (hA 71 15).trans (hf 15)
            exact Ri.wp_value _ (Ri.run_idx rfl e1 e2 Try.underlying154 (sz := 1) (by kernel_rfl) HIN.out) rfl
           ·refine Ri.StepY.q (h := fun S9 f0 W9 hS hD hq hf Ac hA hB hO => ?_)
            have e1 := (hA 72 16).trans (hf 16)
            have hbk9 := hq.2.2.2
            rw [(hO 25).1, if_neg (by decide)] at hbk9
            have hc9 := cell_blkJ hbk9 (HCV.out)
            exact Ri.wp_value _ (Ri.run_ld1 rfl e1 Try.underlying4 rfl (by rw [Nat.zero_add, Nat.mul_one]; exact hc9)) rfl
           ·refine Ri.StepY.q (h := fun S9 f0 W9 hS hD hq hf Ac hA hB hO => ?_)
            have e1 := (hA 73 17).trans (hf 17)
            exact Ri.wp_value _ (Ri.run_mv rfl e1) rfl
           iterate 4 · refine Ri.StepY.off (by kernel_rfl) rfl rfl (by simp) fun S f W hq hf => ⟨hf 18, rfl⟩
           ·refine Ri.StepY.q (h := fun S9 f0 W9 hS hD hq hf Ac hA hB hO => ?_)
            have e1 := (hA 74 18).trans (hf 18)
            exact Ri.wp_value _ (Ri.run_pick rfl e1 (by simp [Act.eval])) rfl
           ·refine Ri.StepY.q (h := fun S9 f0 W9 hS hD hq hf Ac hA hB hO => ?_)
            have e1 := (hA 56 0).trans (hf 0)
            have e2 := (hA 63 7).trans (hf 7)
            exact Ri.wp_value _ (Ri.run_idx rfl e1 e2 Try.underlying154 (sz := 1) (by kernel_rfl) HIN.out) rfl
           ·refine Ri.StepY.c (h := fun S9 f0 W9 hS hD hq hf Ac hA hB hO => ?_)
            have e1 := (hA 80 24).trans (hf 24)
            have e2 := (hA 79 23).trans (hf 23)
            rw [Nat.zero_add, Nat.mul_one] at e1
            have hbk9 := hq.2.2.2
            rw [hS, if_neg (by decide)] at hbk9
            exact Ri.wp_store1 rfl e1 e2 (by kernel_rfl) rfl rfl (cell_blkJ hbk9 HCV.out) (frz_new (j := aN + q) hbk9) ⟨undef, rfl, hq.set1 hS HGW.out HNX.out _, trivial⟩
          ·intro S9 f0 w8 hS hq8 hf
           simp only [Ri.acts, Act.put, List.setIfInBounds_toArray, List.set_cons_zero, List.set_cons_succ, Nat.zero_add, Nat.reduceAdd]
           have hbk := hq8.2.2.2
           rw [hS 25 (by simp), if_pos rfl] at hbk
           have HBK := hide hbk
           have HQ8 := hide hq8.1
           have HOT := hide hq8.2.2.1
           have HSZ8 := hide hq8.2.1
           clear hf hq8 hS hbk
           go_wp2_with fail
           go_roundw
           case rel => exact ⟨q + 1, by omega, by go_num, by rw [HREL.out]; exact HBK.out, HOO.out.move HOT.out HSZ8.out, HQ8.out⟩
           case measure => simp [intOf] <;> omega
         | false =>
          have HNX : Hid (nxt = cur.set (aN + q) ov) := hide (by rw [← hnxt]; rfl)
          clear hnxt
          go_upto_region 18 with fail
          refine Ri.madeY (C := CW 25 w2 wr g 4 (boolA cur) (boolA nxt)) [25] [0, 1, 2, 3, 4, 5, 6, 7, 8, 9, 10, 11, 12, 13, 14, 15, 16, 17, 18, 19, 20, 21, 22, 23, 24, 25] [] (fun S0 S2 f f2 w1 w2 hk X hq => X.q hk hq) (Ri.phi [Ri.isV (.slice (some ⟨g, 0, none⟩) N N), Ri.isV (.slice (some ⟨gp, 0, none⟩) np cp), Ri.isV (.int .i64 ((j : Nat) : Int)), Ri.isV (.pointer (some ⟨gp, 0 + j * 5, none⟩)), Ri.isV (.pointer (some ⟨gp, 0 + j * 5, none⟩)), Ri.isV (.int .i64 (aN : Int)), Ri.isV (.int .i64 ((q : Nat) : Int)), Ri.isV (.int .i64 ((aN + q : Nat) : Int)), Ri.isV (.slice (some ⟨g, 0, none⟩) N N), Ri.isV (.slice (some ⟨gp, 0, none⟩) np cp), Ri.isV (.int .i64 ((j : Nat) : Int)), Ri.isV (.pointer (some ⟨gp, 0 + j * 5, none⟩)), Ri.isV (.pointer (some ⟨gp, 0 + j * 5, none⟩)), Ri.isV (.int .i64 (aN : Int)), Ri.isV (.int .i64 ((q : Nat) : Int)), Ri.isV (.int .i64 ((aN + q : Nat) : Int)), Ri.isV (.pointer (some ⟨g, 0 + (aN + q) * 1, none⟩)), Ri.isV (.bool false), Ri.isV (.bool false), Ri.isV (.slice (some ⟨gO, 0, none⟩) m m), Ri.isV (.int .i64 ((q : Nat) : Int)), Ri.isV (.pointer (some ⟨gO, 0 + q * 1, none⟩)), Ri.isV (.bool ov), Ri.isV (.bool ov), Ri.isV (.pointer (some ⟨g, 0 + (aN + q) * 1, none⟩)), (fun _ _ => True)]) (by kernel_rfl) (by kernel_rfl) (by kernel_rfl) (⟨HQZ.out.trans (Q.refl _).drew, Nat.le_refl _, fun _ _ _ => rfl, by rw [if_neg (by decide)]; exact HGZ.out⟩) (Ri.phi_mono ?_) (Ri.phi_fix ?_) ?_ ?_
          ·repeat' first | exact trivial | exact fun _ _ _ h _ => h | refine ⟨?_, ?_⟩
          ·repeat' first | exact trivial | exact fun _ _ _ _ h => h | refine ⟨?_, ?_⟩
          ·refine Ri.All.cons ?_ (.cons ?_ (.cons ?_ (.cons ?_ (.cons ?_ (.cons ?_ (.cons ?_ (.cons ?_ (.cons ?_ (.cons ?_ (.cons ?_ (.cons ?_ (.cons ?_ (.cons ?_ (.cons ?_ (.cons ?_ (.cons ?_ (.cons ?_ (.cons ?_ (.cons ?_ (.cons ?_ (.cons ?_ (.cons ?_ (.cons ?_ (.cons ?_ (.cons ?_ (Ri.All.nil))))))))))))))))))))))))))
           ·refine Ri.StepY.q (h := fun S9 f0 W9 hS hD hq hf Ac hA hB hO => ?_)
            have e1 := (hB 5).trans (show _ = .slice (some ⟨g, 0, none⟩) N N by simp [Act.eval])
            exact Ri.wp_value _ (Ri.run_mv rfl e1) rfl
           ·refine Ri.StepY.q (h := fun S9 f0 W9 hS hD hq hf Ac hA hB hO => ?_)
            have e1 := (hB 7).trans (show _ = .slice (some ⟨gp, 0, none⟩) np cp by simp [Act.eval])
            exact Ri.wp_value _ (Ri.run_mv rfl e1) rfl
           ·refine Ri.StepY.q (h := fun S9 f0 W9 hS hD hq hf Ac hA hB hO => ?_)
            have e1 := (hB 8).trans (show _ = .int .i64 (j : Nat) by simp [Act.eval])
            exact Ri.wp_value _ (Ri.run_mv rfl e1) rfl
           ·refine Ri.StepY.q (h := fun S9 f0 W9 hS hD hq hf Ac hA hB hO => ?_)
            have e1 := (hA 57 1).trans (hf 1)
            have e2 := (hA 58 2).trans (hf 2)
            exact Ri.wp_value _ (Ri.run_idx rfl e1 e2 Try.underlying135 (sz := 5) (by kernel_rfl) HLT.out) rfl
           ·refine Ri.StepY.q (h := fun S9 f0 W9 hS hD hq hf Ac hA hB hO => ?_)
            have e1 := (hA 59 3).trans (hf 3)
            exact Ri.wp_value _ (Ri.run_fld (f := _) rfl e1 Try.underlying107 rfl (sz := 0) (by kernel_rfl)) rfl
           ·refine Ri.StepY.q (h := fun S9 f0 W9 hS hD hq hf Ac hA hB hO => ?_)
            have e1 := (hA 60 4).trans (hf 4)
            exact Ri.wp_value _ (Ri.run_ld1 rfl e1 Try.underlying3 rfl (KPA.out W9 hq.2.2.1)) rfl
           ·refine Ri.StepY.q (h := fun S9 f0 W9 hS hD hq hf Ac hA hB hO => ?_)
            have e1 := (hB 10).trans (show _ = .int .i64 (q : Nat) by simp [Act.eval])
            exact Ri.wp_value _ (Ri.run_mv rfl e1) rfl
           ·refine Ri.StepY.q (h := fun S9 f0 W9 hS hD hq hf Ac hA hB hO => ?_)
            have e1 := (hA 61 5).trans (hf 5)
            have e2 := (hA 62 6).trans (hf 6)
            have hb9 := HBD.out
            exact Ri.wp_value _ ((Ri.run_add rfl e1 e2 Try.underlying3 (by omega) (by omega)).trans (by rw [Int.natCast_add])) rfl
           ·refine Ri.StepY.q (h := fun S9 f0 W9 hS hD hq hf Ac hA hB hO => ?_)
            have e1 := (hB 5).trans (show _ = .slice (some ⟨g, 0, none⟩) N N by simp [Act.eval])
            exact Ri.wp_value _ (Ri.run_mv rfl e1) rfl
           ·refine Ri.StepY.q (h := fun S9 f0 W9 hS hD hq hf Ac hA hB hO => ?_)
            have e1 := (hB 7).trans (show _ = .slice (some ⟨gp, 0, none⟩) np cp by simp [Act.eval])
            exact Ri.wp_value _ (Ri.run_mv rfl e1) rfl
           ·refine Ri.StepY.q (h := fun S9 f0 W9 hS hD hq hf Ac hA hB hO => ?_)
            have e1 := (hB 8).trans (show _ = .int .i64 (j : Nat) by simp [Act.eval])
            exact Ri.wp_value _ (Ri.run_mv rfl e1) rfl
           ·refine Ri.StepY.q (h := fun S9 f0 W9 hS hD hq hf Ac hA hB hO => ?_)
            have e1 := (hA 65 9).trans (hf 9)
            have e2 := (hA 66 10).trans (hf 10)
            exact Ri.wp_value _ (Ri.run_idx rfl e1 e2 Try.underlying135 (sz := 5) (by kernel_rfl) HLT.out) rfl
           ·refine Ri.StepY.q (h := fun S9 f0 W9 hS hD hq hf Ac hA hB hO => ?_)
            have e1 := (hA 67 11).trans (hf 11)
            exact Ri.wp_value _ (Ri.run_fld (f := _) rfl e1 Try.underlying107 rfl (sz := 0) (by kernel_rfl)) rfl
           ·refine Ri.StepY.q (h := fun S9 f0 W9 hS hD hq hf Ac hA hB hO => ?_)
            have e1 := (hA 68 12).trans (hf 12)
            exact Ri.wp_value _ (Ri.run_ld1 rfl e1 Try.underlying3 rfl (KPA.out W9 hq.2.2.1)) rfl
           ·refine Ri.StepY.q (h := fun S9 f0 W9 hS hD hq hf Ac hA hB hO => ?_)
            have e1 := (hB 10).trans (show _ = .int .i64 (q : Nat) by simp [Act.eval])
            exact Ri.wp_value _ (Ri.run_mv rfl e1) rfl
           ·refine Ri.StepY.q (h := fun S9 f0 W9 hS hD hq hf Ac hA hB hO => ?_)
            have e1 := (hA 69 13).trans (hf 13)
            have e2 := (hA 70 14).trans (hf 14)
            have hb9 := HBD.out
            exact Ri.wp_value _ ((Ri.run_add rfl e1 e2 Try.underlying3 (by omega) (by omega)).trans (by rw [Int.natCast_add])) rfl
           ·refine Ri.StepY.q (h := fun S9 f0 W9 hS hD hq hf Ac hA hB hO => ?_)
            have e1 := (hA 64 8).trans (hf 8)
            have e2 := (hA 71 15).trans (hf 15)
            exact Ri.wp_value _ (Ri.run_idx rfl e1 e2 Try.underlying154 (sz := 1) (by kernel_rfl) HIN.out) rfl
           ·refine Ri.StepY.q (h := fun S9 f0 W9 hS hD hq hf Ac hA hB hO => ?_)
            have e1 := (hA 72 16).trans (hf 16)
            have hbk9 := hq.2.2.2
            rw [(hO 25).1, if_neg (by decide)] at hbk9
            have hc9 := cell_blkJ hbk9 (HCV.out)
            exact Ri.wp_value _ (Ri.run_ld1 rfl e1 Try.underlying4 rfl (by rw [Nat.zero_add, Nat.mul_one]; exact hc9)) rfl
           ·refine Ri.StepY.q (h := fun S9 f0 W9 hS hD hq hf Ac hA hB hO => ?_)
            have e1 := (hA 73 17).trans (hf 17)
            exact Ri.wp_value _ (Ri.run_mv rfl e1) rfl
           ·refine Ri.StepY.gq (by kernel_rfl) rfl rfl (by simp) fun S9 f0 W9 hS hD hq hf Ac hA hB hO => ⟨hf 18, ?_⟩
            have e1 := (hB 9).trans (show _ = .slice (some ⟨gO, 0, none⟩) m m by simp [Act.eval])
            exact Ri.wp_value _ (Ri.run_mv rfl e1) rfl
           ·refine Ri.StepY.gq (by kernel_rfl) rfl rfl (by simp) fun S9 f0 W9 hS hD hq hf Ac hA hB hO => ⟨hf 18, ?_⟩
            have e1 := (hB 10).trans (show _ = .int .i64 (q : Nat) by simp [Act.eval])
            exact Ri.wp_value _ (Ri.run_mv rfl e1) rfl
           ·refine Ri.StepY.gq (by kernel_rfl) rfl rfl (by simp) fun S9 f0 W9 hS hD hq hf Ac hA hB hO => ⟨hf 18, ?_⟩
            have e1 := (hA 75 19).trans (hf 19)
            have e2 := (hA 76 20).trans (hf 20)
            exact Ri.wp_value _ (Ri.run_idx rfl e1 e2 Try.underlying154 (sz := 1) (by kernel_rfl) HQM.out) rfl
           ·refine Ri.StepY.gq (by kernel_rfl) rfl rfl (by simp) fun S9 f0 W9 hS hD hq hf Ac hA hB hO => ⟨hf 18, ?_⟩
            have e1 := (hA 77 21).trans (hf 21)
            exact Ri.wp_value _ (Ri.run_ld1 rfl e1 Try.underlying4 rfl (KOV.out W9 hq.2.2.1)) rfl
           ·refine Ri.StepY.q (h := fun S9 f0 W9 hS hD hq hf Ac hA hB hO => ?_)
            have e1 := (hA 74 18).trans (hf 18)
            have e2 := (hA 78 22).trans (hf 22)
            exact Ri.wp_value _ (Ri.run_pick rfl e1 (by simpa [Act.eval] using e2)) rfl
           ·refine Ri.StepY.q (h := fun S9 f0 W9 hS hD hq hf Ac hA hB hO => ?_)
            have e1 := (hA 56 0).trans (hf 0)
            have e2 := (hA 63 7).trans (hf 7)
            exact Ri.wp_value _ (Ri.run_idx rfl e1 e2 Try.underlying154 (sz := 1) (by kernel_rfl) HIN.out) rfl
           ·refine Ri.StepY.c (h := fun S9 f0 W9 hS hD hq hf Ac hA hB hO => ?_)
            have e1 := (hA 80 24).trans (hf 24)
            have e2 := (hA 79 23).trans (hf 23)
            rw [Nat.zero_add, Nat.mul_one] at e1
            have hbk9 := hq.2.2.2
            rw [hS, if_neg (by decide)] at hbk9
            exact Ri.wp_store1 rfl e1 e2 (by kernel_rfl) rfl rfl (cell_blkJ hbk9 HCV.out) (frz_new (j := aN + q) hbk9) ⟨undef, rfl, hq.set1 hS HGW.out HNX.out _, trivial⟩
          ·intro S9 f0 w8 hS hq8 hf
           simp only [Ri.acts, Act.put, List.setIfInBounds_toArray, List.set_cons_zero, List.set_cons_succ, Nat.zero_add, Nat.reduceAdd]
           have hbk := hq8.2.2.2
           rw [hS 25 (by simp), if_pos rfl] at hbk
           have HBK := hide hbk
           have HQ8 := hide hq8.1
           have HOT := hide hq8.2.2.1
           have HSZ8 := hide hq8.2.1
           clear hf hq8 hS hbk
           go_wp2_with fail
           go_roundw
           case rel => exact ⟨q + 1, by omega, by go_num, by rw [HREL.out]; exact HBK.out, HOO.out.move HOT.out HSZ8.out, HQ8.out⟩
           case measure => simp [intOf] <;> omega
        ·have hd1 : decide ((q : Int) < (m : Int)) = false := by simp; omega
         have hd0 : decide (q < m) = false := by simp; omega
         obtain rfl : q = m := by omega
         have HFIN : Hid (ownTo wd l (j + 1) = orTo (ownTo wd l j) aN o q) := hide (by
          rw [ownTo_succ, HAN.out, HPP.out, HO9.out, Int.toNat_natCast]
          unfold orAt
          rw [HOL.out])
         have HGZ := hide hgz
         clear hgz hoi hqz
         go_wp2_with fail
         go_roundw
         case rel => exact ⟨j + 1, by omega, by go_num, by rw [HFIN.out]; exact HGZ.out, HOO.out.pl, HQZ.out⟩
         case measure => simp [intOf] <;> omega
     ·have hd1 : decide ((j : Int) < (np : Int)) = false := by simp; omega
      have hd0 : decide (j < np) = false := by simp; omega
      obtain rfl : j = np := by omega
      subst hvp0
      clear hgj hown hq hnc0
      go_wp2_with fail
      go_ret
      refine ⟨g, by rw [HLEN.out] <;> rfl, HGWW.out, ?_, HQ2.out.trans HQ.out⟩
      rw [HALL.out, HNP.out]
      exact HGJ.out
end Go.Proofs.Ytbgbalfhbficaaa
