/- The law LinkPatches: its walk. Conditions: the objects read as such. -/
import Derived.Test.YtiilkiggfjpibaaLinkXd
import Derived.Test.YtiilkiggfjpibaaLinkU2
namespace Go.Proofs.Ytiilkiggfjpibaa
open Go.RowKit LK
set_option linter.unusedVariables false
set_option linter.unusedSimpArgs false
theorem chE_le (n : Nat) (os : List OV) (i : Int) (o : OV) : chE n os i o ≤ 10 := by
  unfold chE
  split
  · unfold changeE
    split
    · have := listedO_le os; omega
    · split
      · have := valid_le o; omega
      · decide
  · split
    · decide
    · split <;> decide
/-- what may change is known: the change is granted -/
theorem chg_yes {n : Nat} {os : List OV} {i : Int} {o : OV} (hn : os.length = n) (h : chE n os i o = 0) : ∃ (k : Nat) (p : OV), i = (k : Int) ∧ k < n ∧ os[k]? = some p ∧ canB os k o p = true ∧ o.valid = 0 ∧ listedO os = 0 ∧ changeE n os i o = 0 := by
  have h0 : changeE n os i o = 0 := Classical.byContradiction fun h9 => by
    unfold chE at h
    rw [if_pos h9] at h
    exact h9 h
  obtain ⟨hl0, hi0, hi1, hov⟩ := change_ok h0
  obtain ⟨k, rfl⟩ : ∃ k : Nat, i = (k : Int) := ⟨i.toNat, by omega⟩
  obtain ⟨p, hp⟩ : ∃ p, os[k]? = some p := ⟨_, List.getElem?_eq_getElem (by omega)⟩
  have hcb : canB os k o p = true := by
    unfold chE at h
    rw [if_neg (by simp [h0]), Int.toNat_natCast, hp] at h
    dsimp only at h
    split at h
    · assumption
    · cases h
  exact ⟨k, p, rfl, by omega, hp, hcb, hov, hl0, h0⟩
theorem chg_pat {n : Nat} {os : List OV} {k : Nat} {o p : OV} {xs : List Int} (h0 : changeE n os (k : Int) o = 0) (hp : os[k]? = some p) (hc : canB os k o p = true) (hx : imgR os = some (xs.map (Value.int .u8))) : patE n os (k : Int) o xs = 0 := by
  unfold patE
  rw [if_neg (by simp [h0]), Int.toNat_natCast, hp]
  dsimp only
  rw [if_pos hc, if_pos (imgI_some hx)]
/-- a byte that is in no stretch stays -/
theorem chg_stay {os : List OV} {k : Nat} {o p : OV} {xs ys : List Int} (hp : os[k]? = some p) (hc : canB os k o p = true) (hO : ∀ q ∈ os, q.valid = 0 ∧ q.1.xs.length = q.1.n ∧ q.1.n ≤ 512) (ho : o.valid = 0 ∧ o.1.xs.length = o.1.n ∧ o.1.n ≤ 512) (h1 : imgR os = some (xs.map (Value.int .u8))) (h2 : imgR (os.set k o) = some (ys.map (Value.int .u8))) (hn : os.length ≤ 8) :
    xs.length = ys.length ∧ xs.length ≤ 4352 ∧ ∀ m, m < xs.length → covB (runsTo (covB (rawTo os k (wantS o p) os.length)) (offF os + 1)) m = false → xs[m]? = ys[m]? := by
  obtain ⟨ha, hl, -⟩ := patch_agr hp (can_room hc) hO ho h1 h2 hn
  have ht := raw_tot (raw_ok (o := o) hp (fun q hq => hO q hq) hn)
  have hlx : xs.length = offF os := by simpa using hl
  have hly : xs.length = ys.length := by simpa using ha.1
  refine ⟨hly, by omega, fun m hm hcv => ?_⟩
  have hnc : ¬ Cov (rawTo os k (wantS o p) os.length) m := fun hc9 => by
    have h9 := ((runI (M := covB (rawTo os k (wantS o p) os.length)) (offF os + 1) (by omega)).cov m).2 ⟨by omega, covB_iff.2 hc9⟩
    rw [← covB_iff] at h9
    rw [h9] at hcv
    cases hcv
  have h9 := ha.2 m hnc
  rw [List.getElem?_map, List.getElem?_map, List.getElem?_eq_getElem hm, List.getElem?_eq_getElem (by omega)] at h9
  rw [List.getElem?_eq_getElem hm, List.getElem?_eq_getElem (by omega)]
  simpa using h9
theorem chg_len {os : List OV} {k : Nat} {p : OV} {xs : List Int} (hp : os[k]? = some p) (hO : ∀ q ∈ os, q.valid = 0 ∧ q.1.xs.length = q.1.n ∧ q.1.n ≤ 512) (h1 : imgR os = some (xs.map (Value.int .u8))) (hn : os.length ≤ 8) : xs.length ≤ 4352 := by
  have ht := raw_tot (raw_ok (o := p) hp (fun q hq => hO q hq) hn)
  have e := imgR_T h1
  have e2 := imgT_length (T := tabF 0 0 os) (a := 0) (L := []) fun q hq => (hO q hq).2.1
  rw [← e] at e2
  simp at e2
  omega
theorem covB_take {ts : List St} {m : Nat} {s : St} (h : ts[m]? = some s) (n : Nat) : covB (ts.take (m + 1)) n = (covB (ts.take m) n || (decide (s.1.val ≤ n) && decide (n < s.2.val))) := by
  rw [List.take_add_one, h]
  exact covB_snoc _ _ _
set_option maxRecDepth 100000 in
set_option maxHeartbeats 4000000 in
theorem LinkPatches_true (L : SlV OV) (i : Int) (o : OV) (w : World) (hO : ObsR w L.A L.n L.c L.xs) (hc : L.c ≤ 140737488351232) (ho : ObR w o) :
    Calls Try.prog 10 #[.agg #[L.val, .int .i64 i, o.1.val, o.2.1.val, o.2.2.val]] w fun e w' => e = .returned (.bool true) ∧ Q w w' := by
  have HLn := hide (fun W g h h2 => Long_any (some ⟨g, 0, none⟩) 1 1 [o] W (obs_single (o := o) h h2) (by decide))
  have hon := one_any o.1.A o.2.1.A o.2.2.A o.1.n o.1.c o.2.1.n o.2.1.c o.2.2.n o.2.2.c
  have HON := hide hon
  obtain ⟨os, hos⟩ : ∃ os, L.xs = os := ⟨_, rfl⟩
  rw [hos] at hO
  have HO := hide hO
  have HOB := hide ho
  have HLEN := hide hO.sl.len
  have HLO := hide (fun W (h : Q w W) => Long_any L.A L.n L.c os W (hO.up h) hc)
  have HIN : Hid (∀ q ∈ os.set i.toNat o, In8 q.1.xs) := hide fun q hq => by
    rcases List.mem_or_eq_of_mem_set hq with h9 | h9
    · exact (hO.all q h9).bok
    · rw [h9]; exact ho.bok
  have HIN0 : Hid (∀ q ∈ os, In8 q.1.xs) := hide fun q hq => (hO.all q hq).bok
  have HC1 := hide (fun W (h : Q w W) => CanPatch_any L.A L.n L.c os i o W (hO.up h) (ho.up h))
  have HC2 := hide (fun W (h : Q w W) => rCanPatch_any L.A L.n L.c os i o W (hO.up h) (ho.up h))
  have HG1 := hide (fun W (h : Q w W) => Changed_any L.A L.n L.c os i o W (hO.up h) (ho.up h))
  have HG2 := hide (fun W (h : Q w W) => rChanged_any L.A L.n L.c os i o W (hO.up h) (ho.up h))
  have HIM := hide (fun W (h : Q w W) => Image_any L.A L.n L.c os W (hO.up h))
  have HPT := hide (fun W (l : SlV Int) (hb : B8 W l) (hln : l.n ≤ 1000000) (h : Q w W) => Patch_any l L.A L.n L.c os i o W hb (hO.up h) (ho.up h) hln)
  have HWI := hide (fun W (h : Q w W) (k : Nat) (h1 : k < L.n) (h2 : L.n ≤ 8) => With_any L.A L.n L.c os k o W (hO.up h) h1 h2)
  have hchl := chE_le L.n os i o
  obtain ⟨o0, ho0⟩ : ∃ o0, o0 = o := ⟨_, rfl⟩
  rw [← ho0] at HC1 HC2 HG1 HG2 HPT HWI HIN HOB HLn hchl
  have HOZ := hide ho0
  obtain ⟨LA, Ln, Lc, Lx⟩ := L
  dsimp only at HLO HC1 HC2 HG1 HG2 HIM HPT HWI HLEN hchl HO
  unfold ChgP at HG1 HG2
  obtain ⟨ce, hce⟩ : ∃ ce, changeE Ln os i o0 = ce := ⟨_, rfl⟩
  obtain ⟨cp, hcp⟩ : ∃ cp, cpE Ln os i o0 = cp := ⟨_, rfl⟩
  obtain ⟨che, hche⟩ : ∃ che, chE Ln os i o0 = che := ⟨_, rfl⟩
  obtain ⟨cx, hcx⟩ : ∃ cx, chX Ln os i o0 = cx := ⟨_, rfl⟩
  rw [hce, hcp] at HC1 HC2
  rw [hche, hcx] at HG1 HG2
  obtain ⟨tn, htn⟩ : ∃ tn, cx.length = tn := ⟨_, rfl⟩
  rw [htn] at HG1 HG2
  have HTN := hide htn
  rw [hche] at hchl
  have HCHE := hide hche
  have HCX := hide hcx
  obtain ⟨⟨A0, n0, c0, bs⟩, ⟨A1, n1, c1, ss⟩, ⟨A2, n2, c2, ws⟩⟩ := o
  have eO : obV o0 = .agg #[.slice A0 n0 c0, .slice A1 n1 c1, .slice A2 n2 c2] := by rw [ho0]; rfl
  simp only [eO] at HC1 HC2 HG1 HG2 HPT HWI
  unfold SlV.val at HPT
  dsimp only at HON
  unfold SlV.val
  dsimp only
  obtain ⟨w2, hw2⟩ : ∃ w2, w.alloc (.cells #[.slice LA Ln Lc, .int .i64 i, .slice A0 n0 c0, .slice A1 n1 c1, .slice A2 n2 c2] 40) = w2 := ⟨_, rfl⟩
  have hq2 : Q w w2 := by rw [← hw2]; exact (Q.refl w).alloc _
  have hs2 : w.heap.size < w2.heap.size := by rw [← hw2]; simp
  have k0 : w2.cell? ⟨w.heap.size, 0, none⟩ = some (.slice LA Ln Lc) := by rw [← hw2]; simp
  have k1 : w2.cell? ⟨w.heap.size, 1, none⟩ = some (.int .i64 i) := by rw [← hw2]; simp
  have k2 : w2.cell? ⟨w.heap.size, 2, none⟩ = some (.slice A0 n0 c0) := by rw [← hw2]; simp
  have k3 : w2.cell? ⟨w.heap.size, 3, none⟩ = some (.slice A1 n1 c1) := by rw [← hw2]; simp
  have k4 : w2.cell? ⟨w.heap.size, 4, none⟩ = some (.slice A2 n2 c2) := by rw [← hw2]; simp
  have K0 := hide k0
  have K1 := hide k1
  have K2 := hide k2
  have K3 := hide k3
  have K4 := hide k4
  have KA : Hid (∀ W, Q w2 W → W.cell? ⟨w.heap.size, 0, none⟩ = some (.slice LA Ln Lc) ∧ W.cell? ⟨w.heap.size, 1, none⟩ = some (.int .i64 i) ∧ W.cell? ⟨w.heap.size, 2, none⟩ = some (.slice A0 n0 c0) ∧ W.cell? ⟨w.heap.size, 3, none⟩ = some (.slice A1 n1 c1) ∧ W.cell? ⟨w.heap.size, 4, none⟩ = some (.slice A2 n2 c2)) := hide fun W h => ⟨(h.facts.1 _ 0 hs2).trans K0.out, (h.facts.1 _ 1 hs2).trans K1.out, (h.facts.1 _ 2 hs2).trans K2.out, (h.facts.1 _ 3 hs2).trans K3.out, (h.facts.1 _ 4 hs2).trans K4.out⟩
  have HCHL := hide hchl
  have HW2 := hide hw2
  have HQ2 := hide hq2
  clear hw2 hq2
  clear hO ho hon hos hc hce hcp hche hcx htn hchl eO ho0 K0 K1 K2 K3 K4
  go_enter Try.func10, Try.ntmps10
  go_wp2_with fail
  rw [HW2.out]
  clear k1 k2 k3 k4
  go_wp2_with fail
  refine (HLO.out w2 HQ2.out).mono ?_
  rintro e w3 ⟨rfl, hq3⟩
  have HQ3 := hide (HQ2.out.trans hq3)
  have HQ23 := hide hq3
  clear k0
  cases hlb : longB os with
  | true =>
    clear hlb hq3
    go_wp2_with fail
    refine (known_any w3).mono ?_
    rintro e w5 ⟨rfl, hq5⟩
    go_wp2_with fail
    go_ret
    exact ⟨rfl, HQ3.out.trans hq5⟩
  | false =>
    obtain ⟨k0, k1, k2, k3, k4⟩ := KA.out w3 hq3
    clear hlb hq3
    go_wp2_with fail
    refine (HON.out w3).mono ?_
    rintro e w4 ⟨g, rfl, hg, hgs, hq4⟩
    rw [HOZ.out] at HLn HOB
    have HL4 := hide (HLn.out w4 g hg ((HOB.out.up HQ3.out).up hq4))
    rw [← HOZ.out] at HOB
    have HQ4 := hide (HQ3.out.trans hq4)
    have HQ24 := hide (HQ23.out.trans hq4)
    clear hg hq4 k0 k1 k2 k3 k4 HLn
    go_wp2_with fail
    refine HL4.out.mono ?_
    rintro e w5 ⟨rfl, hq5⟩
    have HQ5 := hide (HQ4.out.trans hq5)
    have HQ25 := hide (HQ24.out.trans hq5)
    cases hlb : longB [((⟨A0, n0, c0, bs⟩, ⟨A1, n1, c1, ss⟩, ⟨A2, n2, c2, ws⟩) : OV)] with
    | true =>
      clear hlb hq5
      go_wp2_with fail
      refine (known_any w5).mono ?_
      rintro e w6 ⟨rfl, hq6⟩
      go_wp2_with fail
      go_ret
      exact ⟨rfl, HQ5.out.trans hq6⟩
    | false =>
      clear hlb hq5 HL4
      obtain ⟨k0, k1, k2, k3, k4⟩ := KA.out w5 HQ25.out
      go_wp2_with fail
      refine (HC1.out w5 HQ5.out).mono ?_
      rintro e w6 ⟨rfl, hq6⟩
      have HQ6 := hide (HQ5.out.trans hq6)
      have HQ26 := hide (HQ25.out.trans hq6)
      clear k0 k1 k2 k3 k4 hq6
      obtain ⟨k0, k1, k2, k3, k4⟩ := KA.out w6 HQ26.out
      go_wp2_with fail
      refine (HC2.out w6 HQ6.out).mono ?_
      rintro e w7 ⟨rfl, hq7⟩
      have HQ7 := hide (HQ6.out.trans hq7)
      have HQ27 := hide (HQ26.out.trans hq7)
      clear k0 k1 k2 k3 k4 hq7
      obtain ⟨k0, k1, k2, k3, k4⟩ := KA.out w7 HQ27.out
      go_wp2_with fail
      refine (HG1.out w7 HQ7.out).mono ?_
      rintro e w8 ⟨hq8, B8_, f8, rfl, hs8⟩
      have HQ8 := hide (HQ7.out.trans hq8)
      have HQ28 := hide (HQ27.out.trans hq8)
      have HS8 := hide hs8
      clear k0 k1 k2 k3 k4 hq8 hs8
      obtain ⟨k0, k1, k2, k3, k4⟩ := KA.out w8 HQ28.out
      go_wp2_with fail
      refine (HG2.out w8 HQ8.out).mono ?_
      rintro e w9 ⟨hq9, B9, f9, rfl, hs9⟩
      have HQ9 := hide (HQ8.out.trans hq9)
      have HQ29 := hide (HQ28.out.trans hq9)
      have HS8 := hide (HS8.out.up hq9)
      have HSS := hide (SameStretches_same _ _ _ _ _ _ w9 HS8.out hs9)
      clear k0 k1 k2 k3 k4 hq9 hs9 HG1 HG2 HC1 HC2
      obtain ⟨k0, k1, k2, k3, k4⟩ := KA.out w9 HQ29.out
      have t1 : (cp != cp) = false := by cases cp <;> rfl
      have t2 : ((ce : Int) != (ce : Int)) = false := by simp
      have t3 : ((che : Int) != (che : Int)) = false := by simp
      go_wp2_with fail
      refine HSS.out.mono ?_
      rintro e w10 ⟨rfl, hq10⟩
      have HQ10 := hide (HQ9.out.trans hq10)
      have HQ210 := hide (HQ29.out.trans hq10)
      have HS8 := hide (HS8.out.up hq10)
      clear k0 k1 k2 k3 k4 hq10
      obtain ⟨k0, k1, k2, k3, k4⟩ := KA.out w10 HQ210.out
      go_wp2_with fail
      refine (HIM.out w10 HQ10.out).mono ?_
      rintro e w11 ⟨hq11, hcase⟩
      have HQ11 := hide (HQ10.out.trans hq11)
      have HQ211 := hide (HQ210.out.trans hq11)
      have HS8 := hide (HS8.out.up hq11)
      clear k0 k1 k2 k3 k4 t1 t2 t3 HIM
      by_cases hz : che = 0
      · have d1 : ((che : Int) != 0) = false := by rw [hz]; rfl
        obtain ⟨k, p, rfl, hk, hp, hcb, hov, hl0, hc0⟩ := chg_yes HLEN.out (HCHE.out.trans hz)
        obtain ⟨h8, hv⟩ := listed_zero2 hl0
        rcases hcase with ⟨h9, -⟩ | ⟨-, hcase⟩
        · exact absurd hl0 h9
        rcases hcase with ⟨-, rfl⟩ | ⟨L11, v11, N11, hL11, rfl, hown11⟩
        · have d2 : ((4 : Int) != 0) = true := rfl
          clear hz hp hcb hov hl0 hc0 h8 hv hq11
          go_wp2_with fail
          refine (known_any w11).mono ?_
          rintro e w12 ⟨rfl, hq12⟩
          go_wp2_with fail
          go_ret
          exact ⟨rfl, HQ11.out.trans hq12⟩
        have hByt : Byt L11 := Byt.img HIN0.out ⟨[], rfl, fun x hx => by cases hx⟩ (show imgF (tabF 0 0 os) 0 os [] = some L11 from hL11)
        obtain ⟨xs, rfl, hin⟩ := hByt
        have hN : N11 = xs.length := by have := hown11.1; simp at this; omega
        subst hN
        obtain ⟨l11, rfl, hx11, hn11, hb11⟩ := B8.own hown11
        obtain ⟨E, em, ec, ex⟩ := l11
        dsimp only at hx11 hn11
        subst hx11
        have hpz := chg_pat hc0 hp hcb hL11
        have hOA : ∀ q ∈ os, q.valid = 0 ∧ q.1.xs.length = q.1.n ∧ q.1.n ≤ 512 := fun q hq => ⟨hv q hq, (HO.out.all q hq).b.len, (valid_parts (HO.out.all q hq).s.len (hv q hq)).1⟩
        have hoA : o0.valid = 0 ∧ o0.1.xs.length = o0.1.n ∧ o0.1.n ≤ 512 := ⟨hov, HOB.out.b.len, (valid_parts HOB.out.s.len hov).1⟩
        have hxl := chg_len hp hOA hL11 h8
        have HP12 := hide (HPT.out w11 ⟨E, em, ec, ex⟩ hb11 (by dsimp only; omega) HQ11.out)
        have HS11 := hide hb11.sl
        unfold SlV.val at HP12 ⊢
        dsimp only at HP12 HS11 ⊢
        have HST := hide (fun (ys : List Int) (h2 : imgR (os.set k o0) = some (ys.map (Value.int .u8))) => chg_stay hp hcb hOA hoA hL11 h2 h8)
        have HCXR := hide ((HCX.out.symm.trans (chX_yes (HCHE.out.trans hz) hp)))
        have HEM := hide hn11
        have HXL := hide hxl
        have HKN := hide hk
        have HPZ := hide hpz
        have HL2 := hide (listed_with hcb hl0 hov)
        have HN8 := hide (show Ln ≤ 8 by have := HLEN.out; omega)
        have d0 : ((0 : Int) != 0) = false := rfl
        clear hz hp hcb hov hl0 hc0 h8 hv hq11 hL11 hown11 hin hn11 hb11 hpz hOA hoA hxl hk
        obtain ⟨k0, k1, k2, k3, k4⟩ := KA.out w11 HQ211.out
        go_wp2_with fail
        refine HP12.out.mono ?_
        rintro e w12 ⟨hq12, v12, rfl, hcase⟩
        rw [HPZ.out] at hcase ⊢
        rcases hcase with ⟨h9, -⟩ | ⟨-, M12, N12, hM12, hown12⟩
        · exact absurd rfl h9
        have hin2 := HIN.out
        rw [Int.toNat_natCast] at hM12 hin2
        have hByt : Byt M12 := Byt.img hin2 ⟨[], rfl, fun x hx => by cases hx⟩ (show imgF (tabF 0 0 (os.set k o0)) 0 (os.set k o0) [] = some M12 from hM12)
        obtain ⟨ys, rfl, hiy⟩ := hByt
        have hN : N12 = ys.length := by have := hown12.1; simp at this; omega
        subst hN
        obtain ⟨A12, c12, rfl, hs12⟩ := sl_own8 hown12
        have HM12 := hide hM12
        have HIY := hide hiy
        have HS12 := hide hs12
        have HQ12 := hide (HQ11.out.trans hq12)
        have HQ212 := hide (HQ211.out.trans hq12)
        have HQ112 := hide hq12
        have HWX := hide (HWI.out w12 HQ12.out k HKN.out HN8.out)
        clear k0 k1 k2 k3 k4 hq12 hM12 hin2 hiy hown12 hs12 d1 HP12
        obtain ⟨k0, k1, k2, k3, k4⟩ := KA.out w12 HQ212.out
        go_wp2_with fail
        refine HWX.out.mono ?_
        rintro e w13 ⟨v13, rfl, hown13, hq13⟩
        obtain ⟨Vn, cv, rfl, -⟩ := own_form hown13
        have HQ13 := hide (HQ12.out.trans hq13)
        have HQ113 := hide (HQ112.out.trans hq13)
        have HQ213 := hide hq13
        have HOB2 := hide (obs_with hown13 (HO.out.up HQ13.out) (HOB.out.up HQ13.out))
        have HIM2 := hide (Image_any Vn Ln cv (os.set k o0) w13 HOB2.out)
        clear k0 k1 k2 k3 k4 hown13 hq13 HWX HOB2
        go_wp2_with fail
        refine HIM2.out.mono ?_
        rintro e w14 ⟨hq14, hcase⟩
        rcases hcase with ⟨h9, -⟩ | ⟨-, hcase⟩
        · exact absurd HL2.out h9
        rcases hcase with ⟨h9, -⟩ | ⟨L3, v14, N3, h9, rfl, hown14⟩
        · rw [HM12.out] at h9; cases h9
        obtain rfl : L3 = ys.map (Value.int .u8) := by rw [HM12.out] at h9; injection h9 with h9; exact h9.symm
        have hN3 : N3 = ys.length := by have := hown14.1; simp at this; omega
        subst hN3
        obtain ⟨A14, c14, rfl, hs14⟩ := sl_own8 hown14
        have HQ14 := hide (HQ13.out.trans hq14)
        have HS12 := hide (HS12.out.up (HQ213.out.trans hq14))
        have HS11 := hide (HS11.out.up (HQ113.out.trans hq14))
        have HS8 := hide (HS8.out.up (HQ113.out.trans hq14))
        have cv1 := conv_sl Try.underlying30 Try.underlying5 Try.underlying9 HS12.out HIY.out
        have cv2 := conv_sl Try.underlying30 Try.underlying5 Try.underlying9 hs14 HIY.out
        have tt : ((strI ys).toList == (strI ys).toList) = true := by simp
        obtain ⟨hly, hl43, hstay⟩ := HST.out ys HM12.out
        have t5 : ((ys.length : Int) != (em : Int)) = false := by rw [HEM.out, hly]; simp
        have HLY := hide hly
        have HST2 := hide hstay
        have hem : em ≤ 4352 := by have := HEM.out; omega
        have hemi : (em : Int) ≤ 4352 := by omega
        have htnb : (tn : Int) ≤ 9223372036854775807 := by have := HS8.out.cap; have := HS8.out.most; omega
        have HY := hide (show ys.length = em by rw [HEM.out, hly])
        clear hq14 h9 hown14 hs14 hly hl43 hstay HIM2 HST
        go_wp2_with fail
        go_loopw [17] (fun vn wr => ∃ m : Nat, m ≤ em ∧ vn = .int .i64 m ∧ Q w14 wr) (fun vn _ => em - (intOf vn).toNat)
        case atStart => exact ⟨0, by omega, by go_num, Q.refl _⟩
        case round =>
          obtain ⟨m, hm, rfl, hqm⟩ := hrel
          obtain ⟨wm, rfl⟩ : ∃ wm : World, wm = wr := ⟨_, rfl⟩
          have HQM := hide hqm
          by_cases hmn : m < em
          · have hd1 : decide ((m : Int) < (em : Int)) = true := by simp; omega
            have hd0 : decide (m < em) = true := by simp; omega
            have hlti : (m : Int) < (em : Int) := by omega
            have HMN := hide hmn
            clear hqm cv1 cv2
            go_wp2_with fail
            go_loopw [18, 19] (fun vb vt wr => ∃ t : Nat, t ≤ tn ∧ vt = .int .i64 t ∧ vb = .bool (covB (cx.take t) m) ∧ Q w14 wr) (fun _ vt _ => tn - (intOf vt).toNat)
            case atStart => exact ⟨0, by omega, by go_num, rfl, HQM.out⟩
            case round =>
              obtain ⟨t, ht, rfl, rfl, hqt⟩ := hrel
              obtain ⟨wt, rfl⟩ : ∃ wt : World, wt = wr := ⟨_, rfl⟩
              have HQT := hide hqt
              by_cases htn : t < tn
              · have hd1t : decide ((t : Int) < (tn : Int)) = true := by simp; omega
                have htni : (t : Int) < (tn : Int) := by omega
                obtain ⟨b8, o8, st, e8, hb8, gt, ct⟩ := (HS8.out.up hqt).at_ len_encP (by decide) t htn
                cases e8
                have z0 : wt.cell? ⟨b8, o8 + t * 2, none⟩ = some (.int .i64 (st.1.val : Nat)) := ct 0 _ rfl
                have z1 : wt.cell? ⟨b8, o8 + t * 2 + 1, none⟩ = some (.int .i64 (st.2.val : Nat)) := ct 1 _ rfl
                have HGT := hide gt
                clear ct hqt gt
                cases hcv : covB (cx.take t) m with
                | true =>
                  have HCV := hide hcv
                  clear hcv
                  go_wp2_with fail
                  go_roundw
                  case rel => exact ⟨t + 1, by omega, by go_num, by rw [covB_take HGT.out, HCV.out]; rfl, HQT.out⟩
                  case measure => simp [intOf] <;> omega
                | false =>
                  have HCV := hide hcv
                  clear hcv
                  by_cases h1 : st.1.val ≤ m
                  · have a1 : decide (((st.1.val : Nat) : Int) ≤ (m : Int)) = true := by simp; omega
                    have a1' : decide ((m : Int) ≥ ((st.1.val : Nat) : Int)) = true := a1
                    by_cases h2 : m < st.2.val
                    · have a2 : decide ((m : Int) < ((st.2.val : Nat) : Int)) = true := by simp; omega
                      go_wp2_with fail
                      go_roundw
                      case rel => exact ⟨t + 1, by omega, by go_num, by rw [covB_take HGT.out, HCV.out]; simp [h1, h2], HQT.out⟩
                      case measure => simp [intOf] <;> omega
                    · have a2 : decide ((m : Int) < ((st.2.val : Nat) : Int)) = false := by simp; omega
                      go_wp2_with fail
                      go_roundw
                      case rel => exact ⟨t + 1, by omega, by go_num, by rw [covB_take HGT.out, HCV.out]; simp [h1, h2], HQT.out⟩
                      case measure => simp [intOf] <;> omega
                  · have a1 : decide (((st.1.val : Nat) : Int) ≤ (m : Int)) = false := by simp; omega
                    have a1' : decide ((m : Int) ≥ ((st.1.val : Nat) : Int)) = false := a1
                    go_wp2_with fail
                    go_roundw
                    case rel => exact ⟨t + 1, by omega, by go_num, by rw [covB_take HGT.out, HCV.out]; simp [h1], HQT.out⟩
                    case measure => simp [intOf] <;> omega
              · have hd1t : decide ((t : Int) < (tn : Int)) = false := by simp; omega
                have hte : covB (cx.take t) m = covB cx m := by rw [List.take_of_length_le (by have := HTN.out; omega)]
                rw [hte]
                have HTE := hide hte
                clear hte
                cases hcv : covB cx m with
                | true =>
                  clear hqt hcv
                  go_upto_region 24 with fail
                  have hxc := ext_cell
                  refine wp_region_ext (by kernel_rfl) (by kernel_rfl) ?_
                  repeat (go_big_quiet_step ((fail)))
                  clear hxc
                  refine wpQuiet_nil ?_
                  intro wz hwwz
                  have hqwz := q_of_ext hwwz
                  clear hwwz
                  obtain ⟨hcwz, hfwz, hzwz⟩ := hqwz.facts
                  try simp at hzwz
                  try have hs0wz : w.heap.size < wz.heap.size := by omega
                  try have hs1wz : w.heap.size + 1 < wz.heap.size := by omega
                  clear hcwz hfwz
                  go_wp2_with fail
                  go_roundw
                  case rel => exact ⟨m + 1, by omega, by go_num, HQT.out.trans hqwz⟩
                  case measure => simp [intOf] <;> omega
                | false =>
                  have hsame := HST2.out m (by have := HEM.out; omega) (by rw [← HCXR.out]; exact hcv)
                  obtain ⟨b1, o1, x1, e1, hb1, g1, x1c⟩ := (HS11.out.up hqt).at_ (fun _ => rfl) (by decide) m HMN.out
                  obtain ⟨b2, o2, x2, e2, hb2, g2, x2c⟩ := (HS12.out.up hqt).at_ (fun _ => rfl) (by decide) m (by rw [HY.out]; exact HMN.out)
                  cases e1
                  cases e2
                  obtain rfl : x1 = x2 := by rw [g1, g2] at hsame; injection hsame
                  have z1 : wt.cell? ⟨b1, o1 + m * 1, none⟩ = some (.int .u8 x1) := x1c 0 _ rfl
                  have z2 : wt.cell? ⟨b2, o2 + m * 1, none⟩ = some (.int .u8 x1) := x2c 0 _ rfl
                  rw [Nat.mul_one] at z1 z2
                  have t7 : (x1 != x1) = false := by simp
                  have hmyi : (m : Int) < (ys.length : Int) := by have := HY.out; omega
                  clear hqt hcv hsame g1 g2 x1c x2c
                  go_upto_region 24 with fail
                  have hxc := ext_cell
                  refine wp_region_ext (by kernel_rfl) (by kernel_rfl) ?_
                  repeat (go_big_quiet_step ((fail)))
                  clear hxc
                  refine wpQuiet_nil ?_
                  intro wz hwwz
                  have hqwz := q_of_ext hwwz
                  clear hwwz
                  obtain ⟨hcwz, hfwz, hzwz⟩ := hqwz.facts
                  try simp at hzwz
                  try have hs0wz : w.heap.size < wz.heap.size := by omega
                  try have hs1wz : w.heap.size + 1 < wz.heap.size := by omega
                  clear hcwz hfwz
                  go_wp2_with fail
                  go_roundw
                  case rel => exact ⟨m + 1, by omega, by go_num, HQT.out.trans hqwz⟩
                  case measure => simp [intOf] <;> omega
          · have hd1 : decide ((m : Int) < (em : Int)) = false := by simp; omega
            have hd0 : decide (m < em) = false := by simp; omega
            obtain rfl : m = em := by omega
            clear hqm cv1 cv2
            go_wp2_with fail
            refine (known_any wm).mono ?_
            rintro e w15 ⟨rfl, hq15⟩
            go_wp2_with fail
            go_ret
            exact ⟨rfl, HQ14.out.trans (HQM.out.trans hq15)⟩
      · have d1 : ((che : Int) != 0) = true := by simp; omega
        obtain ⟨v11, er, rfl⟩ : ∃ (v : Value) (er : Int), e = .returned (.tuple #[v, .int .i64 er]) := by
          rcases hcase with ⟨-, rfl⟩ | ⟨-, hcase⟩
          · exact ⟨_, _, rfl⟩
          rcases hcase with ⟨-, rfl⟩ | ⟨L11, v11, N11, -, rfl, -⟩
          · exact ⟨_, _, rfl⟩
          · exact ⟨_, _, rfl⟩
        clear hz hq11 hcase
        go_wp2_with fail
        refine (known_any w11).mono ?_
        rintro e w12 ⟨rfl, hq12⟩
        go_wp2_with fail
        go_ret
        exact ⟨rfl, HQ11.out.trans hq12⟩
end Go.Proofs.Ytiilkiggfjpibaa
