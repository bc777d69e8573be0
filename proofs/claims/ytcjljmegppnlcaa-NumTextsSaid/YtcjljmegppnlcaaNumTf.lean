/- The walk of the reference's Parse. Conditions: the base is one. (written by gen_rparse.py) -/
import Derived.Test.YtcjljmegppnlcaaNumTe
namespace Go.Proofs.Ytcjljmegppnlcaa
open Go.RowKit NP
set_option linter.unusedVariables false
theorem signed_abs (neg : Bool) (m : Nat) : (signed neg m).natAbs = m := by
  cases neg <;> simp [signed]
theorem txtI_len {b : Nat} (hb : 2 ≤ b) {n : Int} (h : n.natAbs ≤ 1099511627776) : (txtI b n).length ≤ 42 := by
  unfold txtI
  split
  · have := txtN_len hb 40 n.natAbs (Nat.lt_of_le_of_lt h (by decide))
    simp
    omega
  · have := txtN_len hb 40 n.toNat (Nat.lt_of_le_of_lt (by omega : n.toNat ≤ 1099511627776) (by decide))
    omega
theorem parseG_long {b : Nat} {l R : List UInt8} {neg : Bool} (hb : 2 ≤ b) (h : 45 < l.length) : parseG b l neg R = (0, 2) := by
  cases hm : numDg b 0 R with
  | none => exact parseG_none hm
  | some m =>
    by_cases hbig : 1099511627776 < m
    · exact parseG_big hm hbig
    · refine parseG_ne hm (fun e => ?_)
      have := txtI_len (b := b) hb (n := signed neg m) (by rw [signed_abs]; omega)
      rw [e] at this
      omega
theorem parseG_nil {b : Nat} {l : List UInt8} {neg : Bool} (hb : 2 ≤ b) (h : l ≠ [48]) : parseG b l neg [] = (0, 2) := by
  refine parseG_ne (m := 0) rfl (fun e => h ?_)
  have h0 : signed neg 0 = ((0 : Nat) : Int) := by cases neg <;> rfl
  rw [← e, h0, txtI_nat, txtN_lo (by omega)]
  rfl
set_option maxRecDepth 100000 in
set_option maxHeartbeats 2000000 in
theorem rParse_neg (l R : List UInt8) (hlr : l = 45 :: R) (b : Nat) (hb : 2 ≤ b) (hb2 : b ≤ 16) (hl : l.length ≤ 9223372036854775807) (w : World) :
    Calls Try.prog 33 #[.string (strB l), .int .i64 (b : Nat)] w fun e w' => e = .returned (.tuple #[.int .i64 (parseG b l true R).1, .int .i64 ((parseG b l true R).2 : Nat)]) ∧ Q w w' := by
  have C1 := hide (show Calls Try.prog 49 #[.int .i64 (b : Nat), .int .i64 2, .int .i64 16] w fun e w' => e = .returned (.bool true) ∧ w = w' from by have h := Within_any b 2 16 w; rw [show withinB b 2 16 = true by unfold withinB; simp; omega] at h; exact h)
  have C3 := hide (fun n h1 h2 w => based_any b n hb hb2 h1 h2 w)
  have HLR := hide hlr
  obtain ⟨S, hS⟩ : ∃ S, strB l = S := ⟨_, rfl⟩
  have hsz : S.size = l.length := by rw [← hS, strB_size]
  have hszr : S.size = R.length + 1 := by rw [hsz, hlr]; rfl
  have HS := hide hS
  have HSZ := hide hszr
  have HSZL := hide hsz
  have hsm : S.size ≤ 9223372036854775807 := by omega
  have hsmi : (S.size : Int) ≤ 9223372036854775807 := by omega
  have hbi : (b : Int) ≤ 16 := by omega
  have hbi0 : (0 : Int) ≤ (b : Int) := by omega
  have hs0 : (0 : Int) < (S.size : Int) := by omega
  have hs0n : 0 < S.size := by omega
  have hg0 : S[0]'hs0n = 45 := by
    have h := strB_get (l := l) (i := 0) (c := 45) (by rw [hS]; exact hs0n) (by rw [hlr]; rfl)
    subst hS
    exact h
  have t0 : decide ((0 : Int) < (S.size : Int)) = true := by simp; omega
  have t0n : decide (0 < S.size) = true := by simp; omega
  rw [hS]
  obtain ⟨pr, hpr⟩ : ∃ pr, parseG b l true R = pr := ⟨_, rfl⟩
  have HPR := hide hpr
  rw [hpr]
  have HB0 := hide hb
  have HQ1 := hide (Q.refl w)
  clear hS hsz hszr hpr hl hlr
  by_cases hlong : 45 < S.size
  · have t1 : decide ((45 : Int) < (S.size : Int)) = true := by simp; omega
    have t1n : decide (45 < S.size) = true := by simp; omega
    have t2 : ((S.size : Int) == 1) = false := beq_eq_false_iff_ne.2 (by omega)
    have hne : ¬ S.size = 1 := by omega
    have HG := hide (parseG_long (l := l) (R := R) (neg := true) HB0.out (by rw [← HSZL.out]; exact hlong))
    clear hlong
    go_enter Try.func33, Try.ntmps33
    go_wp2_with fail
    refine C1.out.mono ?_
    rintro e w1 ⟨rfl, rfl⟩
    go_wp2_with fail
    go_ret2
    exact ⟨by rw [← HPR.out, HG.out]; rfl, Q.refl _⟩
  have t1 : decide ((45 : Int) < (S.size : Int)) = false := by simp; omega
  have t1n : decide (45 < S.size) = false := by simp; omega
  by_cases hnil : R = []
  · have hs1 : S.size = 1 := by rw [HSZ.out, hnil]; rfl
    have HG := hide (show parseG b l true R = (0, 2) by rw [hnil]; exact parseG_nil HB0.out (by rw [HLR.out, hnil]; decide))
    clear hnil
    go_enter Try.func33, Try.ntmps33
    go_wp2_with fail
    refine C1.out.mono ?_
    rintro e w1 ⟨rfl, rfl⟩
    go_wp2_with fail
    go_ret2
    exact ⟨by rw [← HPR.out, HG.out]; rfl, Q.refl _⟩
  · have hpos : 0 < R.length := List.length_pos_iff.2 hnil
    have hne : ¬ S.size = 1 := by have := HSZ.out; omega
    have t2 : ((S.size : Int) == 1) = false := beq_eq_false_iff_ne.2 (by omega)
    clear hnil hlong
    go_enter Try.func33, Try.ntmps33
    go_wp2_with fail
    refine C1.out.mono ?_
    rintro e w1 ⟨rfl, rfl⟩
    go_wp2_with fail
    go_loopw [6, 8] (fun v6 vi wr => ∃ (k m : Nat), k ≤ R.length ∧ vi = .int .i64 (k + 1 : Nat) ∧ v6 = .int .i64 (m : Nat) ∧ numDg b 0 R = numDg b m (R.drop k) ∧ m ≤ 17592186044431 ∧ Q w wr) (fun _ vi _ => S.size - (intOf vi).toNat)
    case atStart => exact ⟨0, 0, by omega, by go_num, by go_num, rfl, by omega, HQ1.out⟩
    case round =>
      obtain ⟨k, m, hk, rfl, rfl, hnum, hm, hq⟩ := hrel
      have HNUM := hide hnum
      have HQ := hide hq
      have hmi : (m : Int) ≤ 17592186044431 := by omega
      obtain ⟨i, hi⟩ : ∃ i, k + 1 = i := ⟨_, rfl⟩
      have hki : (i : Int) = (k : Int) + 1 := by omega
      have HKI := hide hki
      have HI := hide hi
      rw [hi]
      clear hnum hq hki
      by_cases hlt : i < S.size
      · have hd1 : decide ((i : Int) < (S.size : Int)) = true := by simp; omega
        have hd0 : decide (i < S.size) = true := by simp; omega
        have hlti : (i : Int) < (S.size : Int) := by omega
        have hii : (i : Int) ≤ 9223372036854775807 := by omega
        obtain ⟨c, hc⟩ : ∃ c, R[k]? = some c := ⟨_, List.getElem?_eq_getElem (by have := HSZ.out; omega)⟩
        have HC := hide hc
        have hgc : S[i]'hlt = c := by
          have hc' : l[i]? = some c := by rw [HLR.out, ← hi]; rw [List.getElem?_cons_succ]; exact hc
          have h := strB_get (l := l) (i := i) (by rw [HS.out]; exact hlt) hc'
          have e := HS.out
          subst e
          exact h
        obtain ⟨d, hd⟩ : ∃ d, valN c = d := ⟨_, rfl⟩
        have HV := hide (fun w => show Calls Try.prog 59 #[.int .u8 (c.toNat : Nat)] w fun e w' => e = .returned (.int .i64 (d : Nat)) ∧ Q w w' from hd ▸ value_any c w)
        have HD := hide hd
        have hd16 : d ≤ 16 := by
          rw [← hd]
          unfold valN
          have := c.toNat_lt
          split
          · omega
          · split <;> omega
        have hd16i : (d : Int) ≤ 16 := by omega
        clear hc hd hi
        by_cases hv : d < b
        · have g1 : decide ((b : Int) ≤ (d : Int)) = false := by simp; omega
          have g1n : decide (b ≤ d) = false := by simp; omega
          by_cases hbig : 1099511627776 < m
          · have hg : decide ((1099511627776 : Int) < (m : Int)) = true := by simp; omega
            have HN := hide (show numDg b 0 R = none by rw [HNUM.out]; exact numDg_bad HC.out (.inr hbig))
            clear hbig hv
            go_wp2_with fail
            refine (HV.out _).mono ?_
            rintro e w4 ⟨rfl, hq4⟩
            have HQ4 := hide (HQ.out.trans hq4)
            clear hq4
            go_wp2_with fail
            go_ret2
            exact ⟨by rw [← HPR.out, parseG_none HN.out]; rfl, HQ4.out⟩
          · have hg : decide ((1099511627776 : Int) < (m : Int)) = false := by simp; omega
            have hm2 : m ≤ 1099511627776 := by omega
            have HN := hide (show numDg b 0 R = numDg b (m * b + d) (R.drop (k + 1)) by rw [HNUM.out, numDg_step HC.out (by rw [HD.out]; exact hv) hm2, HD.out])
            obtain ⟨p, hp⟩ : ∃ p, m * b = p := ⟨_, rfl⟩
            have hpb : p ≤ 17592186044416 := by rw [← hp]; exact Nat.mul_le_mul hm2 hb2
            have hpi : (m : Int) * (b : Int) = (p : Int) := by rw [← hp]; simp
            have hpbi : (p : Int) ≤ 17592186044416 := by omega
            have HP := hide hp
            have hd15 : d ≤ 15 := by omega
            have hd15i : (d : Int) ≤ 15 := by omega
            clear hp hbig hm2 hv
            go_wp2_with fail
            refine (HV.out _).mono ?_
            rintro e w4 ⟨rfl, hq4⟩
            have HQ4 := hide (HQ.out.trans hq4)
            clear hq4
            go_wp2_with fail
            go_roundw
            case rel => exact ⟨k + 1, p + d, by have := HSZ.out; have := HI.out; omega, by have := HKI.out; go_num, by go_num, by rw [HN.out, HP.out], by omega, HQ4.out⟩
            case measure => simp [intOf] <;> omega
        · have g1 : decide ((b : Int) ≤ (d : Int)) = true := by simp; omega
          have g1n : decide (b ≤ d) = true := by simp; omega
          have HN := hide (show numDg b 0 R = none by rw [HNUM.out]; exact numDg_bad HC.out (.inl (by rw [HD.out]; omega)))
          clear hv
          go_wp2_with fail
          refine (HV.out _).mono ?_
          rintro e w4 ⟨rfl, hq4⟩
          have HQ4 := hide (HQ.out.trans hq4)
          clear hq4
          go_wp2_with fail
          go_ret2
          exact ⟨by rw [← HPR.out, parseG_none HN.out]; rfl, HQ4.out⟩
      · have hd1 : decide ((i : Int) < (S.size : Int)) = false := by simp; omega
        have hd0 : decide (i < S.size) = false := by simp; omega
        have HN := hide (show numDg b 0 R = some m by rw [HNUM.out, List.drop_eq_nil_of_le (by have := HSZ.out; omega)]; rfl)
        have hmul1 : (-1 : Int) * (m : Int) = -(m : Int) := by omega
        clear hlt hi
        by_cases hbig : 1099511627776 < m
        · have hgp : (1099511627776 : Int) < (m : Int) := by omega
          have hg : decide ((1099511627776 : Int) < (m : Int)) = true := by simp; omega
          have HG := hide (parseG_big (l := l) (neg := true) HN.out hbig)
          clear hbig
          go_wp2_with fail
          go_ret2
          exact ⟨by rw [← HPR.out, HG.out]; rfl, HQ.out⟩
        · have hgp : (m : Int) ≤ 1099511627776 := by omega
          have hg : decide ((1099511627776 : Int) < (m : Int)) = false := by simp; omega
          obtain ⟨T, hT⟩ : ∃ T, strB (txtI b (-(m : Int))) = T := ⟨_, rfl⟩
          have C4 := hide (show Calls Try.prog 56 #[.int .i64 (-(m : Int)), .int .i64 (b : Nat)] wr fun e w' => e = .returned (.string T) ∧ Q wr w' from hT ▸ C3.out (-(m : Int)) (by omega) (by omega) wr)
          have hsg : signed true m = -(m : Int) := rfl
          have hcm : (T.toList == S.toList) = decide (txtI b (-(m : Int)) = l) := by rw [← hT, ← HS.out]; exact cmp_strB _ _
          by_cases he : txtI b (-(m : Int)) = l
          · have HG := hide (parseG_ok (l := l) (neg := true) (R := R) HN.out hbig (by rw [hsg]; exact he))
            have HSG := hide hsg
            have hcb : (T.toList == S.toList) = true := by rw [hcm, he]; simp
            clear hbig hT hsg hcm he
            go_wp2_with fail
            refine C4.out.mono ?_
            rintro e w4 ⟨rfl, hq4⟩
            have HQ4 := hide (HQ.out.trans hq4)
            clear hq4
            go_wp2_with fail
            go_ret2
            exact ⟨by rw [← HPR.out, HG.out, HSG.out]; rfl, HQ4.out⟩
          · have HG := hide (parseG_ne (l := l) (neg := true) (R := R) HN.out (by rw [hsg]; exact he))
            have hcb : (T.toList == S.toList) = false := by rw [hcm]; simpa using he
            clear hbig hT hsg hcm he
            go_wp2_with fail
            refine C4.out.mono ?_
            rintro e w4 ⟨rfl, hq4⟩
            have HQ4 := hide (HQ.out.trans hq4)
            clear hq4
            go_wp2_with fail
            go_ret2
            exact ⟨by rw [← HPR.out, HG.out]; rfl, HQ4.out⟩
set_option maxRecDepth 100000 in
set_option maxHeartbeats 2000000 in
theorem rParse_pos (l R : List UInt8) (hlr : l = R) (c0 : UInt8) (r0 : List UInt8) (hc0 : R = c0 :: r0) (hne0 : c0 ≠ 45) (b : Nat) (hb : 2 ≤ b) (hb2 : b ≤ 16) (hl : l.length ≤ 9223372036854775807) (w : World) :
    Calls Try.prog 33 #[.string (strB l), .int .i64 (b : Nat)] w fun e w' => e = .returned (.tuple #[.int .i64 (parseG b l false R).1, .int .i64 ((parseG b l false R).2 : Nat)]) ∧ Q w w' := by
  have C1 := hide (show Calls Try.prog 49 #[.int .i64 (b : Nat), .int .i64 2, .int .i64 16] w fun e w' => e = .returned (.bool true) ∧ w = w' from by have h := Within_any b 2 16 w; rw [show withinB b 2 16 = true by unfold withinB; simp; omega] at h; exact h)
  have C3 := hide (fun n h1 h2 w => based_any b n hb hb2 h1 h2 w)
  have HLR := hide hlr
  obtain ⟨S, hS⟩ : ∃ S, strB l = S := ⟨_, rfl⟩
  have hsz : S.size = l.length := by rw [← hS, strB_size]
  have hszr : S.size = R.length := by rw [hsz, hlr]
  have HS := hide hS
  have HSZ := hide hszr
  have HSZL := hide hsz
  have hsm : S.size ≤ 9223372036854775807 := by omega
  have hsmi : (S.size : Int) ≤ 9223372036854775807 := by omega
  have hbi : (b : Int) ≤ 16 := by omega
  have hbi0 : (0 : Int) ≤ (b : Int) := by omega
  have hs0 : (0 : Int) < (S.size : Int) := by rw [hszr, hc0]; simp <;> omega
  have hs0n : 0 < S.size := by omega
  have hg0 : S[0]'hs0n = c0 := by
    have h := strB_get (l := l) (i := 0) (c := c0) (by rw [hS]; exact hs0n) (by rw [hlr, hc0]; rfl)
    subst hS
    exact h
  have hc45 : ((c0.toNat : Int) == 45) = false := by
    rw [beq_eq_false_iff_ne]
    intro e
    exact hne0 (UInt8.toNat_inj.1 (by show c0.toNat = 45; omega))
  have hc45n : (c0.toNat == 45) = false := by
    rw [beq_eq_false_iff_ne]
    intro e
    exact hne0 (UInt8.toNat_inj.1 (by show c0.toNat = 45; omega))
  have hc45m : ¬ c0.toNat = 45 := by
    intro e
    exact hne0 (UInt8.toNat_inj.1 (by show c0.toNat = 45; omega))
  have t0 : decide ((0 : Int) < (S.size : Int)) = true := by simp; omega
  have t0n : decide (0 < S.size) = true := by simp; omega
  have hpos0 : 0 < R.length := by rw [hc0]; simp
  clear hc0 hne0
  rw [hS]
  obtain ⟨pr, hpr⟩ : ∃ pr, parseG b l false R = pr := ⟨_, rfl⟩
  have HPR := hide hpr
  rw [hpr]
  have HB0 := hide hb
  have HQ1 := hide (Q.refl w)
  clear hS hsz hszr hpr hl hlr
  by_cases hlong : 45 < S.size
  · have t1 : decide ((45 : Int) < (S.size : Int)) = true := by simp; omega
    have t1n : decide (45 < S.size) = true := by simp; omega
    have t2 : ((S.size : Int) == 0) = false := beq_eq_false_iff_ne.2 (by omega)
    have hne : ¬ S.size = 0 := by omega
    have HG := hide (parseG_long (l := l) (R := R) (neg := false) HB0.out (by rw [← HSZL.out]; exact hlong))
    clear hlong
    go_enter Try.func33, Try.ntmps33
    go_wp2_with fail
    refine C1.out.mono ?_
    rintro e w1 ⟨rfl, rfl⟩
    go_wp2_with fail
    go_ret2
    exact ⟨by rw [← HPR.out, HG.out]; rfl, Q.refl _⟩
  have t1 : decide ((45 : Int) < (S.size : Int)) = false := by simp; omega
  have t1n : decide (45 < S.size) = false := by simp; omega
  · have hpos := hpos0
    have hne : ¬ S.size = 0 := by have := HSZ.out; omega
    have t2 : ((S.size : Int) == 0) = false := beq_eq_false_iff_ne.2 (by omega)
    clear hlong
    go_enter Try.func33, Try.ntmps33
    go_wp2_with fail
    refine C1.out.mono ?_
    rintro e w1 ⟨rfl, rfl⟩
    go_wp2_with fail
    go_loopw [6, 8] (fun v6 vi wr => ∃ (k m : Nat), k ≤ R.length ∧ vi = .int .i64 (k : Nat) ∧ v6 = .int .i64 (m : Nat) ∧ numDg b 0 R = numDg b m (R.drop k) ∧ m ≤ 17592186044431 ∧ Q w wr) (fun _ vi _ => S.size - (intOf vi).toNat)
    case atStart => exact ⟨0, 0, by omega, by go_num, by go_num, rfl, by omega, HQ1.out⟩
    case round =>
      obtain ⟨k, m, hk, rfl, rfl, hnum, hm, hq⟩ := hrel
      have HNUM := hide hnum
      have HQ := hide hq
      have hmi : (m : Int) ≤ 17592186044431 := by omega
      obtain ⟨i, hi⟩ : ∃ i, k = i := ⟨_, rfl⟩
      have hki : (i : Int) = (k : Int) := by omega
      have HKI := hide hki
      have HI := hide hi
      rw [hi]
      clear hnum hq hki
      by_cases hlt : i < S.size
      · have hd1 : decide ((i : Int) < (S.size : Int)) = true := by simp; omega
        have hd0 : decide (i < S.size) = true := by simp; omega
        have hlti : (i : Int) < (S.size : Int) := by omega
        have hii : (i : Int) ≤ 9223372036854775807 := by omega
        obtain ⟨c, hc⟩ : ∃ c, R[k]? = some c := ⟨_, List.getElem?_eq_getElem (by have := HSZ.out; omega)⟩
        have HC := hide hc
        have hgc : S[i]'hlt = c := by
          have hc' : l[i]? = some c := by rw [HLR.out, ← hi]; exact hc
          have h := strB_get (l := l) (i := i) (by rw [HS.out]; exact hlt) hc'
          have e := HS.out
          subst e
          exact h
        obtain ⟨d, hd⟩ : ∃ d, valN c = d := ⟨_, rfl⟩
        have HV := hide (fun w => show Calls Try.prog 59 #[.int .u8 (c.toNat : Nat)] w fun e w' => e = .returned (.int .i64 (d : Nat)) ∧ Q w w' from hd ▸ value_any c w)
        have HD := hide hd
        have hd16 : d ≤ 16 := by
          rw [← hd]
          unfold valN
          have := c.toNat_lt
          split
          · omega
          · split <;> omega
        have hd16i : (d : Int) ≤ 16 := by omega
        clear hc hd hi
        by_cases hv : d < b
        · have g1 : decide ((b : Int) ≤ (d : Int)) = false := by simp; omega
          have g1n : decide (b ≤ d) = false := by simp; omega
          by_cases hbig : 1099511627776 < m
          · have hg : decide ((1099511627776 : Int) < (m : Int)) = true := by simp; omega
            have HN := hide (show numDg b 0 R = none by rw [HNUM.out]; exact numDg_bad HC.out (.inr hbig))
            clear hbig hv
            go_wp2_with fail
            refine (HV.out _).mono ?_
            rintro e w4 ⟨rfl, hq4⟩
            have HQ4 := hide (HQ.out.trans hq4)
            clear hq4
            go_wp2_with fail
            go_ret2
            exact ⟨by rw [← HPR.out, parseG_none HN.out]; rfl, HQ4.out⟩
          · have hg : decide ((1099511627776 : Int) < (m : Int)) = false := by simp; omega
            have hm2 : m ≤ 1099511627776 := by omega
            have HN := hide (show numDg b 0 R = numDg b (m * b + d) (R.drop (k + 1)) by rw [HNUM.out, numDg_step HC.out (by rw [HD.out]; exact hv) hm2, HD.out])
            obtain ⟨p, hp⟩ : ∃ p, m * b = p := ⟨_, rfl⟩
            have hpb : p ≤ 17592186044416 := by rw [← hp]; exact Nat.mul_le_mul hm2 hb2
            have hpi : (m : Int) * (b : Int) = (p : Int) := by rw [← hp]; simp
            have hpbi : (p : Int) ≤ 17592186044416 := by omega
            have HP := hide hp
            have hd15 : d ≤ 15 := by omega
            have hd15i : (d : Int) ≤ 15 := by omega
            clear hp hbig hm2 hv
            go_wp2_with fail
            refine (HV.out _).mono ?_
            rintro e w4 ⟨rfl, hq4⟩
            have HQ4 := hide (HQ.out.trans hq4)
            clear hq4
            go_wp2_with fail
            go_roundw
            case rel => exact ⟨k + 1, p + d, by have := HSZ.out; have := HI.out; omega, by have := HKI.out; go_num, by go_num, by rw [HN.out, HP.out], by omega, HQ4.out⟩
            case measure => simp [intOf] <;> omega
        · have g1 : decide ((b : Int) ≤ (d : Int)) = true := by simp; omega
          have g1n : decide (b ≤ d) = true := by simp; omega
          have HN := hide (show numDg b 0 R = none by rw [HNUM.out]; exact numDg_bad HC.out (.inl (by rw [HD.out]; omega)))
          clear hv
          go_wp2_with fail
          refine (HV.out _).mono ?_
          rintro e w4 ⟨rfl, hq4⟩
          have HQ4 := hide (HQ.out.trans hq4)
          clear hq4
          go_wp2_with fail
          go_ret2
          exact ⟨by rw [← HPR.out, parseG_none HN.out]; rfl, HQ4.out⟩
      · have hd1 : decide ((i : Int) < (S.size : Int)) = false := by simp; omega
        have hd0 : decide (i < S.size) = false := by simp; omega
        have HN := hide (show numDg b 0 R = some m by rw [HNUM.out, List.drop_eq_nil_of_le (by have := HSZ.out; omega)]; rfl)
        have hmul1 : (-1 : Int) * (m : Int) = -(m : Int) := by omega
        clear hlt hi
        by_cases hbig : 1099511627776 < m
        · have hgp : (1099511627776 : Int) < (m : Int) := by omega
          have hg : decide ((1099511627776 : Int) < (m : Int)) = true := by simp; omega
          have HG := hide (parseG_big (l := l) (neg := false) HN.out hbig)
          clear hbig
          go_wp2_with fail
          go_ret2
          exact ⟨by rw [← HPR.out, HG.out]; rfl, HQ.out⟩
        · have hgp : (m : Int) ≤ 1099511627776 := by omega
          have hg : decide ((1099511627776 : Int) < (m : Int)) = false := by simp; omega
          obtain ⟨T, hT⟩ : ∃ T, strB (txtI b ((m : Int))) = T := ⟨_, rfl⟩
          have C4 := hide (show Calls Try.prog 56 #[.int .i64 ((m : Int)), .int .i64 (b : Nat)] wr fun e w' => e = .returned (.string T) ∧ Q wr w' from hT ▸ C3.out ((m : Int)) (by omega) (by omega) wr)
          have hsg : signed false m = (m : Int) := rfl
          have hcm : (T.toList == S.toList) = decide (txtI b ((m : Int)) = l) := by rw [← hT, ← HS.out]; exact cmp_strB _ _
          by_cases he : txtI b ((m : Int)) = l
          · have HG := hide (parseG_ok (l := l) (neg := false) (R := R) HN.out hbig (by rw [hsg]; exact he))
            have HSG := hide hsg
            have hcb : (T.toList == S.toList) = true := by rw [hcm, he]; simp
            clear hbig hT hsg hcm he
            go_wp2_with fail
            refine C4.out.mono ?_
            rintro e w4 ⟨rfl, hq4⟩
            have HQ4 := hide (HQ.out.trans hq4)
            clear hq4
            go_wp2_with fail
            go_ret2
            exact ⟨by rw [← HPR.out, HG.out, HSG.out]; rfl, HQ4.out⟩
          · have HG := hide (parseG_ne (l := l) (neg := false) (R := R) HN.out (by rw [hsg]; exact he))
            have hcb : (T.toList == S.toList) = false := by rw [hcm]; simpa using he
            clear hbig hT hsg hcm he
            go_wp2_with fail
            refine C4.out.mono ?_
            rintro e w4 ⟨rfl, hq4⟩
            have HQ4 := hide (HQ.out.trans hq4)
            clear hq4
            go_wp2_with fail
            go_ret2
            exact ⟨by rw [← HPR.out, HG.out]; rfl, HQ4.out⟩
theorem rParse_nil (b : Nat) (hb : 2 ≤ b) (hb2 : b ≤ 16) (w : World) :
    Calls Try.prog 33 #[.string (strB []), .int .i64 (b : Nat)] w fun e w' => e = .returned (.tuple #[.int .i64 (parseG b [] false []).1, .int .i64 ((parseG b [] false []).2 : Nat)]) ∧ Q w w' := by
  have C1 := hide (show Calls Try.prog 49 #[.int .i64 (b : Nat), .int .i64 2, .int .i64 16] w fun e w' => e = .returned (.bool true) ∧ w = w' from by have h := Within_any b 2 16 w; rw [show withinB b 2 16 = true by unfold withinB; simp; omega] at h; exact h)
  rw [parseG_nil hb (by decide)]
  obtain ⟨S, hS⟩ : ∃ S, strB [] = S := ⟨_, rfl⟩
  have hsz : S.size = 0 := by rw [← hS]; rfl
  rw [hS]
  clear hS
  go_enter Try.func33, Try.ntmps33
  go_wp2_with fail
  refine C1.out.mono ?_
  rintro e w1 ⟨rfl, rfl⟩
  go_wp2_with fail
  go_ret2
  exact ⟨rfl, Q.refl _⟩
end Go.Proofs.Ytcjljmegppnlcaa
