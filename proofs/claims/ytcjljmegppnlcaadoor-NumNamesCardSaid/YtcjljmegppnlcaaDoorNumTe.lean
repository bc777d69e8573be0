/- The walk of Parse. Conditions: the base is one. -/
import Derived.Test.YtcjljmegppnlcaaDoorNumTd
namespace Go.Proofs.YtcjljmegppnlcaaDoor
open Go.RowKit NP
set_option linter.unusedVariables false
def parseG (b : Nat) (l : List UInt8) (neg : Bool) (R : List UInt8) : Int × Nat :=
  match numDg b 0 R with
  | none => (0, 2)
  | some m => if 1099511627776 < m ∨ txtI b (signed neg m) ≠ l then (0, 2) else (signed neg m, 0)
theorem parseF_eq (b : Nat) (l : List UInt8) : parseF b l = parseG b l (tailS l).1 (tailS l).2 := rfl
theorem parseG_none {b : Nat} {l R : List UInt8} {neg : Bool} (h : numDg b 0 R = none) : parseG b l neg R = (0, 2) := by
  unfold parseG
  rw [h]
theorem parseG_big {b m : Nat} {l R : List UInt8} {neg : Bool} (h : numDg b 0 R = some m) (hm : 1099511627776 < m) : parseG b l neg R = (0, 2) := by
  unfold parseG
  rw [h]
  exact if_pos (.inl hm)
theorem parseG_ne {b m : Nat} {l R : List UInt8} {neg : Bool} (h : numDg b 0 R = some m) (hm : txtI b (signed neg m) ≠ l) : parseG b l neg R = (0, 2) := by
  unfold parseG
  rw [h]
  exact if_pos (.inr hm)
theorem parseG_ok {b m : Nat} {l R : List UInt8} {neg : Bool} (h : numDg b 0 R = some m) (h1 : ¬ 1099511627776 < m) (h2 : txtI b (signed neg m) = l) : parseG b l neg R = (signed neg m, 0) := by
  unfold parseG
  rw [h]
  exact if_neg (fun h => h.elim h1 (fun h => h h2))
theorem numDg_step {b n i : Nat} {R : List UInt8} {c : UInt8} (h : R[i]? = some c) (h1 : valN c < b) (h2 : n ≤ 1099511627776) : numDg b n (R.drop i) = numDg b (n * b + valN c) (R.drop (i + 1)) := by
  obtain ⟨hi, e⟩ := List.getElem?_eq_some_iff.1 h
  rw [List.drop_eq_getElem_cons hi, e, numDg, if_neg (by omega)]
theorem numDg_bad {b n i : Nat} {R : List UInt8} {c : UInt8} (h : R[i]? = some c) (h1 : b ≤ valN c ∨ 1099511627776 < n) : numDg b n (R.drop i) = none := by
  obtain ⟨hi, e⟩ := List.getElem?_eq_some_iff.1 h
  rw [List.drop_eq_getElem_cons hi, e, numDg, if_pos h1]
theorem strB_get {l : List UInt8} {i : Nat} (h : i < (strB l).size) {c : UInt8} (hc : l[i]? = some c) : (strB l)[i]'h = c := by
  obtain ⟨hi, e⟩ := List.getElem?_eq_some_iff.1 hc
  show l.toArray[i] = c
  simpa using e
theorem cmp_strB (a l : List UInt8) : ((strB a).toList == (strB l).toList) = decide (a = l) := by
  rw [Lib.toList_data, Lib.toList_data, toList_strB, toList_strB]
  by_cases h : a = l
  · simp [h]
  · simp [h]
set_option maxRecDepth 100000 in
set_option maxHeartbeats 2000000 in
theorem Parse_core (l R : List UInt8) (neg : Bool) (b : Nat) (hb : 2 ≤ b) (hb2 : b ≤ 16) (hl : l.length ≤ 9223372036854775807) (hR1 : neg = true → R.length + 1 = l.length) (hR2 : neg = false → R = l)
    (htrim : ∀ W, Calls Tryd.prog 20 #[.string (strB l), .string ⟨#[45]⟩] W fun e w' => e = .returned (.string (strB R)) ∧ Q W w') (w : World) :
    Calls Tryd.prog 13 #[.string (strB l), .int .i64 (b : Nat)] w fun e w' => e = .returned (.tuple #[.int .i64 (parseG b l neg R).1, .int .i64 ((parseG b l neg R).2 : Nat)]) ∧ Q w w' := by
  have C1 := hide (isBase_ok b (by omega) (by omega) w)
  have C2 := hide htrim
  have C3 := hide (fun n h1 h2 w => written_any b n hb hb2 h1 h2 w)
  have hRl : R.length ≤ l.length := by cases neg with | true => have := hR1 rfl; omega | false => rw [hR2 rfl]; exact Nat.le_refl _
  have HR1 := hide hR1
  have HR2 := hide hR2
  obtain ⟨S0, hS0⟩ : ∃ S, strB l = S := ⟨_, rfl⟩
  obtain ⟨S, hS⟩ : ∃ S, strB R = S := ⟨_, rfl⟩
  have hsz0 : S0.size = l.length := by rw [← hS0, strB_size]
  have hsz : S.size = R.length := by rw [← hS, strB_size]
  have HS0 := hide hS0
  have HS := hide hS
  have HSZ0 := hide hsz0
  have HSZ := hide hsz
  have hsm : S.size ≤ 9223372036854775807 := by omega
  have hsm0 : S0.size ≤ 9223372036854775807 := by omega
  have hsmi : (S.size : Int) ≤ 9223372036854775807 := by omega
  have hbi : (b : Int) ≤ 16 := by omega
  have hbi0 : (0 : Int) ≤ (b : Int) := by omega
  rw [hS0]
  rw [hS0, hS] at C2
  obtain ⟨pr, hpr⟩ : ∃ pr, parseG b l neg R = pr := ⟨_, rfl⟩
  have HPR := hide hpr
  rw [hpr]
  clear htrim hR1 hR2 hS0 hS hsz hsz0 hpr hl
  go_enter Tryd.func13, Tryd.ntmps13
  go_wp2_with fail
  refine C1.out.mono ?_
  rintro e w1 ⟨rfl, hq1⟩
  have HQ1 := hide hq1
  clear hq1
  go_wp2_with fail
  refine (C2.out _).mono ?_
  rintro e w2 ⟨rfl, hq2⟩
  have HQ2 := hide (HQ1.out.trans hq2)
  clear hq2
  go_wp2_with fail
  go_loopw [6, 17] (fun v6 vi wr => ∃ (i m : Nat), i ≤ S.size ∧ vi = .int .i64 (i : Nat) ∧ v6 = .int .i64 (m : Nat) ∧ numDg b 0 R = numDg b m (R.drop i) ∧ m ≤ 17592186044431 ∧ Q w wr) (fun _ vi _ => S.size - (intOf vi).toNat)
  case atStart => exact ⟨0, 0, by omega, by go_num, by go_num, rfl, by omega, HQ2.out⟩
  case round =>
    obtain ⟨i, m, hi, rfl, rfl, hnum, hm, hq⟩ := hrel
    have HNUM := hide hnum
    have HQ := hide hq
    have hmi : (m : Int) ≤ 17592186044431 := by omega
    clear hnum hq
    by_cases hlt : i < S.size
    · have hd1 : decide ((i : Int) < (S.size : Int)) = true := by simp; omega
      have hd0 : decide (i < S.size) = true := by simp; omega
      have hlti : (i : Int) < (S.size : Int) := by omega
      obtain ⟨c, hc⟩ : ∃ c, R[i]? = some c := ⟨_, List.getElem?_eq_getElem (by have := HSZ.out; omega)⟩
      have HC := hide hc
      have hgc : S[i]'hlt = c := by
        have h := strB_get (l := R) (i := i) (by rw [HS.out]; exact hlt) hc
        have e := HS.out
        subst e
        exact h
      have hc256 : c.toNat < 256 := c.toNat_lt
      have hidx := idx_D b (by omega) c.toNat hc256
      have hcu : c.toNat.toUInt8 = c := by simp
      rw [hcu] at hidx
      have HIDX := hide hidx
      clear hidx hcu hc
      by_cases hv : valN c < b
      · obtain ⟨d, hd⟩ : ∃ d, valN c = d := ⟨_, rfl⟩
        have HIB := hide (fun W => show Calls Tryd.prog 21 #[.string ((⟨#[48, 49, 50, 51, 52, 53, 54, 55, 56, 57, 97, 98, 99, 100, 101, 102]⟩ : ByteArray).extract 0 b), .int .u8 (c.toNat : Nat)] W fun e w' => e = .returned (.int .i64 (d : Nat)) ∧ Q W w' from
          (Tryd.strings_IndexByte _ _ W).mono (fun e w' h => by
            obtain ⟨h1, rfl⟩ := h
            have hcu : ((c.toNat : Nat) : Int).toNat.toUInt8 = c := by simp
            rw [hcu, HIDX.out, if_pos hv, hd] at h1
            exact ⟨h1, Q.refl _⟩))
        have hdb : d < b := by rw [← hd]; exact hv
        have HD := hide hd
        have hdi : (d : Int) ≤ 15 := by omega
        have hd0' : decide ((d : Int) < 0) = false := by simp
        have HV := hide hv
        clear hd hv
        by_cases hbig : 1099511627776 < m
        · have hg : decide ((1099511627776 : Int) < (m : Int)) = true := by simp; omega
          have HN := hide (show numDg b 0 R = none by rw [HNUM.out]; exact numDg_bad HC.out (.inr hbig))
          clear hbig
          go_wp2_with fail
          have hxc := ext_cell
          refine wp_region_ext (by kernel_rfl) (by kernel_rfl) ?_
          repeat (go_big_quiet_step ((first | (go_at_call 21; exact ext_call (HIB.out _)))))
          clear hxc
          refine wpQuiet_nil ?_
          intro wz hwwz
          have hqwz := q_of_ext hwwz
          clear hwwz
          obtain ⟨hcwz, hfwz, hzwz⟩ := hqwz.facts
          try simp at hzwz
          try have hs0wz : w.heap.size < wz.heap.size := by omega
          try have hs1wz : w.heap.size + 1 < wz.heap.size := by omega
          have HQZ := hide (HQ.out.trans hqwz)
          clear hcwz hfwz hqwz
          go_wp2_with fail
          go_ret2
          exact ⟨by rw [← HPR.out, parseG_none HN.out]; rfl, HQZ.out⟩
        · have hg : decide ((1099511627776 : Int) < (m : Int)) = false := by simp; omega
          have hm2 : m ≤ 1099511627776 := by omega
          have HN := hide (show numDg b 0 R = numDg b (m * b + d) (R.drop (i + 1)) by rw [HNUM.out, numDg_step HC.out (by rw [HD.out]; exact hdb) hm2, HD.out])
          obtain ⟨p, hp⟩ : ∃ p, m * b = p := ⟨_, rfl⟩
          have hpb : p ≤ 17592186044416 := by rw [← hp]; exact Nat.mul_le_mul hm2 hb2
          have hpi : (m : Int) * (b : Int) = (p : Int) := by rw [← hp]; simp
          have hpbi : (p : Int) ≤ 17592186044416 := by omega
          have HP := hide hp
          clear hp hbig hm2
          go_wp2_with fail
          have hxc := ext_cell
          refine wp_region_ext (by kernel_rfl) (by kernel_rfl) ?_
          repeat (go_big_quiet_step ((first | (go_at_call 21; exact ext_call (HIB.out _)))))
          clear hxc
          refine wpQuiet_nil ?_
          intro wz hwwz
          have hqwz := q_of_ext hwwz
          clear hwwz
          obtain ⟨hcwz, hfwz, hzwz⟩ := hqwz.facts
          try simp at hzwz
          try have hs0wz : w.heap.size < wz.heap.size := by omega
          try have hs1wz : w.heap.size + 1 < wz.heap.size := by omega
          have HQZ := hide (HQ.out.trans hqwz)
          clear hcwz hfwz hqwz
          go_wp2_with fail
          go_roundw
          case rel => exact ⟨i + 1, p + d, by omega, by go_num, by go_num, by rw [HN.out, HP.out], by omega, HQZ.out⟩
          case measure => simp [intOf] <;> omega
      · have HIB := hide (fun W => show Calls Tryd.prog 21 #[.string ((⟨#[48, 49, 50, 51, 52, 53, 54, 55, 56, 57, 97, 98, 99, 100, 101, 102]⟩ : ByteArray).extract 0 b), .int .u8 (c.toNat : Nat)] W fun e w' => e = .returned (.int .i64 (-1)) ∧ Q W w' from
          (Tryd.strings_IndexByte _ _ W).mono (fun e w' h => by
            obtain ⟨h1, rfl⟩ := h
            have hcu : ((c.toNat : Nat) : Int).toNat.toUInt8 = c := by simp
            rw [hcu, HIDX.out, if_neg hv] at h1
            exact ⟨h1, Q.refl _⟩))
        have HN := hide (show numDg b 0 R = none by rw [HNUM.out]; exact numDg_bad HC.out (.inl (by omega)))
        clear hv
        go_wp2_with fail
        have hxc := ext_cell
        refine wp_region_ext (by kernel_rfl) (by kernel_rfl) ?_
        repeat (go_big_quiet_step ((first | (go_at_call 21; exact ext_call (HIB.out _)))))
        clear hxc
        refine wpQuiet_nil ?_
        intro wz hwwz
        have hqwz := q_of_ext hwwz
        clear hwwz
        obtain ⟨hcwz, hfwz, hzwz⟩ := hqwz.facts
        try simp at hzwz
        try have hs0wz : w.heap.size < wz.heap.size := by omega
        try have hs1wz : w.heap.size + 1 < wz.heap.size := by omega
        have HQZ := hide (HQ.out.trans hqwz)
        clear hcwz hfwz hqwz
        go_wp2_with fail
        go_ret2
        exact ⟨by rw [← HPR.out, parseG_none HN.out]; rfl, HQZ.out⟩
    · have hd1 : decide ((i : Int) < (S.size : Int)) = false := by simp; omega
      have hd0 : decide (i < S.size) = false := by simp; omega
      have HN := hide (show numDg b 0 R = some m by rw [HNUM.out, List.drop_eq_nil_of_le (by have := HSZ.out; omega)]; rfl)
      clear hlt hi
      have hq0 : Q w wr := HQ.out
      cases hng : neg with
      | true =>
        have hlt2 : (S.size : Int) < (S0.size : Int) := by have h := HR1.out hng; have h2 := HSZ.out; have h3 := HSZ0.out; omega
        have d1 : decide ((S.size : Int) < (S0.size : Int)) = true := by simp; omega
        have d1n : decide (S.size < S0.size) = true := by simp; omega
        have HNG := hide hng
        clear hlt2 hng hq0
        by_cases hbig : 1099511627776 < m
        · have hgp : (1099511627776 : Int) < (m : Int) := by omega
          have hg : decide ((1099511627776 : Int) < (m : Int)) = true := by simp; omega
          have hg3 : decide (-(m : Int) < -1099511627776) = true := by simp; omega
          have HG := hide (parseG_big (l := l) (neg := neg) HN.out hbig)
          clear hbig
          go_wp2_with fail
          go_ret2
          exact ⟨by rw [← HPR.out, HG.out]; rfl, HQ.out⟩
        · have hgp : (m : Int) ≤ 1099511627776 := by omega
          have hgn : ¬ (1099511627776 : Int) < (m : Int) := by omega
          have hg : decide ((1099511627776 : Int) < (m : Int)) = false := by simp; omega
          have hg3 : decide (-(m : Int) < -1099511627776) = false := by simp <;> omega
          have hg4 : decide ((1099511627776 : Int) < -(m : Int)) = false := by simp <;> omega
          obtain ⟨T, hT⟩ : ∃ T, strB (txtI b (-(m : Int))) = T := ⟨_, rfl⟩
          have C4 := hide (show Calls Tryd.prog 22 #[.int .i64 (-(m : Int)), .int .i64 (b : Nat)] wr fun e w' => e = .returned (.string T) ∧ Q wr w' from hT ▸ C3.out (-(m : Int)) (by omega) (by omega) wr)
          have hsg : signed neg m = -(m : Int) := by rw [HNG.out]; rfl
          have hcm : (T.toList == S0.toList) = decide (txtI b (-(m : Int)) = l) := by rw [← hT, ← HS0.out]; exact cmp_strB _ _
          by_cases he : txtI b (-(m : Int)) = l
          · have HG := hide (parseG_ok (l := l) (neg := neg) (R := R) HN.out hbig (by rw [hsg]; exact he))
            have HSG := hide hsg
            have hcb : (T.toList == S0.toList) = true := by rw [hcm, he]; simp
            clear hbig hT hsg hcm he
            go_wp2_with fail
            refine C4.out.mono ?_
            rintro e w4 ⟨rfl, hq4⟩
            have HQ4 := hide (HQ.out.trans hq4)
            clear hq4
            go_wp2_with fail
            go_ret2
            exact ⟨by rw [← HPR.out, HG.out, HSG.out]; rfl, HQ4.out⟩
          · have HG := hide (parseG_ne (l := l) (neg := neg) (R := R) HN.out (by rw [hsg]; exact he))
            have hcb : (T.toList == S0.toList) = false := by rw [hcm]; simpa using he
            clear hbig hT hsg hcm he
            go_wp2_with fail
            refine C4.out.mono ?_
            rintro e w4 ⟨rfl, hq4⟩
            have HQ4 := hide (HQ.out.trans hq4)
            clear hq4
            go_wp2_with fail
            go_ret2
            exact ⟨by rw [← HPR.out, HG.out]; rfl, HQ4.out⟩
      | false =>
        have hss : S.size = S0.size := by have h := HR2.out hng; have h2 := HSZ.out; have h3 := HSZ0.out; rw [h] at h2; omega
        have d1 : decide ((S.size : Int) < (S0.size : Int)) = false := by simp; omega
        have d1n : decide (S.size < S0.size) = false := by simp; omega
        have HNG := hide hng
        clear hss hng hq0
        by_cases hbig : 1099511627776 < m
        · have hgp : (1099511627776 : Int) < (m : Int) := by omega
          have hg : decide ((1099511627776 : Int) < (m : Int)) = true := by simp; omega
          have hg3 : decide ((m : Int) < -1099511627776) = false := by simp <;> omega
          have HG := hide (parseG_big (l := l) (neg := neg) HN.out hbig)
          clear hbig
          go_wp2_with fail
          go_ret2
          exact ⟨by rw [← HPR.out, HG.out]; rfl, HQ.out⟩
        · have hgp : (m : Int) ≤ 1099511627776 := by omega
          have hgn : ¬ (1099511627776 : Int) < (m : Int) := by omega
          have hg : decide ((1099511627776 : Int) < (m : Int)) = false := by simp; omega
          have hg3 : decide ((m : Int) < -1099511627776) = false := by simp <;> omega
          have hg4 : decide ((1099511627776 : Int) < (m : Int)) = false := by simp <;> omega
          obtain ⟨T, hT⟩ : ∃ T, strB (txtI b ((m : Int))) = T := ⟨_, rfl⟩
          have C4 := hide (show Calls Tryd.prog 22 #[.int .i64 ((m : Int)), .int .i64 (b : Nat)] wr fun e w' => e = .returned (.string T) ∧ Q wr w' from hT ▸ C3.out ((m : Int)) (by omega) (by omega) wr)
          have hsg : signed neg m = (m : Int) := by rw [HNG.out]; rfl
          have hcm : (T.toList == S0.toList) = decide (txtI b ((m : Int)) = l) := by rw [← hT, ← HS0.out]; exact cmp_strB _ _
          by_cases he : txtI b ((m : Int)) = l
          · have HG := hide (parseG_ok (l := l) (neg := neg) (R := R) HN.out hbig (by rw [hsg]; exact he))
            have HSG := hide hsg
            have hcb : (T.toList == S0.toList) = true := by rw [hcm, he]; simp
            clear hbig hT hsg hcm he
            go_wp2_with fail
            refine C4.out.mono ?_
            rintro e w4 ⟨rfl, hq4⟩
            have HQ4 := hide (HQ.out.trans hq4)
            clear hq4
            go_wp2_with fail
            go_ret2
            exact ⟨by rw [← HPR.out, HG.out, HSG.out]; rfl, HQ4.out⟩
          · have HG := hide (parseG_ne (l := l) (neg := neg) (R := R) HN.out (by rw [hsg]; exact he))
            have hcb : (T.toList == S0.toList) = false := by rw [hcm]; simpa using he
            clear hbig hT hsg hcm he
            go_wp2_with fail
            refine C4.out.mono ?_
            rintro e w4 ⟨rfl, hq4⟩
            have HQ4 := hide (HQ.out.trans hq4)
            clear hq4
            go_wp2_with fail
            go_ret2
            exact ⟨by rw [← HPR.out, HG.out]; rfl, HQ4.out⟩
end Go.Proofs.YtcjljmegppnlcaaDoor
