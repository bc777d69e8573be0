/- The walk of the reference's first. Conditions: the place is in the text. -/
import Derived.Test.YtofigpjabamnhaaDoorLexR
namespace Go.Proofs.YtofigpjabamnhaaDoor
open Go.RowKit LX
set_option linter.unusedVariables false
def rfV (l : List Nat) (p : Nat) : Value :=
  if (firstL l).2 = 0 then .tuple #[.int .i64 0, .int .i64 0, .bool false] else .tuple #[.int .i64 ((firstL l).1 : Nat), .int .i64 (p + (firstL l).2 : Nat), .bool true]
theorem rfV_none {l : List Nat} {p : Nat} (h : firstL l = (0, 0)) : rfV l p = .tuple #[.int .i64 0, .int .i64 0, .bool false] := by unfold rfV; rw [h]; rfl
theorem rfV_some {l : List Nat} {p k n : Nat} (h : firstL l = (k, n)) (hn : n ≠ 0) : rfV l p = .tuple #[.int .i64 (k : Nat), .int .i64 (p + n : Nat), .bool true] := by unfold rfV; rw [h, if_neg hn]
theorem mt_iff (s : ByteArray) (p i : Nat) (hi : i < 33) (hp : p ≤ s.size) : mt ((nat s).drop p) i ↔ p + (sgS i).size ≤ s.size ∧ (s.extract p (p + (sgS i).size)).toList = (sgS i).toList := by
  have hsz : (sgS i).size = (signsL.getD i []).length := by rw [← nat_length, nat_sgS i hi]
  have hx := nat_extract s p (p + (sgS i).size)
  rw [Nat.add_sub_cancel_left] at hx
  have hdl : ((nat s).drop p).length = s.size - p := by rw [List.length_drop, nat_length]
  unfold mt
  rw [← hsz, hdl]
  have e1 : (s.extract p (p + (sgS i).size)).toList = (sgS i).toList ↔ nat (s.extract p (p + (sgS i).size)) = nat (sgS i) := by
    constructor
    · intro h; rw [nat_toList, nat_toList, h]
    · intro h; rw [nat_inj h]
  rw [e1, hx, nat_sgS i hi]
  exact ⟨fun ⟨a, b⟩ => ⟨by omega, b⟩, fun ⟨a, b⟩ => ⟨by omega, b⟩⟩
set_option maxHeartbeats 1000000 in
theorem rfirst_any (s : ByteArray) (p : Nat) (w : World) (hs : s.size ≤ 1000000000000) (hp : p < s.size) :
    Calls Tryd.prog 21 #[.string s, .int .i64 (p : Nat)] w fun e w' => e = .returned (rfV ((nat s).drop p) p) ∧ Q w w' := by
  have hsi : (s.size : Int) ≤ 1000000000000 := by omega
  have hmx : s.size ≤ maxLen := by unfold maxLen; omega
  have hg := nat_get s p hp
  have hg0 : ((nat s).drop p)[0]? = some s[p].toNat := by rw [List.getElem?_drop, Nat.add_zero, hg]
  have h256 : s[p].toNat < 256 := s[p].toNat_lt
  have hpi : (p : Int) < (s.size : Int) := by omega
  have hnl := nat_length s
  have HNL := hide hnl
  have HG := hide hg
  have HG0 := hide hg0
  have HMX := hide hmx
  have hc3 := clsN_le s[p].toNat
  have hrun := rrun_any s p
  have HRUN := hide hrun
  clear hnl hg hg0 hmx hrun hs
  by_cases c2 : clsN s[p].toNat = 2
  · have hf := firstL_letter HG0.out c2
    have hpos : runL ((nat s).drop p) ≠ 0 := by
      have := runL_drop _ _ _ HG.out
      rw [if_pos (by omega)] at this
      omega
    have hv := rfV_some (p := p) hf hpos
    have HV := hide hv
    clear hv hf hpos
    have C2 := hide c2
    clear c2
    go_enter Tryd.func21, Tryd.ntmps21
    go_wp2_with fail
    refine (isLetter_any _ h256 _).mono ?_
    rintro e w1 ⟨rfl, rfl⟩
    rw [decide_eq_true C2.out]
    go_wp2_with fail
    refine (HRUN.out _ HMX.out (by omega)).mono ?_
    rintro e w1 ⟨rfl, rfl⟩
    go_wp2_with fail
    go_ret3
    exact ⟨by rw [HV.out]; rfl, Q.refl _⟩
  · have C2 := hide c2
    by_cases c3 : clsN s[p].toNat = 3
    · have hf := firstL_digit HG0.out c3
      have hpos : runL ((nat s).drop p) ≠ 0 := by
        have := runL_drop _ _ _ HG.out
        rw [if_pos (by omega)] at this
        omega
      have hv := rfV_some (p := p) hf hpos
      have HV := hide hv
      have C3 := hide c3
      clear hv hf hpos c2 c3
      go_enter Tryd.func21, Tryd.ntmps21
      go_wp2_with fail
      refine (isLetter_any _ h256 _).mono ?_
      rintro e w1 ⟨rfl, rfl⟩
      rw [decide_eq_false C2.out]
      go_wp2_with fail
      refine (isDigit_any _ h256 _).mono ?_
      rintro e w1 ⟨rfl, rfl⟩
      rw [decide_eq_true C3.out]
      go_wp2_with fail
      refine (HRUN.out _ HMX.out (by omega)).mono ?_
      rintro e w1 ⟨rfl, rfl⟩
      go_wp2_with fail
      go_ret3
      exact ⟨by rw [HV.out]; rfl, Q.refl _⟩
    · have C3 := hide c3
      have hc1 : clsN s[p].toNat ≤ 1 := by omega
      have HC1 := hide hc1
      clear c2 c3 hc3 hc1
      by_cases a64 : s[p].toNat = 64
      · have a64d : ((s[p].toNat : Int) == 64) = true := by rw [a64]; rfl
        have hg64 := HG0.out
        rw [a64] at hg64
        have HG64 := hide hg64
        clear hg64
        by_cases a1 : p + 1 < s.size
        · have hg1 := nat_get s (p + 1) a1
          have hg1' : ((nat s).drop p)[1]? = some s[p + 1].toNat := by rw [List.getElem?_drop, hg1]
          have h256b : s[p + 1].toNat < 256 := s[p + 1].toNat_lt
          have hd1 : decide (p + 1 < s.size) = true := by simpa using a1
          have hd2 : decide ((p : Int) + 1 < (s.size : Int)) = true := by simp; omega
          have a1i : (p : Int) + 1 < (s.size : Int) := by omega
          have HG1 := hide hg1'
          clear hg1 hg1' a64
          by_cases a2 : clsN s[p + 1].toNat = 2
          · have hf := firstL_at HG64.out HG1.out a2
            rw [List.drop_drop] at hf
            have hv := rfV_some (p := p) hf (by omega)
            have HV := hide hv
            have hrun := rrun_any s (p + 1)
            have HRUN1 := hide hrun
            have A2 := hide a2
            clear hv hf a2 hrun
            go_enter Tryd.func21, Tryd.ntmps21
            go_wp2_with fail
            refine (isLetter_any _ h256 _).mono ?_
            rintro e w1 ⟨rfl, rfl⟩
            rw [decide_eq_false C2.out]
            go_wp2_with fail
            refine (isDigit_any _ h256 _).mono ?_
            rintro e w1 ⟨rfl, rfl⟩
            rw [decide_eq_false C3.out]
            go_wp2_with fail
            refine (isLetter_any _ h256b _).mono ?_
            rintro e w1 ⟨rfl, rfl⟩
            rw [decide_eq_true A2.out]
            go_wp2_with fail
            refine (HRUN1.out _ HMX.out (by omega)).mono ?_
            rintro e w1 ⟨rfl, rfl⟩
            go_wp2_with fail
            go_ret3
            exact ⟨by rw [HV.out, show p + (1 + runL ((nat s).drop (p + 1))) = p + 1 + runL ((nat s).drop (p + 1)) by omega]; rfl, Q.refl _⟩
          · have hf := first_no HG64.out (by decide) (fun ⟨_, d, h1, h2⟩ => a2 (by rw [HG1.out] at h1; cases h1; exact h2)) (mt64 HG64.out)
            have hv := rfV_none (p := p) hf
            have HV := hide hv
            have A2 := hide a2
            clear hv hf a2
            go_enter Tryd.func21, Tryd.ntmps21
            go_wp2_with fail
            refine (isLetter_any _ h256 _).mono ?_
            rintro e w1 ⟨rfl, rfl⟩
            rw [decide_eq_false C2.out]
            go_wp2_with fail
            refine (isDigit_any _ h256 _).mono ?_
            rintro e w1 ⟨rfl, rfl⟩
            rw [decide_eq_false C3.out]
            go_wp2_with fail
            refine (isLetter_any _ h256b _).mono ?_
            rintro e w1 ⟨rfl, rfl⟩
            rw [decide_eq_false A2.out]
            go_wp2_with fail
            go_ret3
            exact ⟨by rw [HV.out]; rfl, Q.refl _⟩
        · have hd1 : decide (p + 1 < s.size) = false := by simpa using a1
          have hd2 : decide ((p : Int) + 1 < (s.size : Int)) = false := by simp; omega
          have hf := first_no HG64.out (by decide) (fun ⟨_, d, h1, h2⟩ => by
            have := (List.getElem?_eq_some_iff.1 h1).1
            rw [List.length_drop, HNL.out] at this
            omega) (mt64 HG64.out)
          have hv := rfV_none (p := p) hf
          have HV := hide hv
          clear hv hf a64
          go_enter Tryd.func21, Tryd.ntmps21
          go_wp2_with fail
          refine (isLetter_any _ h256 _).mono ?_
          rintro e w1 ⟨rfl, rfl⟩
          rw [decide_eq_false C2.out]
          go_wp2_with fail
          refine (isDigit_any _ h256 _).mono ?_
          rintro e w1 ⟨rfl, rfl⟩
          rw [decide_eq_false C3.out]
          go_wp2_with fail
          go_ret3
          exact ⟨by rw [HV.out]; rfl, Q.refl _⟩
      · have a64d : ((s[p].toNat : Int) == 64) = false := by simp; omega
        have N64 := hide a64
        clear a64
        go_enter Tryd.func21, Tryd.ntmps21
        go_wp2_with fail
        refine (isLetter_any _ h256 _).mono ?_
        rintro e w1 ⟨rfl, rfl⟩
        rw [decide_eq_false C2.out]
        go_wp2_with fail
        refine (isDigit_any _ h256 _).mono ?_
        rintro e w1 ⟨rfl, rfl⟩
        rw [decide_eq_false C3.out]
        go_wp2_with fail
        refine (signs_any _).mono ?_
        rintro e w1 ⟨rfl, rfl⟩
        have hqa : Q w (w.alloc (.cells sgV 9)) := (Q.refl w).alloc _
        go_wp2_with fail
        go_loopw [9] (fun v wr => ∃ i : Nat, i ≤ 33 ∧ v = .int .i64 i ∧ (∀ j, j < i → ¬ mt ((nat s).drop p) j) ∧ Q (w.alloc (.cells sgV 9)) wr) (fun v _ => 33 - (intOf v).toNat)
        case atStart => exact ⟨0, by omega, by go_num, fun j hj => by omega, Q.refl _⟩
        case round =>
          obtain ⟨i, hi, rfl, hno, hq⟩ := hrel
          have HNO := hide hno
          clear hno
          have hii : (i : Int) ≤ 33 := by omega
          by_cases hlt : i < 33
          · have hlti : (i : Int) < 33 := by omega
            have hd0 : decide ((i : Int) < 33) = true := by simp; omega
            have hcell : wr.cell? ⟨w.heap.size, i, none⟩ = some (.string (sgS i)) := by
              rw [hq.facts.1 _ _ (by simp), World.cell?_alloc_new]
              exact sgV_get i hlt
            have hwl : w.heap.size < wr.heap.size := by have := hq.size; simp at this; omega
            have hsz := sgS_size i hlt
            have hmt := mt_iff s p i hlt (by omega)
            have hz1 : ((sgS i).size : Int) ≤ 2 := by split at hsz <;> omega
            have hz2 : (1 : Int) ≤ ((sgS i).size : Int) := by split at hsz <;> omega
            have hsl : (sgS i).size = (signsL.getD i []).length := by rw [← nat_length, nat_sgS i hlt]
            have HMT := hide hmt
            have HSL := hide hsl
            clear hsz hmt hsl
            by_cases hfit : p + (sgS i).size ≤ s.size
            · have e1 : decide (p + (sgS i).size ≤ s.size) = true := by simpa using hfit
              have e2 : decide ((p : Int) + ((sgS i).size : Int) ≤ (s.size : Int)) = true := by simp; omega
              have e3 : (p : Int) + ((sgS i).size : Int) ≤ (s.size : Int) := by omega
              by_cases heq : (s.extract p (p + (sgS i).size)).toList = (sgS i).toList
              · have hm : mt ((nat s).drop p) i := HMT.out.2 ⟨hfit, heq⟩
                have hf := first_mt HG0.out HC1.out (fun h => N64.out h.1) hlt hm HNO.out
                have hv := rfV_some (p := p) hf (by rw [← HSL.out]; omega)
                rw [← HSL.out] at hv
                have HV := hide hv
                have e4 : ((s.extract p (p + (sgS i).size)).toList == (sgS i).toList) = true := by simpa using heq
                clear heq hm hf hv
                go_wp2_with fail
                have hxc := ext_cell
                refine wp_region_ext (by kernel_rfl) (by kernel_rfl) ?_
                repeat (go_big_quiet_step ((fail)))
                clear hxc
                refine wpQuiet_nil ?_
                intro wz hwwz
                have hqwz := q_of_ext hwwz
                clear hwwz
                obtain ⟨hcwz, hfwz, hzwz⟩ := hqwz.facts
                try simp at hzwz
                try have hs0wz : w.heap.size < wz.heap.size := by omega
                try have hs1wz : w.heap.size + 1 < wz.heap.size := by omega
                have hq2 := hq.trans hqwz
                clear hcwz hfwz hcell
                go_wp2_with fail
                go_ret3
                exact ⟨by rw [HV.out]; rfl, hqa.trans hq2⟩
              · have hm : ¬ mt ((nat s).drop p) i := fun h => heq (HMT.out.1 h).2
                have HM := hide hm
                have e4 : ((s.extract p (p + (sgS i).size)).toList == (sgS i).toList) = false := by simpa using heq
                clear heq hm
                go_wp2_with fail
                have hxc := ext_cell
                refine wp_region_ext (by kernel_rfl) (by kernel_rfl) ?_
                repeat (go_big_quiet_step ((fail)))
                clear hxc
                refine wpQuiet_nil ?_
                intro wz hwwz
                have hqwz := q_of_ext hwwz
                clear hwwz
                obtain ⟨hcwz, hfwz, hzwz⟩ := hqwz.facts
                try simp at hzwz
                try have hs0wz : w.heap.size < wz.heap.size := by omega
                try have hs1wz : w.heap.size + 1 < wz.heap.size := by omega
                have hq2 := hq.trans hqwz
                clear hcwz hfwz hcell
                go_wp2_with fail
                go_roundw
                case rel => exact ⟨i + 1, by omega, by go_num, fun j hj => by
                  by_cases e : j = i
                  · subst e; exact HM.out
                  · exact HNO.out j (by omega), hq2⟩
                case measure => simp [intOf] <;> omega
            · have hm : ¬ mt ((nat s).drop p) i := fun h => hfit (HMT.out.1 h).1
              have HM := hide hm
              have e1 : decide (p + (sgS i).size ≤ s.size) = false := by simpa using hfit
              have e2 : decide ((p : Int) + ((sgS i).size : Int) ≤ (s.size : Int)) = false := by simp; omega
              clear hm
              go_wp2_with fail
              have hxc := ext_cell
              refine wp_region_ext (by kernel_rfl) (by kernel_rfl) ?_
              repeat (go_big_quiet_step ((fail)))
              clear hxc
              refine wpQuiet_nil ?_
              intro wz hwwz
              have hqwz := q_of_ext hwwz
              clear hwwz
              obtain ⟨hcwz, hfwz, hzwz⟩ := hqwz.facts
              try simp at hzwz
              try have hs0wz : w.heap.size < wz.heap.size := by omega
              try have hs1wz : w.heap.size + 1 < wz.heap.size := by omega
              have hq2 := hq.trans hqwz
              clear hcwz hfwz hcell
              go_wp2_with fail
              go_roundw
              case rel => exact ⟨i + 1, by omega, by go_num, fun j hj => by
                by_cases e : j = i
                · subst e; exact HM.out
                · exact HNO.out j (by omega), hq2⟩
              case measure => simp [intOf] <;> omega
          · have ei : i = 33 := by omega
            subst ei
            have hf := first_no HG0.out HC1.out (fun h => N64.out h.1) HNO.out
            have hv := rfV_none (p := p) hf
            have HV := hide hv
            have hd0 : decide (((33 : Nat) : Int) < 33) = false := by simp
            clear hf hv
            go_wp2_with fail
            go_ret3
            exact ⟨by rw [HV.out]; rfl, hqa.trans hq⟩
end Go.Proofs.YtofigpjabamnhaaDoor
