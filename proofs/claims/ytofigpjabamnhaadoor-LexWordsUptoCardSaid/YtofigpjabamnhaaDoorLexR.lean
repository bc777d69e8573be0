/- The walks of the reference's isLetter, isDigit, run and signs. Conditions: as each theorem says. -/
import Derived.Test.YtofigpjabamnhaaDoorLexM
namespace Go.Proofs.YtofigpjabamnhaaDoor
open Go.RowKit LX
set_option linter.unusedVariables false
theorem isLetter_any (c : Nat) (hc : c < 256) (w : World) : Calls Tryd.prog 25 #[.int .u8 (c : Nat)] w fun e w' => e = .returned (.bool (decide (clsN c = 2))) ∧ w = w' := by
  have hci : (c : Int) < 256 := by omega
  have key : decide (clsN c = 2) = ((decide (97 ≤ c) && decide (c ≤ 122)) || (decide (65 ≤ c) && decide (c ≤ 90)) || decide (c = 95)) := by
    unfold clsN
    rw [Bool.eq_iff_iff]
    simp only [decide_eq_true_eq, Bool.or_eq_true, Bool.and_eq_true]
    repeat' split
    all_goals omega
  rw [key]
  by_cases h1 : 97 ≤ c
  · have d1 : decide (97 ≤ (c : Int)) = true := by simp; omega
    by_cases h2 : c ≤ 122
    · have d2 : decide ((c : Int) ≤ 122) = true := by simp; omega
      go_enter Tryd.func25, Tryd.ntmps25
      go_wp2_with fail
      go_ret
      exact ⟨ret_bool (by simp [h1, h2]), rfl⟩
    · have d2 : decide ((c : Int) ≤ 122) = false := by simp; omega
      have d3 : decide (65 ≤ (c : Int)) = true := by simp; omega
      have d4 : decide ((c : Int) ≤ 90) = false := by simp; omega
      have d5 : ((c : Int) == 95) = false := by simp; omega
      go_enter Tryd.func25, Tryd.ntmps25
      go_wp2_with fail
      go_ret
      exact ⟨ret_bool (by simp; omega), rfl⟩
  · have d1 : decide (97 ≤ (c : Int)) = false := by simp; omega
    by_cases h3 : 65 ≤ c
    · have d3 : decide (65 ≤ (c : Int)) = true := by simp; omega
      by_cases h4 : c ≤ 90
      · have d4 : decide ((c : Int) ≤ 90) = true := by simp; omega
        go_enter Tryd.func25, Tryd.ntmps25
        go_wp2_with fail
        go_ret
        exact ⟨ret_bool (by simp; omega), rfl⟩
      · have d4 : decide ((c : Int) ≤ 90) = false := by simp; omega
        by_cases h5 : c = 95
        · have d5 : ((c : Int) == 95) = true := by simp; omega
          go_enter Tryd.func25, Tryd.ntmps25
          go_wp2_with fail
          go_ret
          exact ⟨ret_bool (by simp; omega), rfl⟩
        · have d5 : ((c : Int) == 95) = false := by simp; omega
          go_enter Tryd.func25, Tryd.ntmps25
          go_wp2_with fail
          go_ret
          exact ⟨ret_bool (by simp; omega), rfl⟩
    · have d3 : decide (65 ≤ (c : Int)) = false := by simp; omega
      have d5 : ((c : Int) == 95) = false := by simp; omega
      go_enter Tryd.func25, Tryd.ntmps25
      go_wp2_with fail
      go_ret
      exact ⟨ret_bool (by simp; omega), rfl⟩
theorem isDigit_any (c : Nat) (hc : c < 256) (w : World) : Calls Tryd.prog 27 #[.int .u8 (c : Nat)] w fun e w' => e = .returned (.bool (decide (clsN c = 3))) ∧ w = w' := by
  have hci : (c : Int) < 256 := by omega
  have key : decide (clsN c = 3) = (decide (48 ≤ c) && decide (c ≤ 57)) := by
    unfold clsN
    rw [Bool.eq_iff_iff]
    simp only [decide_eq_true_eq, Bool.and_eq_true]
    repeat' split
    all_goals omega
  rw [key]
  by_cases h1 : 48 ≤ c
  · have d1 : decide (48 ≤ (c : Int)) = true := by simp; omega
    by_cases h2 : c ≤ 57
    · have d2 : decide ((c : Int) ≤ 57) = true := by simp; omega
      go_enter Tryd.func27, Tryd.ntmps27
      go_wp2_with fail
      go_ret
      exact ⟨ret_bool (by simp; omega), rfl⟩
    · have d2 : decide ((c : Int) ≤ 57) = false := by simp; omega
      go_enter Tryd.func27, Tryd.ntmps27
      go_wp2_with fail
      go_ret
      exact ⟨ret_bool (by simp; omega), rfl⟩
  · have d1 : decide (48 ≤ (c : Int)) = false := by simp; omega
    go_enter Tryd.func27, Tryd.ntmps27
    go_wp2_with fail
    go_ret
    exact ⟨ret_bool (by simp; omega), rfl⟩
theorem rrun_any (s : ByteArray) (p : Nat) (w : World) (hs : s.size ≤ maxLen) (hp : p ≤ s.size) : Calls Tryd.prog 26 #[.string s, .int .i64 (p : Nat)] w fun e w' => e = .returned (.int .i64 (p + runL ((nat s).drop p) : Nat)) ∧ w = w' := by
  unfold maxLen at hs
  have hsi : (s.size : Int) ≤ 9223372036854775807 := by omega
  have hnl := nat_length s
  have HNL := hide hnl
  clear hnl
  go_enter Tryd.func26, Tryd.ntmps26
  go_wp2_with fail
  go_loop [1] (fun v => ∃ k : Nat, k ≤ s.size ∧ v = .int .i64 k ∧ p + runL ((nat s).drop p) = k + runL ((nat s).drop k)) (fun v => s.size - (intOf v).toNat)
  case atStart => exact ⟨p, hp, by go_num, rfl⟩
  case round =>
    obtain ⟨k, hk, rfl, hR⟩ := hrel
    have HR := hide hR
    clear hR
    by_cases hlt : k < s.size
    · have hg := nat_get s k hlt
      have hrd := runL_drop _ _ _ hg
      have h256 : s[k].toNat < 256 := s[k].toNat_lt
      have hd1 : decide (k < s.size) = true := by simpa using hlt
      have hlti : (k : Int) < (s.size : Int) := by omega
      have HRD := hide hrd
      have h3 := clsN_le s[k].toNat
      clear hg hrd
      go_wp2_with fail
      refine (isLetter_any _ h256 _).mono ?_
      rintro e w1 ⟨rfl, rfl⟩
      by_cases c2 : clsN s[k].toNat = 2
      · rw [decide_eq_true c2]
        go_wp2_with fail
        go_round
        case rel => exact ⟨k + 1, by omega, by go_num, by rw [HR.out, HRD.out, if_pos (by omega)]; omega⟩
        case measure => simp [intOf] <;> omega
      · rw [decide_eq_false c2]
        go_wp2_with fail
        refine (isDigit_any _ h256 _).mono ?_
        rintro e w1 ⟨rfl, rfl⟩
        by_cases c3 : clsN s[k].toNat = 3
        · rw [decide_eq_true c3]
          go_wp2_with fail
          go_round
          case rel => exact ⟨k + 1, by omega, by go_num, by rw [HR.out, HRD.out, if_pos (by omega)]; omega⟩
          case measure => simp [intOf] <;> omega
        · rw [decide_eq_false c3]
          go_wp2_with fail
          go_ret
          have hr1 := HR.out
          have hr2 := HRD.out
          rw [if_neg (by omega)] at hr2
          exact ⟨ret_int (by omega), rfl⟩
    · have hd1 : decide (k < s.size) = false := by simpa using hlt
      have hr0 : runL ((nat s).drop k) = 0 := by rw [List.drop_of_length_le (by rw [HNL.out]; omega)]; rfl
      have HR0 := hide hr0
      clear hr0
      go_wp2_with fail
      go_ret
      have hr1 := HR.out
      have hr2 := HR0.out
      exact ⟨ret_int (by omega), rfl⟩
def sgS (i : Nat) : ByteArray := ⟨((signsL.getD i []).map UInt8.ofNat).toArray⟩
def sgV : Array Value := ((List.range 33).map fun i => Value.string (sgS i)).toArray
theorem sgV_get (i : Nat) (h : i < 33) : sgV[i]? = some (.string (sgS i)) := by
  unfold sgV
  simp [h]
theorem signs_any (w : World) : Calls Tryd.prog 28 #[] w fun e w' => e = .returned (.slice (some ⟨w.heap.size, 0, none⟩) 33 33) ∧ w' = w.alloc (.cells sgV 9) := by
  go_enter Tryd.func28, Tryd.ntmps28
  go_wp2_with fail
  go_ret
  exact ⟨rfl, rfl⟩
theorem nat_sgS : ∀ i, i < 33 → nat (sgS i) = signsL.getD i [] := by decide +kernel
theorem sg_len : ∀ i, i < 33 → (signsL.getD i []).length = if i < 12 then 2 else 1 := by decide +kernel
theorem sgS_size (i : Nat) (h : i < 33) : (sgS i).size = if i < 12 then 2 else 1 := by rw [← nat_length, nat_sgS i h, sg_len i h]
theorem isSgn_iff (m : List Nat) : isSgn m = true ↔ ∃ i, i < 33 ∧ signsL.getD i [] = m := by
  unfold isSgn
  rw [List.contains_iff_mem, List.mem_iff_getElem?]
  constructor
  · rintro ⟨i, hi⟩
    have hl : i < 33 := (List.getElem?_eq_some_iff.1 hi).1
    exact ⟨i, hl, by rw [List.getD_eq_getElem?_getD, hi]; rfl⟩
  · rintro ⟨i, hi, e⟩
    have hl : i < signsL.length := hi
    exact ⟨i, by rw [← e, List.getD_eq_getElem?_getD, List.getElem?_eq_getElem hl]; rfl⟩
/-- sign i stands at the head of l -/
def mt (l : List Nat) (i : Nat) : Prop := (signsL.getD i []).length ≤ l.length ∧ l.take (signsL.getD i []).length = signsL.getD i []
theorem first_mt {l : List Nat} {c i : Nat} (h : l[0]? = some c) (hc : clsN c ≤ 1) (hn : ¬ (c = 64 ∧ ∃ d, l[1]? = some d ∧ clsN d = 2)) (hi : i < 33) (hm : mt l i) (hp : ∀ j, j < i → ¬ mt l j) :
    firstL l = (2, (signsL.getD i []).length) := by
  rw [firstL_sign h hc hn]
  obtain ⟨m1, m2⟩ := hm
  have hl := sg_len i hi
  by_cases h12 : i < 12
  · rw [if_pos h12] at hl
    rw [hl] at m1 m2 ⊢
    rw [if_pos ⟨m1, (isSgn_iff _).2 ⟨i, hi, m2.symm⟩⟩]
  · rw [if_neg h12] at hl
    rw [hl] at m1 m2 ⊢
    rw [if_neg, if_pos ((isSgn_iff _).2 ⟨i, hi, m2.symm⟩)]
    rintro ⟨h2, hs⟩
    obtain ⟨j, hj, ej⟩ := (isSgn_iff _).1 hs
    have hlj := sg_len j hj
    have : (signsL.getD j []).length = 2 := by rw [ej]; simp; omega
    have hj12 : j < 12 := by
      by_cases hh : j < 12
      · exact hh
      · rw [if_neg hh] at hlj; omega
    exact hp j (by omega) ⟨by omega, by rw [this]; exact ej.symm⟩
theorem first_no {l : List Nat} {c : Nat} (h : l[0]? = some c) (hc : clsN c ≤ 1) (hn : ¬ (c = 64 ∧ ∃ d, l[1]? = some d ∧ clsN d = 2)) (hp : ∀ j, j < 33 → ¬ mt l j) : firstL l = (0, 0) := by
  rw [firstL_sign h hc hn, if_neg, if_neg]
  · intro hs
    obtain ⟨j, hj, ej⟩ := (isSgn_iff _).1 hs
    have hl : 0 < l.length := (List.getElem?_eq_some_iff.1 h).1
    have : (signsL.getD j []).length = 1 := by rw [ej]; simp; omega
    exact hp j hj ⟨by omega, by rw [this]; exact ej.symm⟩
  · rintro ⟨h2, hs⟩
    obtain ⟨j, hj, ej⟩ := (isSgn_iff _).1 hs
    have : (signsL.getD j []).length = 2 := by rw [ej]; simp; omega
    exact hp j hj ⟨by omega, by rw [this]; exact ej.symm⟩
theorem no64 : ∀ j, j < 33 → (signsL.getD j []).getD 0 0 ≠ 64 := by decide +kernel
theorem mt64 {l : List Nat} (h : l[0]? = some 64) : ∀ j, j < 33 → ¬ mt l j := by
  rintro j hj ⟨h1, h2⟩
  have hl := sg_len j hj
  have hne := no64 j hj
  apply hne
  rw [← h2, List.getD_eq_getElem?_getD, List.getElem?_take, if_pos (by split at hl <;> omega), h]
  rfl
end Go.Proofs.YtofigpjabamnhaaDoor
