/- The walk of the program's IsWord; the law LexWords. Conditions: the text is not immense; the table of blanks is as the program lays it. -/
import Derived.Test.YtofigpjabamnhaaDoorLexWw
import Derived.Deep.DeepCutAuto
namespace Go.Proofs.YtofigpjabamnhaaDoor
open Go.RowKit LX
set_option linter.unusedVariables false
set_option maxRecDepth 100000 in
set_option maxHeartbeats 2000000 in
theorem IsWord_any (s : ByteArray) (hs : s.size ≤ 2000000) (w : World) : Calls Tryd.prog 4 #[.string s] w fun e w' => e = .returned (.bool (wordB s)) ∧ Q w w' := by
  have hzv := zvD
  have hzs := zsD
  have hzn := znD
  obtain ⟨zc, hzc⟩ : ∃ zc, zcD = zc := ⟨_, rfl⟩
  rw [hzc] at hzs hzn
  simp only [hzc] at hzv
  clear hzc
  obtain ⟨wb, hwb⟩ : ∃ wb, wordB s = wb := ⟨_, rfl⟩
  have HWB := hide hwb
  rw [hwb]
  clear hwb
  go_enter Tryd.func4, Tryd.ntmps4
  go_wp2_with fail
  refine (classes_any _).mono ?_
  rintro e w1 ⟨rfl, hq1⟩
  have hz := heap_alloc_new w1 (.cells zc 25)
  have HZ := hide hz
  have HSZ := hide (show zc.size = (clV clsN).size by rw [hzs]; simp [clV])
  clear hz
  go_upto_region 2 with (refine wpList_store_row (o := ⟨none, .store 25 (.tmp 3) (.tmp 4), _, _, _, _⟩) ?_ 25 (.tmp 3) (.tmp 4) ?_ w1.heap.size (clV clsN) ?_ ?_ 25 zc ?_ ?_ ?_ ?_ ?_; rfl; rfl; rfl; rfl; exact HZ.out; exact clV_info; exact HSZ.out; exact clV_one)
  have hq2 : Q w ((w1.alloc (.cells zc 25)).setRow w1.heap.size (clV clsN)) := Q.setRow (hq1.alloc _) hq1.size _
  have ht2 := setRow_heap (w1.alloc (.cells zc 25)) w1.heap.size _ (clV clsN) _ _ HZ.out
  generalize (w1.alloc (.cells zc 25)).setRow w1.heap.size (clV clsN) = w2 at *
  generalize w1.heap.size = bt at *
  have hTab : Tab w2 bt := ⟨(Array.getElem?_eq_some_iff.1 ht2).1, fun i hi => by rw [cell_of_row _ _ _ _ _ _ ht2]; exact clV_get _ _ hi⟩
  have HT := hide hTab
  have HQ2 := hide hq2
  have hbt := hTab.1
  clear hzv hzs hzn HZ HSZ hq1 hq2 ht2 hTab
  have hns := nat_length s
  cases hn : nat s with
  | nil =>
    have h0 : s.size = 0 := by rw [← hns, hn]; rfl
    have he : (s.toList == []) = true := by
      have : s.toList.length = 0 := by rw [Lib.toList_data]; simpa using h0
      rw [List.eq_nil_of_length_eq_zero this]
      rfl
    have HR := hide (show wb = false by rw [← HWB.out]; unfold wordB; rw [hn])
    clear hn hns h0
    go_wp2_with fail
    go_ret
    exact ⟨by rw [HR.out]; rfl, HQ2.out⟩
  | cons k r =>
    have hs0n : 0 < s.size := by rw [← hns, hn]; simp
    have he : (s.toList == []) = false := by
      have hl : s.toList.length = s.size := by rw [Lib.toList_data]; simp
      cases hx : s.toList with
      | nil => rw [hx] at hl; simp at hl; omega
      | cons a b => rfl
    have hk : (s[0]'hs0n).toNat = k := by
      have h := nat_get s 0 hs0n
      rw [hn] at h
      simpa using h.symm
    have hk256 : k < 256 := by rw [← hk]; exact (s[0]'hs0n).toNat_lt
    have hki : (k : Int) < 256 := by omega
    have hs0 : (0 : Int) < (s.size : Int) := by omega
    have hcell := HT.out.2 k hk256
    have HC := hide (fun (u : Unit) => run_any bt s w2 (by unfold maxLen; omega) HT.out)
    obtain ⟨rl, hrl⟩ : ∃ rl, runL (nat s) = rl := ⟨_, rfl⟩
    rw [hrl] at HC
    have hrl2 : runL (k :: r) = rl := by rw [← hn]; exact hrl
    have HW := hide (show wb = (decide (clsN k = 2) && decide (rl = s.size)) by rw [← HWB.out]; unfold wordB; rw [hn]; dsimp only; rw [hrl2])
    clear hn hns hrl hrl2
    by_cases hc : clsN k = 2
    · have hc2 : ((clsN k : Int) == 2) = true := by rw [hc]; rfl
      by_cases hr : rl = s.size
      · have hr2 : ((rl : Int) == (s.size : Int)) = true := by rw [hr]; simp
        have HR := hide (show wb = true by rw [HW.out]; simp [hc, hr])
        clear hc hr
        go_wp2_with fail
        refine (HC.out ()).mono ?_
        rintro e w3 ⟨rfl, hq3⟩
        have HQ3 := hide (HQ2.out.trans hq3)
        clear hq3
        go_wp2_with fail
        go_ret
        exact ⟨by rw [HR.out]; rfl, HQ3.out⟩
      · have hr2 : ((rl : Int) == (s.size : Int)) = false := by rw [beq_eq_false_iff_ne]; omega
        have HR := hide (show wb = false by rw [HW.out]; simp [hr])
        clear hc hr
        go_wp2_with fail
        refine (HC.out ()).mono ?_
        rintro e w3 ⟨rfl, hq3⟩
        have HQ3 := hide (HQ2.out.trans hq3)
        clear hq3
        go_wp2_with fail
        go_ret
        exact ⟨by rw [HR.out]; rfl, HQ3.out⟩
    · have hc2 : ((clsN k : Int) == 2) = false := by rw [beq_eq_false_iff_ne]; omega
      have HR := hide (show wb = false by rw [HW.out]; simp [hc])
      clear hc
      go_wp2_with fail
      go_ret
      exact ⟨by rw [HR.out]; rfl, HQ2.out⟩
theorem LexWords_true (s : ByteArray) (hs : s.size ≤ 2000000) (w : World) (htab : Lib.TabIs Tryd.prog w "strings.asciiSpace" .u8 Lib.asciiSpaceTab) (hg : ∀ w', Q w w' → Lib.TabIs Tryd.prog w' "strings.asciiSpace" .u8 Lib.asciiSpaceTab) :
    Calls Tryd.prog 3 #[.string s] w fun e w' => e = .returned (.bool true) ∧ Q w w' := by
  have C1 := hide (fun w => IsWord_any s hs w)
  have C2 := hide (fun w => rIsWord_any s hs w)
  have C4 := hide (fun w => rIsKey_any s w)
  obtain ⟨wb, hwb⟩ : ∃ b, wordB s = b := ⟨_, rfl⟩
  obtain ⟨kb, hkb⟩ : ∃ b, keyB s = b := ⟨_, rfl⟩
  have C3 := hide (fun w' hq => hkb ▸ IsKey_any s w' (hg w' hq))
  rw [hwb] at C1 C2
  rw [hkb] at C4
  have e1 : (wb == wb) = true := by simp
  have e2 : (kb == kb) = true := by simp
  clear htab hg hwb hkb
  go_enter Tryd.func3, Tryd.ntmps3
  go_wp2_with fail
  refine (C1.out _).mono ?_
  rintro e w1 ⟨rfl, hq1⟩
  have HQ1 := hide hq1
  clear hq1
  go_wp2_with fail
  refine (C2.out _).mono ?_
  rintro e w2 ⟨rfl, hq2⟩
  have HQ2 := hide (HQ1.out.trans hq2)
  clear hq2
  go_wp2_with fail
  refine (C3.out _ HQ2.out).mono ?_
  rintro e w3 ⟨rfl, hq3⟩
  have HQ3 := hide (HQ2.out.trans hq3)
  clear hq3
  go_wp2_with fail
  refine (C4.out _).mono ?_
  rintro e w4 ⟨rfl, hq4⟩
  have HQ4 := hide (HQ3.out.trans hq4)
  clear hq4
  go_wp2_with fail
  refine (known_any _).mono ?_
  rintro e w5 ⟨rfl, hq5⟩
  have HQ5 := hide (HQ4.out.trans hq5)
  clear hq5
  go_wp2_with fail
  go_ret
  exact ⟨rfl, HQ5.out⟩
end Go.Proofs.YtofigpjabamnhaaDoor
