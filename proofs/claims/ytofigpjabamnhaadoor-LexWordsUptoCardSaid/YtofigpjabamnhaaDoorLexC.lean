/- The walk of package lex's first. Conditions: the table lies in memory; the text is not empty. -/
import Derived.Test.YtofigpjabamnhaaDoorLexB
namespace Go.Proofs.YtofigpjabamnhaaDoor
open Go.RowKit LX
set_option linter.unusedVariables false
theorem firstL_letter {l : List Nat} {c : Nat} (h : l[0]? = some c) (hc : clsN c = 2) : firstL l = (0, runL l) := by
  rcases l with _ | ⟨d, r⟩
  · simp at h
  · simp at h; subst h; unfold firstL; simp [hc]
theorem firstL_digit {l : List Nat} {c : Nat} (h : l[0]? = some c) (hc : clsN c = 3) : firstL l = (1, runL l) := by
  rcases l with _ | ⟨d, r⟩
  · simp at h
  · simp at h; subst h; unfold firstL; simp [hc]
theorem cls64 : clsN 64 = 0 := by decide
theorem firstL_at {l : List Nat} {d : Nat} (h : l[0]? = some 64) (h1 : l[1]? = some d) (hd : clsN d = 2) : firstL l = (3, 1 + runL (l.drop 1)) := by
  rcases l with _ | ⟨c, r⟩
  · simp at h
  · simp at h
    subst h
    rcases r with _ | ⟨e, r⟩
    · simp at h1
    · simp at h1; subst h1; unfold firstL; simp [cls64, hd]
theorem firstL_sign {l : List Nat} {c : Nat} (h : l[0]? = some c) (hc : clsN c ≤ 1) (hn : ¬ (c = 64 ∧ ∃ d, l[1]? = some d ∧ clsN d = 2)) :
    firstL l = if 2 ≤ l.length ∧ isSgn (l.take 2) = true then (2, 2) else if isSgn (l.take 1) = true then (2, 1) else (0, 0) := by
  rcases l with _ | ⟨d, r⟩
  · simp at h
  · simp at h
    subst h
    have hn' : ¬ (d = 64 ∧ 0 < r.length ∧ clsN (r.getD 0 0) = 2) := fun ⟨h1, h2, h3⟩ => hn ⟨h1, r.getD 0 0, by
      rcases r with _ | ⟨e, r⟩
      · simp at h2
      · simp, h3⟩
    show (if clsN d = 2 then _ else _) = _
    rw [if_neg (by omega), if_neg (by omega), if_neg hn']
set_option maxHeartbeats 1000000 in
theorem first_any (b : Nat) (s : ByteArray) (w : World) (hs : s.size ≤ maxLen) (h0 : 0 < s.size) (hT : Tab w b) :
    Calls Tryd.prog 24 #[.pointer (some ⟨b, 0, none⟩), .string s] w fun e w' => e = .returned (.tuple #[.int .i64 ((firstL (nat s)).1 : Nat), .int .i64 ((firstL (nat s)).2 : Nat)]) ∧ Q w w' := by
  have HS := hide hs
  unfold maxLen at hs
  have hsi : (s.size : Int) ≤ 9223372036854775807 := by omega
  have hg := nat_get s 0 h0
  have h256 : s[0].toNat < 256 := s[0].toNat_lt
  have hT0 := hT.2 _ h256
  have hbl := hT.1
  have hnl := nat_length s
  have HT := hide hT
  have HG := hide hg
  have HNL := hide hnl
  have h3 := clsN_le s[0].toNat
  clear hg hT hs hnl
  by_cases c2 : clsN s[0].toNat = 2
  · rw [c2] at hT0
    have hfin := firstL_letter HG.out c2
    have HF := hide hfin
    clear c2 hfin h3
    go_enter Tryd.func24, Tryd.ntmps24
    go_wp2_with fail
    have hxc := ext_cell
    refine wp_region_ext (by kernel_rfl) (by kernel_rfl) ?_
    repeat (go_big_quiet_step ((fail)))
    clear hxc
    refine wpQuiet_nil ?_
    intro wz hwwz
    have hqwz := q_of_ext hwwz
    clear hwwz
    obtain ⟨hcwz, hfwz, hzwz⟩ := hqwz.facts
    try simp at hzwz
    try have hs0wz : w.heap.size < wz.heap.size := by omega
    try have hs1wz : w.heap.size + 1 < wz.heap.size := by omega
    clear hcwz hfwz
    go_wp2_with fail
    refine (run_any b s _ HS.out (HT.out.q hqwz)).mono ?_
    rintro e w4 ⟨rfl, hq4⟩
    go_wp2_with fail
    go_ret2
    exact ⟨by rw [HF.out]; rfl, hqwz.trans hq4⟩
  · by_cases c3 : clsN s[0].toNat = 3
    · rw [c3] at hT0
      have hfin := firstL_digit HG.out c3
      have HF := hide hfin
      clear c3 hfin h3 c2
      go_enter Tryd.func24, Tryd.ntmps24
      go_wp2_with fail
      have hxc := ext_cell
      refine wp_region_ext (by kernel_rfl) (by kernel_rfl) ?_
      repeat (go_big_quiet_step ((fail)))
      clear hxc
      refine wpQuiet_nil ?_
      intro wz hwwz
      have hqwz := q_of_ext hwwz
      clear hwwz
      obtain ⟨hcwz, hfwz, hzwz⟩ := hqwz.facts
      try simp at hzwz
      try have hs0wz : w.heap.size < wz.heap.size := by omega
      try have hs1wz : w.heap.size + 1 < wz.heap.size := by omega
      clear hcwz hfwz
      go_wp2_with fail
      refine (run_any b s _ HS.out (HT.out.q hqwz)).mono ?_
      rintro e w4 ⟨rfl, hq4⟩
      go_wp2_with fail
      go_ret2
      exact ⟨by rw [HF.out]; rfl, hqwz.trans hq4⟩
    · obtain ⟨k, hk, hk1⟩ : ∃ k, clsN s[0].toNat = k ∧ k ≤ 1 := ⟨_, rfl, by omega⟩
      have hT0' := hT0
      rw [hk] at hT0
      have hkd1 : ((k : Int) == 2) = false := by simp; omega
      have hkd2 : ((k : Int) == 3) = false := by simp; omega
      have HK := hide hk
      clear c2 c3 h3 hk hT0'
      by_cases a64 : s[0].toNat = 64
      · by_cases a1 : 1 < s.size
        · have hg1 := nat_get s 1 a1
          have h256b : s[1].toNat < 256 := s[1].toNat_lt
          have hT1 := HT.out.2 _ h256b
          have HG1 := hide hg1
          clear hg1
          by_cases a2 : clsN s[1].toNat = 2
          · rw [a2] at hT1
            have hg0 := HG.out
            rw [a64] at hg0
            have hfin := firstL_at hg0 HG1.out a2
            have hne := nat_extract s 1 s.size
            rw [List.take_of_length_le (by rw [List.length_drop, HNL.out]; omega)] at hne
            have hrn := run_any b (s.extract 1 s.size)
            rw [hne] at hrn
            have hrl := runL_le ((nat s).drop 1)
            have hrl2 : 1 + (runL ((nat s).drop 1) : Int) ≤ (s.size : Int) := by
              rw [List.length_drop, HNL.out] at hrl
              omega
            have HFIN := hide hfin
            have HRN := hide hrn
            have a64d : ((s[0].toNat : Int) == 64) = true := by rw [a64]; rfl
            have hdl : decide (1 < s.size) = true := by simpa using a1
            have hdl2 : decide ((1 : Int) < (s.size : Int)) = true := by simp; omega
            have hdl3 : (1 : Int) < (s.size : Int) := by omega
            have hes : (s.extract 1 s.size).size ≤ maxLen := by
              have h1 := HS.out
              have h2 : (s.extract 1 s.size).size = s.size - 1 := by simp
              omega
            have HES := hide hes
            clear hfin a2 hg0 a64 hrn hne hrl hes
            generalize runL ((nat s).drop 1) = r at *
            go_enter Tryd.func24, Tryd.ntmps24
            go_wp2_with fail
            have hxc := ext_cell
            refine wp_region_ext (by kernel_rfl) (by kernel_rfl) ?_
            repeat (go_big_quiet_step ((fail)))
            clear hxc
            refine wpQuiet_nil ?_
            intro wz hwwz
            have hqwz := q_of_ext hwwz
            clear hwwz
            obtain ⟨hcwz, hfwz, hzwz⟩ := hqwz.facts
            try simp at hzwz
            try have hs0wz : w.heap.size < wz.heap.size := by omega
            try have hs1wz : w.heap.size + 1 < wz.heap.size := by omega
            clear hcwz hfwz
            go_wp2_with fail
            have hT1b := (HT.out.q hqwz).2 _ h256b
            have hblz := (HT.out.q hqwz).1
            have hk2 : clsN s[1].toNat = 2 := by
              have := (HT.out.2 _ h256b).symm.trans hT1
              simp at this
              omega
            rw [hk2] at hT1b
            clear hT1 hk2
            have hxc := ext_cell
            refine wp_region_ext (by kernel_rfl) (by kernel_rfl) ?_
            repeat (go_big_quiet_step ((fail)))
            clear hxc
            refine wpQuiet_nil ?_
            intro wy hwwy
            have hqwy := q_of_ext hwwy
            clear hwwy
            obtain ⟨hcwy, hfwy, hzwy⟩ := hqwy.facts
            try simp at hzwy
            try have hs0wy : w.heap.size < wy.heap.size := by omega
            try have hs1wy : w.heap.size + 1 < wy.heap.size := by omega
            clear hcwy hfwy
            go_wp2_with fail
            refine (HRN.out _ HES.out ((HT.out.q hqwz).q hqwy)).mono ?_
            rintro e w4 ⟨rfl, hq4⟩
            go_wp2_with fail
            go_ret2
            exact ⟨by rw [HFIN.out]; rfl, (hqwz.trans hqwy).trans hq4⟩
          · have hfs := firstL_sign HG.out (by rw [HK.out]; exact hk1) (fun ⟨_, d, h1, h2⟩ => a2 (by rw [HG1.out] at h1; cases h1; exact h2))
            rw [HNL.out] at hfs
            have FS := hide hfs
            have a64d : ((s[0].toNat : Int) == 64) = true := by rw [a64]; rfl
            have hdl : decide (1 < s.size) = true := by simpa using a1
            have hdl2 : decide ((1 : Int) < (s.size : Int)) = true := by simp; omega
            have hdl3 : (1 : Int) < (s.size : Int) := by omega
            obtain ⟨k1, hk1e⟩ : ∃ k1, clsN s[1].toNat = k1 := ⟨_, rfl⟩
            have hkd3 : ((k1 : Int) == 2) = false := by simp; omega
            have HK1 := hide hk1e
            clear a64 hk1e a2 hT1
            clear hfs
            go_enter Tryd.func24, Tryd.ntmps24
            go_wp2_with fail
            have hxc := ext_cell
            refine wp_region_ext (by kernel_rfl) (by kernel_rfl) ?_
            repeat (go_big_quiet_step ((fail)))
            clear hxc
            refine wpQuiet_nil ?_
            intro wz hwwz
            have hqwz := q_of_ext hwwz
            clear hwwz
            obtain ⟨hcwz, hfwz, hzwz⟩ := hqwz.facts
            try simp at hzwz
            try have hs0wz : w.heap.size < wz.heap.size := by omega
            try have hs1wz : w.heap.size + 1 < wz.heap.size := by omega
            clear hcwz hfwz
            go_wp2_with fail
            have hT1b := (HT.out.q hqwz).2 _ h256b
            have hblz := (HT.out.q hqwz).1
            rw [HK1.out] at hT1b
            have hxc := ext_cell
            refine wp_region_ext (by kernel_rfl) (by kernel_rfl) ?_
            repeat (go_big_quiet_step ((fail)))
            clear hxc
            refine wpQuiet_nil ?_
            intro wy hwwy
            have hqwy := q_of_ext hwwy
            clear hwwy
            obtain ⟨hcwy, hfwy, hzwy⟩ := hqwy.facts
            try simp at hzwy
            try have hs0wy : w.heap.size < wy.heap.size := by omega
            try have hs1wy : w.heap.size + 1 < wy.heap.size := by omega
            clear hcwy hfwy
            have hq2 := hqwz.trans hqwy
            go_wp2_with fail
            all_goals
              go_loopw [6] (fun v wr => ∃ n : Nat, n ≤ 2 ∧ n ≤ s.size ∧ v = .int .i64 n ∧ (n < 2 → ¬ (2 ≤ s.size ∧ isSgn ((nat s).take 2) = true)) ∧ (n = 0 → isSgn ((nat s).take 1) = false) ∧ Q w wr) (fun v _ => (intOf v).toNat)
              case atStart =>
                first
                  | exact ⟨2, by omega, by omega, by go_num, fun h => by omega, fun h => by omega, hq2⟩
                  | exact ⟨s.size, by omega, by omega, by go_num, fun h h' => by omega, fun h => by omega, hq2⟩
              case round =>
                obtain ⟨n, hn1, hn2, rfl, hn3, hn4, hq⟩ := hrel
                have N3 := hide hn3
                have N4 := hide hn4
                clear hn3 hn4
                have hn1i : (n : Int) ≤ 2 := by omega
                have hn2i : (n : Int) ≤ (s.size : Int) := by omega
                by_cases hn0 : 0 < n
                · have hd0 : decide (0 < n) = true := by simpa using hn0
                  have hne := nat_extract s 0 n
                  rw [List.drop_zero, Nat.sub_zero] at hne
                  have hsg := isSign_any (s.extract 0 n)
                  rw [hne] at hsg
                  have HSG := hide hsg
                  clear hne hsg
                  go_wp2_with fail
                  cases hb : isSgn ((nat s).take n)
                  · refine (HSG.out _).mono ?_
                    rintro e w4 ⟨rfl, rfl⟩
                    rw [hb]
                    have HB := hide hb
                    clear hb
                    go_wp2_with fail
                    go_roundw
                    case rel =>
                      refine ⟨n - 1, by omega, by omega, by go_num, fun h => ?_, fun h => ?_, hq⟩
                      · intro h2
                        by_cases e2 : n = 2
                        · subst e2
                          rw [HB.out] at h2
                          exact absurd h2.2 (by simp)
                        · exact N3.out (by omega) h2
                      · have e1 : n = 1 := by omega
                        subst e1
                        exact HB.out
                    case measure => simp [intOf] <;> omega
                  · refine (HSG.out _).mono ?_
                    rintro e w4 ⟨rfl, rfl⟩
                    rw [hb]
                    have hfin : firstL (nat s) = (2, n) := by
                      rw [FS.out]
                      by_cases e2 : n = 2
                      · subst e2
                        rw [if_pos ⟨by omega, hb⟩]
                      · have e1 : n = 1 := by omega
                        subst e1
                        rw [if_neg (N3.out (by omega)), if_pos hb]
                    have HFIN := hide hfin
                    clear hb hfin
                    go_wp2_with fail
                    go_ret2
                    exact ⟨by rw [HFIN.out]; rfl, hq⟩
                · have hd0 : decide (0 < n) = false := by simpa using hn0
                  have e0 : n = 0 := by omega
                  have hfin : firstL (nat s) = (0, 0) := by
                    rw [FS.out, if_neg (N3.out (by omega)), if_neg (by rw [N4.out e0]; simp)]
                  have HFIN := hide hfin
                  clear hfin
                  go_wp2_with fail
                  go_ret2
                  exact ⟨by rw [HFIN.out]; rfl, hq⟩
        · have hfs := firstL_sign HG.out (by rw [HK.out]; exact hk1) (fun ⟨_, d, h1, h2⟩ => by
            have := (List.getElem?_eq_some_iff.1 h1).1
            rw [HNL.out] at this
            omega)
          rw [HNL.out] at hfs
          have FS := hide hfs
          have a64d : ((s[0].toNat : Int) == 64) = true := by rw [a64]; rfl
          have hdl : decide (1 < s.size) = false := by simpa using a1
          have hdl2 : decide ((1 : Int) < (s.size : Int)) = false := by simp; omega
          clear a64
          clear hfs
          go_enter Tryd.func24, Tryd.ntmps24
          go_wp2_with fail
          have hxc := ext_cell
          refine wp_region_ext (by kernel_rfl) (by kernel_rfl) ?_
          repeat (go_big_quiet_step ((fail)))
          clear hxc
          refine wpQuiet_nil ?_
          intro wz hwwz
          have hqwz := q_of_ext hwwz
          clear hwwz
          obtain ⟨hcwz, hfwz, hzwz⟩ := hqwz.facts
          try simp at hzwz
          try have hs0wz : w.heap.size < wz.heap.size := by omega
          try have hs1wz : w.heap.size + 1 < wz.heap.size := by omega
          clear hcwz hfwz
          go_wp2_with fail
          have hxc := ext_cell
          refine wp_region_ext (by kernel_rfl) (by kernel_rfl) ?_
          repeat (go_big_quiet_step ((fail)))
          clear hxc
          refine wpQuiet_nil ?_
          intro wy hwwy
          have hqwy := q_of_ext hwwy
          clear hwwy
          obtain ⟨hcwy, hfwy, hzwy⟩ := hqwy.facts
          try simp at hzwy
          try have hs0wy : w.heap.size < wy.heap.size := by omega
          try have hs1wy : w.heap.size + 1 < wy.heap.size := by omega
          clear hcwy hfwy
          have hq2 := hqwz.trans hqwy
          go_wp2_with fail
          all_goals
            go_loopw [6] (fun v wr => ∃ n : Nat, n ≤ 2 ∧ n ≤ s.size ∧ v = .int .i64 n ∧ (n < 2 → ¬ (2 ≤ s.size ∧ isSgn ((nat s).take 2) = true)) ∧ (n = 0 → isSgn ((nat s).take 1) = false) ∧ Q w wr) (fun v _ => (intOf v).toNat)
            case atStart =>
              first
                | exact ⟨2, by omega, by omega, by go_num, fun h => by omega, fun h => by omega, hq2⟩
                | exact ⟨s.size, by omega, by omega, by go_num, fun h h' => by omega, fun h => by omega, hq2⟩
            case round =>
              obtain ⟨n, hn1, hn2, rfl, hn3, hn4, hq⟩ := hrel
              have N3 := hide hn3
              have N4 := hide hn4
              clear hn3 hn4
              have hn1i : (n : Int) ≤ 2 := by omega
              have hn2i : (n : Int) ≤ (s.size : Int) := by omega
              by_cases hn0 : 0 < n
              · have hd0 : decide (0 < n) = true := by simpa using hn0
                have hne := nat_extract s 0 n
                rw [List.drop_zero, Nat.sub_zero] at hne
                have hsg := isSign_any (s.extract 0 n)
                rw [hne] at hsg
                have HSG := hide hsg
                clear hne hsg
                go_wp2_with fail
                cases hb : isSgn ((nat s).take n)
                · refine (HSG.out _).mono ?_
                  rintro e w4 ⟨rfl, rfl⟩
                  rw [hb]
                  have HB := hide hb
                  clear hb
                  go_wp2_with fail
                  go_roundw
                  case rel =>
                    refine ⟨n - 1, by omega, by omega, by go_num, fun h => ?_, fun h => ?_, hq⟩
                    · intro h2
                      by_cases e2 : n = 2
                      · subst e2
                        rw [HB.out] at h2
                        exact absurd h2.2 (by simp)
                      · exact N3.out (by omega) h2
                    · have e1 : n = 1 := by omega
                      subst e1
                      exact HB.out
                  case measure => simp [intOf] <;> omega
                · refine (HSG.out _).mono ?_
                  rintro e w4 ⟨rfl, rfl⟩
                  rw [hb]
                  have hfin : firstL (nat s) = (2, n) := by
                    rw [FS.out]
                    by_cases e2 : n = 2
                    · subst e2
                      rw [if_pos ⟨by omega, hb⟩]
                    · have e1 : n = 1 := by omega
                      subst e1
                      rw [if_neg (N3.out (by omega)), if_pos hb]
                  have HFIN := hide hfin
                  clear hb hfin
                  go_wp2_with fail
                  go_ret2
                  exact ⟨by rw [HFIN.out]; rfl, hq⟩
              · have hd0 : decide (0 < n) = false := by simpa using hn0
                have e0 : n = 0 := by omega
                have hfin : firstL (nat s) = (0, 0) := by
                  rw [FS.out, if_neg (N3.out (by omega)), if_neg (by rw [N4.out e0]; simp)]
                have HFIN := hide hfin
                clear hfin
                go_wp2_with fail
                go_ret2
                exact ⟨by rw [HFIN.out]; rfl, hq⟩
      · have hfs := firstL_sign HG.out (by rw [HK.out]; exact hk1) (fun h => a64 h.1)
        rw [HNL.out] at hfs
        have FS := hide hfs
        have a64d : ((s[0].toNat : Int) == 64) = false := by simp; omega
        clear hfs
        go_enter Tryd.func24, Tryd.ntmps24
        go_wp2_with fail
        have hxc := ext_cell
        refine wp_region_ext (by kernel_rfl) (by kernel_rfl) ?_
        repeat (go_big_quiet_step ((fail)))
        clear hxc
        refine wpQuiet_nil ?_
        intro wz hwwz
        have hqwz := q_of_ext hwwz
        clear hwwz
        obtain ⟨hcwz, hfwz, hzwz⟩ := hqwz.facts
        try simp at hzwz
        try have hs0wz : w.heap.size < wz.heap.size := by omega
        try have hs1wz : w.heap.size + 1 < wz.heap.size := by omega
        clear hcwz hfwz
        go_wp2_with fail
        have hxc := ext_cell
        refine wp_region_ext (by kernel_rfl) (by kernel_rfl) ?_
        repeat (go_big_quiet_step ((fail)))
        clear hxc
        refine wpQuiet_nil ?_
        intro wy hwwy
        have hqwy := q_of_ext hwwy
        clear hwwy
        obtain ⟨hcwy, hfwy, hzwy⟩ := hqwy.facts
        try simp at hzwy
        try have hs0wy : w.heap.size < wy.heap.size := by omega
        try have hs1wy : w.heap.size + 1 < wy.heap.size := by omega
        clear hcwy hfwy
        have hq2 := hqwz.trans hqwy
        go_wp2_with fail
        all_goals
          go_loopw [6] (fun v wr => ∃ n : Nat, n ≤ 2 ∧ n ≤ s.size ∧ v = .int .i64 n ∧ (n < 2 → ¬ (2 ≤ s.size ∧ isSgn ((nat s).take 2) = true)) ∧ (n = 0 → isSgn ((nat s).take 1) = false) ∧ Q w wr) (fun v _ => (intOf v).toNat)
          case atStart =>
            first
              | exact ⟨2, by omega, by omega, by go_num, fun h => by omega, fun h => by omega, hq2⟩
              | exact ⟨s.size, by omega, by omega, by go_num, fun h h' => by omega, fun h => by omega, hq2⟩
          case round =>
            obtain ⟨n, hn1, hn2, rfl, hn3, hn4, hq⟩ := hrel
            have N3 := hide hn3
            have N4 := hide hn4
            clear hn3 hn4
            have hn1i : (n : Int) ≤ 2 := by omega
            have hn2i : (n : Int) ≤ (s.size : Int) := by omega
            by_cases hn0 : 0 < n
            · have hd0 : decide (0 < n) = true := by simpa using hn0
              have hne := nat_extract s 0 n
              rw [List.drop_zero, Nat.sub_zero] at hne
              have hsg := isSign_any (s.extract 0 n)
              rw [hne] at hsg
              have HSG := hide hsg
              clear hne hsg
              go_wp2_with fail
              cases hb : isSgn ((nat s).take n)
              · refine (HSG.out _).mono ?_
                rintro e w4 ⟨rfl, rfl⟩
                rw [hb]
                have HB := hide hb
                clear hb
                go_wp2_with fail
                go_roundw
                case rel =>
                  refine ⟨n - 1, by omega, by omega, by go_num, fun h => ?_, fun h => ?_, hq⟩
                  · intro h2
                    by_cases e2 : n = 2
                    · subst e2
                      rw [HB.out] at h2
                      exact absurd h2.2 (by simp)
                    · exact N3.out (by omega) h2
                  · have e1 : n = 1 := by omega
                    subst e1
                    exact HB.out
                case measure => simp [intOf] <;> omega
              · refine (HSG.out _).mono ?_
                rintro e w4 ⟨rfl, rfl⟩
                rw [hb]
                have hfin : firstL (nat s) = (2, n) := by
                  rw [FS.out]
                  by_cases e2 : n = 2
                  · subst e2
                    rw [if_pos ⟨by omega, hb⟩]
                  · have e1 : n = 1 := by omega
                    subst e1
                    rw [if_neg (N3.out (by omega)), if_pos hb]
                have HFIN := hide hfin
                clear hb hfin
                go_wp2_with fail
                go_ret2
                exact ⟨by rw [HFIN.out]; rfl, hq⟩
            · have hd0 : decide (0 < n) = false := by simpa using hn0
              have e0 : n = 0 := by omega
              have hfin : firstL (nat s) = (0, 0) := by
                rw [FS.out, if_neg (N3.out (by omega)), if_neg (by rw [N4.out e0]; simp)]
              have HFIN := hide hfin
              clear hfin
              go_wp2_with fail
              go_ret2
              exact ⟨by rw [HFIN.out]; rfl, hq⟩
end Go.Proofs.YtofigpjabamnhaaDoor
