/- The law ListPlays, walked. Conditions: the slice reads as acts. -/
import Derived.Test.YtdaklffbfadghaaGreatLsU18
namespace Go.Proofs.YtdaklffbfadghaaGreat
open Go.RowKit HP
set_option linter.unusedVariables false
set_option linter.unusedSimpArgs false
set_option maxHeartbeats 4000000 in
set_option maxRecDepth 100000 in
theorem plays_any (x0 x1 x2 x3 x4 : Int) (v : SlV Ask3) (w : World) (hS : SlOk 3 encA okA w v) : Calls Tryz.prog 5 #[.agg #[.int .i64 x0, .int .i64 x1, .int .i64 x2, .int .i64 x3, .int .i64 x4], v.val] w fun e w' => e = .returned (.bool true) ∧ Q w w' := by
  obtain ⟨A, n, c, l⟩ := v
  unfold SlV.val
  have hcap := hS.sl.cap
  have hbig := hS.big
  dsimp only at hcap hbig
  have HSL := hide hS.sl
  clear hS
  dsimp only at HSL
  go_enter Tryz.func5, Tryz.ntmps5
  go_wp2_with fail
  refine (begin_any _ _ _ _ _ _).mono ?_
  rintro e w1 (⟨rfl, hq1⟩ | ⟨h, G, rfl, R, I, B, hq1, hf1, hg1⟩)
  · have hq1 := ((Q.refl w).alloc _).trans hq1
    go_wp2_with fail
    refine (known_lists _).mono ?_
    rintro e w2 ⟨rfl, hqw2⟩
    obtain ⟨hcw2, hfw2, hzw2⟩ := hqw2.facts
    try simp at hzw2
    try have hs0w2 : w.heap.size < w2.heap.size := by omega
    try have hs1w2 : w.heap.size + 1 < w2.heap.size := by omega
    go_wp2_with fail
    go_ret
    exact ⟨rfl, hq1.trans hqw2⟩
  · have HQ1 := hide (((Q.refl w).alloc _).trans hq1)
    have hq1 := HQ1.out
    obtain ⟨k0, -, -, -, -, -, hbl, -, -⟩ := R.k
    unfold Gd.ptr
    have hdg : (200 : Nat) < n ∨ ¬ 200 < n := by omega
    rcases hdg with hdg | hdg
    · have hd : decide ((200 : Int) < (n : Int)) = true := by simp; omega
      go_wp2_with fail
      refine (known_lists _).mono ?_
      rintro e w2 ⟨rfl, hqw2⟩
      obtain ⟨hcw2, hfw2, hzw2⟩ := hqw2.facts
      try simp at hzw2
      try have hs0w2 : w.heap.size < w2.heap.size := by omega
      try have hs1w2 : w.heap.size + 1 < w2.heap.size := by omega
      go_wp2_with fail
      go_ret
      exact ⟨rfl, HQ1.out.trans hqw2⟩
    have hd : decide ((200 : Int) < (n : Int)) = false := by simp; omega
    have HL0 : Hid (∀ W, Q w1 W → LR W h (newRw w1.heap.size 117 []) → LG w W h.blk h.m (newRw w1.heap.size 117 []) G (fun _ => False)) := fun W hq L => by
      refine LG.start R hq L (fun b e => ?_) HQ1.out (fun b e => ?_) ?_
      · rcases e with e | e
        · have e : b = w1.heap.size := e
          omega
        · cases e
      · have := hf1 b e
        simp at this
        omega
      · simp at hg1
        omega
    have HNL : Hid (Calls Tryz.prog 13 #[h.ptr] w1 fun e W => e = .returned (.tuple #[.pointer (some ⟨w1.heap.size, 0, none⟩), .int .i64 0]) ∧ LG w W h.blk h.m (newRw w1.heap.size 117 []) G (fun _ => False)) := hide ((newList_any R.heap R.mu).mono (by
      rintro e W ⟨he, hq, L⟩
      exact ⟨he, HL0.out W hq L⟩))
    have HNX : Hid (∀ W, LG w W h.blk h.m (newRw w1.heap.size 117 []) G (fun _ => False) → Calls Tryz.prog 39 #[.pointer (some ⟨G.blk, 0, none⟩), .int .i64 0, .int .i64 0, .bool false, .int .i64 0] W fun e W' => e = .returned (.bool true) ∧ LG w W' h.blk h.m (newRw w1.heap.size 117 []) G (fun _ => False)) := fun W X => by
      refine (X.grd (P := fun e => e = .returned (.bool true)) rfl fun h' R' e1 => next_any R' (by rw [e1]; exact I) (.inl ⟨rfl, (fun e => by cases e), by rw [e1]; exact B.calls, rfl⟩)).mono ?_
      rintro e W' ⟨he, hl, -⟩
      exact ⟨he, hl⟩
    have HLF : Hid (∀ W, LG w W h.blk h.m (newRw w1.heap.size 117 []) G (fun _ => False) → Calls Tryz.prog 40 #[.pointer (some ⟨G.blk, 0, none⟩)] W fun e W' => e = .returned (.bool true) ∧ LG w W' h.blk h.m (newRw w1.heap.size 117 []) G (fun _ => False)) := fun W X => by
      refine (X.grd (P := fun e => e = .returned (.bool true)) rfl fun h' R' e1 => left_gi R' (by rw [e1]; exact I) (by rw [e1, rest_nil, B.others])).mono ?_
      rintro e W' ⟨he, hl, -⟩
      exact ⟨he, hl⟩
    have HG0 : Hid (GI h.m 1 [] 0 G 0) := hide (GI.start I B 1 (by decide))
    have HI := hide I
    have hdn : n ≤ 200 := by omega
    clear hdg hcap hbig hf1 hg1 R B HL0 I
    obtain ⟨gb, egb⟩ : ∃ gb, gb = G.blk := ⟨_, rfl⟩
    have HEG := hide egb
    obtain ⟨r0, er0⟩ : ∃ r0, r0 = newRw w1.heap.size 117 [] := ⟨_, rfl⟩
    have HER := hide er0
    rw [← er0] at HNL HNX HLF
    rw [← egb] at HNX HLF k0 hbl ⊢
    clear er0 egb
    obtain ⟨lb, elb⟩ : ∃ lb, lb = w1.heap.size := ⟨_, rfl⟩
    have HLB : Hid (r0.blk = lb) := by rw [HER.out, elb]; rfl
    rw [← elb] at HNL
    clear elb
    unfold Hp.ptr at k0 HNL
    go_wp2_with (first
      | (go_at_call 13; refine HNL.out.mono ?_; rintro e w2 ⟨rfl, hX2⟩; have HX2 := hide hX2; clear hX2 k0 hbl)
      | (go_at_call 39; refine (HNX.out _ HX2.out).mono ?_; rintro e w3 ⟨rfl, hX3⟩; have HX3 := hide hX3; clear hX3)
      | (go_at_call 40; refine (HLF.out _ HX3.out).mono ?_; rintro e w4 ⟨rfl, hX4⟩; have HX4 := hide hX4; clear hX4))
    have HP0 : Hid (PR w h.blk lb gb w4.heap.size n 0 (w4.alloc (.cells #[.slice none 0 0] 47))) := by
      have X := HX4.out
      have q : Q w4 (w4.alloc (.cells #[.slice none 0 0] 47)) := (Q.refl _).alloc _
      refine ⟨.slice none 0 0, h.m, r0, G, [], HLB.out, HEG.out.symm, X.turn (T := fun _ => False) (.of_q q) (fun b e => e.elim) (fun b e => ?_), heap_alloc_new _ _, World.ownsRow_nil _ _ _ _, ?_, ?_, Nat.zero_le _⟩
      · rcases e with e | e
        · refine .inr ⟨by omega, ?_⟩
          subst e
          simp
        · cases e
      · rw [HER.out]
        exact newList_r h.m HI.out _
      · rw [HER.out]
        exact HG0.out
    obtain ⟨mb, emb⟩ : ∃ mb, mb = w4.heap.size := ⟨_, rfl⟩
    obtain ⟨w5, ew5⟩ : ∃ w5, w5 = w4.alloc (.cells #[.slice none 0 0] 47) := ⟨_, rfl⟩
    rw [← emb, ← ew5] at HP0
    rw [← emb, ← ew5]
    obtain ⟨hb, ehb⟩ : ∃ hb, hb = h.blk := ⟨_, rfl⟩
    rw [← ehb] at HP0
    clear emb ew5 ehb HX4 HX3 HX2 HNL HNX HLF HER HLB HG0 HI HEG hq1
    go_loopg [10] n (fun g vi wr => ∃ i : Nat, i + g = n ∧ vi = .int .i64 (i : Int) ∧ PR w hb lb gb mb n i wr)
    case atStart => exact ⟨0, by omega, by go_num, HP0.out⟩
    case round =>
      clear HP0
      obtain ⟨i, hig, rfl, hp⟩ := hrel
      have HCL : Hid (∀ W, PR w hb lb gb mb n i W → Calls Tryz.prog 31 #[.pointer (some ⟨lb, 0, none⟩)] W fun e W' => e = .returned (.int .i64 0) ∧ PC w hb lb gb W') := fun W X => pr_close X
      have HLF : Hid (∀ W, PC w hb lb gb W → Calls Tryz.prog 40 #[.pointer (some ⟨gb, 0, none⟩)] W fun e W' => e = .returned (.bool true) ∧ PC w hb lb gb W') := fun W X => pc_left X
      have HLC : Hid (∀ W, PC w hb lb gb W → Calls Tryz.prog 51 #[.pointer (some ⟨lb, 0, none⟩)] W fun e W' => e = .returned (.bool true) ∧ Q w W') := fun W X => pc_closed X
      have HKN : Hid (∀ W, Calls Tryz.prog 38 #[] W fun e w' => e = .returned (.bool true) ∧ Q W w') := fun W => known_lists _
      by_cases hlt : i < n
      · have hd1 : decide ((i : Int) < (n : Int)) = true := by simp; omega
        have hd0 : decide (i < n) = true := by simp; omega
        have hlti : (i : Int) < (n : Int) := by omega
        obtain ⟨ba, oa, op, a1, b1, eA, hba, -, d0, d1, d2⟩ := (HSL.out.up (PR.toQ hp)).ask i hlt
        subst eA
        have HP := hide hp
        obtain ⟨v, m, r, G, xs, hrb, hgk, X, hm, hv, S, g, -⟩ := hp
        have cM : wr.cell? ⟨mb, 0, none⟩ = some v := by rw [cell_of_row _ _ _ _ _ _ hm]; rfl
        have hml := blk_lt hm
        obtain ⟨A1, c1, ev, hc1, hc2, hxl, hrd⟩ := own_form hv
        have hA1 : A1 = none → xs.length = 0 ∧ c1 = 0 := fun e => by
          subst e
          rcases hv.2 with ⟨h0, -⟩ | ⟨g, cap, cur, h0, -⟩
          · rw [ev] at h0
            injection h0 with _ h1 h2
            exact ⟨h1, h2⟩
          · rw [ev] at h0
            cases h0
        subst ev
        have hS64 := S.fit64
        obtain ⟨len, elen⟩ : ∃ len, len = xs.length := ⟨_, rfl⟩
        have HLEN := hide elen
        rw [← elen] at cM hS64
        have HA1 : Hid (A1 = none → len = 0 ∧ c1 = 0) := by rw [elen]; exact hA1
        have HRD : Hid (Rd wr wr.heap.size A1 (intsV xs)) := hrd
        have HXL : Hid ((intsV xs).length = len * 1) := by rw [elen]; exact hxl
        have HX := hide X
        have HM := hide hm
        have HV := hide hv
        have HS := hide S
        have HG := hide g
        have HRB := hide hrb
        have HGK := hide hgk
        clear hrb hgk X hm hv S g hc1 hc2 hxl hrd hA1 elen
        -- ROUND
        -- ROUND
        -- ROUND
        -- ROUND
        -- ROUND
        -- ROUND
        -- ROUND
        go_upto_region 13 with (at_builtin; go_loud (refine wpList_appsn rfl El_int _ _ rfl rfl (own_lit0 _ (wr.heap.size + 1) _ 1 _ (by simp) (by simp)) (fun e => by cases e) rfl HA1.out HXL.out (HRD.out.up (((Q.refl _).alloc _).alloc _)) (intsV_cell xs) ?_ ?_ ?_; (focus omega); (focus (simp)); intro v9 w9 hown9 hb9 hn9; simp only [Nat.zero_add, List.nil_append] at hown9; obtain ⟨g9, c9, e9⟩ := own_some hown9 hn9; subst e9; have HO9 := hide hown9; have hq9 := q_below ((Q.refl (wr.alloc (.cells #[.int .i64 op, .int .i64 a1, .int .i64 b1] 53))).alloc _) hb9 (by simp); have HQ9 := hide hq9; obtain ⟨e90, e91, e92, hs9⟩ := act_cells hq9; clear hown9 hb9 hn9 hq9))
        have hAS : AS w (w9.alloc (.cells #[.slice (some ⟨g9, 0, none⟩) xs.length c9] 47)) hb lb gb mb wr.heap.size w9.heap.size (.slice A1 xs.length c1) (.slice (some ⟨g9, 0, none⟩) xs.length c9) m r G op a1 b1 xs xs := AS.make HRB.out HGK.out HX.out HM.out HV.out rfl HQ9.out (by have h := HO9.out; rw [HLEN.out] at h; simpa using h)
        rw [← HLEN.out] at hAS
        have HMC : Hid (m.calls < 1000000000) := hide (by have := HG.out.few; omega)
        have HX64 : Hid (xs.length ≤ 1000) := hide (by have := HS.out.fit64; omega)
        clear e90 e91 e92 hs9 HQ9 HO9 HRD HXL HA1 HX HM HV d0 d1 d2 cM HSL hba
        obtain ⟨W4, eW4⟩ : ∃ W4, W4 = w9.alloc (.cells #[.slice (some ⟨g9, 0, none⟩) len c9] 47) := ⟨_, rfl⟩
        obtain ⟨nb, enb⟩ : ∃ nb, nb = w9.heap.size := ⟨_, rfl⟩
        obtain ⟨ab, eab⟩ : ∃ ab, ab = wr.heap.size := ⟨_, rfl⟩
        rw [← eW4, ← enb, ← eab] at hAS
        rw [← eW4, ← enb, ← eab]
        clear eW4 enb eab hml
        have HAS : Hid (AS w W4 hb lb gb mb ab nb (.slice A1 xs.length c1) (.slice (some ⟨g9, 0, none⟩) xs.length c9) m r G op a1 b1 xs xs) := by rw [← HLEN.out]; exact hAS
        clear hAS
        obtain ⟨d0, d1, d2, cN, cM, hab, hnb, hmb, fM⟩ := HAS.out.cs
        rw [← HLEN.out] at cN cM
        go_upto_block 2 with fail
        go_cut [13, 14, 15, 16, 17] (fun t13 t14 t15 t16 t17 wx => CutP w hb lb gb mb ab nb op a1 b1 i t13 t14 t15 t16 t17 wx)
        case first =>
          cases k0 : (op == 0) with
          | true =>
            go_wp2_with (first
                | (go_at_call 17; go_loud (refine (as_add HAS.out HS.out HMC.out a1).mono ?_); rintro e w10 ⟨m2, r2, hX, err, rfl, hO⟩; have HX10 := hide hX; clear hX; have HO := hide hO; clear hO; clear d0 d1 d2 cN cM hab hnb hmb fM; obtain ⟨d0, d1, d2, cN, cM, hab, hnb, hmb, fM⟩ := HX10.out.cs; rw [← HLEN.out] at cN cM)
                | (go_at_call 18; go_loud (refine (as_rins HX10.out HX64.out (len : Int) a1).mono ?_); rintro e w11 ⟨rfl, v4, hX⟩; have HX11 := hide hX; clear hX d0 d1 d2 cN cM hab hnb hmb fM))
            go_meet
            obtain ⟨G2, xs2, hA⟩ := ins_out HS.out HG.out HO.out
            rw [← HLEN.out] at hA
            exact ⟨_, v4, m2, r2, G, G2, xs, _, xs2, err, _, 0, true, rfl, rfl, rfl, rfl, rfl, HX11.out, hA⟩
          | false =>
            cases k1 : (op == 1) with
            | true =>
              go_wp2_with (first
                  | (go_at_call 46; go_loud (refine (as_ins HAS.out HS.out HMC.out a1 b1).mono ?_); rintro e w10 ⟨m2, r2, hX, err, rfl, hO⟩; have HX10 := hide hX; clear hX; have HO := hide hO; clear hO; clear d0 d1 d2 cN cM hab hnb hmb fM; obtain ⟨d0, d1, d2, cN, cM, hab, hnb, hmb, fM⟩ := HX10.out.cs; rw [← HLEN.out] at cN cM)
                  | (go_at_call 18; go_loud (refine (as_rins HX10.out HX64.out a1 b1).mono ?_); rintro e w11 ⟨rfl, v4, hX⟩; have HX11 := hide hX; clear hX d0 d1 d2 cN cM hab hnb hmb fM))
              go_meet
              obtain ⟨G2, xs2, hA⟩ := ins_out HS.out HG.out HO.out
              exact ⟨_, v4, m2, r2, G, G2, xs, _, xs2, err, _, 0, true, rfl, rfl, rfl, rfl, rfl, HX11.out, hA⟩
            | false =>
              cases k2 : (op == 2) with
              | true =>
                go_wp2_with (first
                    | (go_at_call 19; go_loud (refine (as_rem HAS.out HS.out a1).mono ?_); rintro e w10 ⟨m2, r2, hX, x, err, rfl, hO⟩; have HX10 := hide hX; clear hX; have HO := hide hO; clear hO; clear d0 d1 d2 cN cM hab hnb hmb fM; obtain ⟨d0, d1, d2, cN, cM, hab, hnb, hmb, fM⟩ := HX10.out.cs; rw [← HLEN.out] at cN cM)
                    | (go_at_call 20; go_loud (refine (as_rrem HX10.out HX64.out a1).mono ?_); rintro e w11 ⟨rfl, v4, hX⟩; have HX11 := hide hX; clear hX d0 d1 d2 cN cM hab hnb hmb fM))
                go_meet
                obtain ⟨ex, ee, G2, xs2, hA⟩ := rem_out HS.out HG.out HO.out
                exact ⟨_, v4, m2, r2, G, G2, xs, _, xs2, _, _, _, false, rfl, by rw [ee], rfl, by rw [ex], rfl, HX11.out, hA⟩
              | false =>
                cases k3 : (op == 3) with
                | true =>
                  go_wp2_with (first
                      | (go_at_call 47; go_loud (refine (as_get HAS.out HS.out a1).mono ?_); rintro e w10 ⟨rfl, hX⟩; have HX10 := hide hX; clear hX; clear d0 d1 d2 cN cM hab hnb hmb fM; obtain ⟨d0, d1, d2, cN, cM, hab, hnb, hmb, fM⟩ := HX10.out.cs; rw [← HLEN.out] at cN cM)
                      | (go_at_call 48; go_loud (refine (as_rget HX10.out HX64.out a1).mono ?_); rintro e w11 ⟨rfl, hX⟩; have HX11 := hide hX; clear hX d0 d1 d2 cN cM hab hnb hmb fM))
                  go_meet
                  obtain ⟨G2, xs2, hA⟩ := get_out (i := a1) HS.out HG.out
                  exact ⟨_, _, m, r, G, G2, xs, _, xs2, _, _, _, false, rfl, rfl, rfl, rfl, rfl, HX11.out, hA⟩
                | false =>
                  cases k4 : (op == 4) with
                  | true =>
                    go_wp2_with (first
                        | (go_at_call 49; go_loud (refine (as_set HAS.out HS.out a1 b1).mono ?_); rintro e w10 ⟨m2, r2, hX, err, rfl, hO⟩; have HX10 := hide hX; clear hX; have HO := hide hO; clear hO; clear d0 d1 d2 cN cM hab hnb hmb fM; obtain ⟨d0, d1, d2, cN, cM, hab, hnb, hmb, fM⟩ := HX10.out.cs; rw [← HLEN.out] at cN cM)
                        | (go_at_call 50; go_loud (refine (as_rset HX10.out HX64.out a1 b1).mono ?_); rintro e w11 ⟨rfl, v4, hX⟩; have HX11 := hide hX; clear hX d0 d1 d2 cN cM hab hnb hmb fM))
                    go_meet
                    obtain ⟨G2, xs2, hA⟩ := set_out HS.out HG.out HO.out
                    exact ⟨_, v4, m2, r2, G, G2, xs, _, xs2, err, _, 0, false, rfl, rfl, rfl, rfl, rfl, HX11.out, hA⟩
                  | false =>
                    have HP4 := hide ((HAS.out.leave HS.out HG.out).pr (n := n) (by omega))
                    go_wp2_with (first
                      | (go_at_call 31; refine (HCL.out _ HP4.out).mono ?_; rintro e w6 ⟨rfl, hX6⟩; have HX6 := hide hX6; clear hX6)
                      | (go_at_call 40; refine (HLF.out _ HX6.out).mono ?_; rintro e w7 ⟨rfl, hX7⟩; have HX7 := hide hX7; clear hX7)
                      | (go_at_call 51; refine (HLC.out _ HX7.out).mono ?_; rintro e w8 ⟨rfl, hX8⟩; have HX8 := hide hX8; clear hX8)
                      | (go_at_call 38; refine (HKN.out _).mono ?_; rintro e w9 ⟨rfl, hX9⟩; have HX9 := hide hX9; clear hX9))
                    go_ret
                    exact ⟨rfl, HX8.out.trans HX9.out⟩
        case rest =>
          obtain ⟨v5, v6, m5, r5, G5, G6, xs5, ys5, zs5, got, want, x, lg, rfl, rfl, rfl, rfl, rfl, hX, hA⟩ := hcut
          have HX5 := hide hX
          have HA5 := hide hA
          obtain ⟨A6, c6, e6, -⟩ := own_form hX.nown
          subst e6
          clear hX hA HAS HS HG HX64 HMC HLEN HRB HGK HCL HLF HLC HKN HP d0 d1 d2 cN cM hab hnb hmb fM hS64
          clear xs m r G A1 c1 g9 c9 len
          obtain ⟨d0, d1, d2, cN, cM, hab, hnb, hmb, fM⟩ := HX5.out.cs
          obtain ⟨yl, eyl⟩ : ∃ yl, yl = ys5.length := ⟨_, rfl⟩
          have HYL := hide eyl
          have HNX : Hid (Calls Tryz.prog 39 #[.pointer (some ⟨gb, 0, none⟩), .int .i64 got, .int .i64 want, .bool lg, .int .i64 (yl : Int)] wc fun e W' => e = .returned (.bool true) ∧ AS w W' hb lb gb mb ab nb v5 (.slice A6 ys5.length c6) m5 r5 G6 op a1 b1 xs5 ys5) := by rw [eyl]; exact as_next HX5.out HA5.out
          rw [← eyl] at cN
          have dxx : (x != x) = false := by simp
          clear eyl
          go_upto_if 166 with (go_at_call 39; refine HNX.out.mono ?_; rintro e w12 ⟨rfl, hX⟩; have HX12 := hide hX; clear hX d0 d1 d2 cN cM hab hnb hmb fM; obtain ⟨d0, d1, d2, cN, cM, hab, hnb, hmb, fM⟩ := HX12.out.cs; rw [← HYL.out] at cN)
          go_cut [13] (fun _ wx => ∃ (xs : List Int) (A : Option Addr) (c : Nat), PX w hb lb gb mb (i + 1) xs (.slice A xs.length c) wx)
          case first =>
            obtain ⟨A5, c5, e5, -⟩ := own_form HX5.out.vown
            subst e5
            have HZ := hide HA5.out.2.2.2
            clear HNX HX5 dxx
            cases k0 : (got == 0) with
            | true =>
              go_wp2_with fail
              go_meet
              rcases HZ.out with ⟨-, ez⟩ | ⟨h0, -⟩
              · subst ez
                refine ⟨zs5, A6, c6, ?_⟩
                rw [HYL.out]
                exact HX12.out.take HA5.out.2.2.1 HA5.out.2.1
              · rw [k0] at h0; cases h0
            | false =>
              go_wp2_with fail
              go_meet
              rcases HZ.out with ⟨h0, -⟩ | ⟨-, ez⟩
              · rw [k0] at h0; cases h0
              · subst ez
                exact ⟨zs5, A5, c5, HX12.out.leave HA5.out.2.2.1 HA5.out.2.1⟩
          case rest =>
            obtain ⟨xs, B0, c7, hX⟩ := hcut
            have HXZ := hide hX
            have hl64 := hX.len
            clear hX HX5 HX12 HA5 HNX HYL dxx d0 d1 d2 cN cM hab hnb hmb fM
            clear v5 m5 r5 G5 G6 xs5 ys5 zs5 A6 c6
            obtain ⟨len, elen⟩ : ∃ len, len = xs.length := ⟨_, rfl⟩
            have HC0 : Hid (PX w hb lb gb mb (i + 1) xs (.slice B0 len c7) wc) := by rw [elen]; exact HXZ.out
            have HCM : Hid (∀ W, PX w hb lb gb mb (i + 1) xs (.slice B0 len c7) W → W.cell? ⟨mb, 0, none⟩ = some (.slice B0 len c7)) := fun W X => X.k
            have HALL : Hid (∀ W, PX w hb lb gb mb (i + 1) xs (.slice B0 len c7) W → Calls Tryz.prog 52 #[.pointer (some ⟨lb, 0, none⟩)] W fun e W' => ∃ u, e = .returned u ∧ PX w hb lb gb mb (i + 1) xs (.slice B0 len c7) W' ∧ ∃ A c, u = .slice A len c ∧ Sl 1 (encI .i64) W' A len c xs) := fun W X => by rw [elen] at X ⊢; exact px_all X
            have HKP : Hid (∀ W, PX w hb lb gb mb (i + 1) xs (.slice B0 len c7) W → Calls Tryz.prog 45 #[.pointer (some ⟨gb, 0, none⟩)] W fun e W' => e = .returned (.bool true) ∧ PX w hb lb gb mb (i + 1) xs (.slice B0 len c7) W') := fun W X => px_kept X
            have HSA : Hid (∀ W A1 c1, PX w hb lb gb mb (i + 1) xs (.slice B0 len c7) W → Sl 1 (encI .i64) W A1 len c1 xs → Calls Tryz.prog 33 #[.slice A1 len c1, .slice B0 len c7] W fun e w' => e = .returned (.bool true) ∧ Q W w') := fun W A1 c1 X h1 => SameInts_same A1 len c1 B0 c7 xs W h1 (by rw [elen] at X ⊢; exact X.sl) (by omega)
            have HCE := hide elen
            clear HXZ elen
            go_upto_region 39 with fail
            refine Ri.madeZ (C := (PX w hb lb gb mb (i + 1) xs (.slice B0 len c7))) [1, 8] [0, 2, 3, 4, 5, 6, 7, 8, 9, 10] (fun w1 w2 X hq => X.q hq) (Ri.phi [Ri.isV (.pointer (some ⟨lb, 0, none⟩)), (fun u W => ∃ A c, u = .slice A len c ∧ Sl 1 (encI .i64) W A len c xs), Ri.isV (.pointer (some ⟨mb, 0, none⟩)), Ri.isV (.slice B0 len c7), Ri.isV (.bool true), Ri.isV (.bool false), Ri.isV (.bool false), Ri.isV (.pointer (some ⟨gb, 0, none⟩)), Ri.isV (.bool true), Ri.isV (.bool false), Ri.isV (.bool false)]) (by kernel_rfl) (by kernel_rfl) (by kernel_rfl) (HC0.out.q (Q.refl _).drew) (Ri.phi_mono ?_) (Ri.phi_fix ?_) ?_ ?_
            · exact ⟨Ri.mono_isV _, (fun v w1 w2 ⟨A, c, e, h⟩ hq => ⟨A, c, e, h.up hq⟩), Ri.mono_isV _, Ri.mono_isV _, Ri.mono_isV _, Ri.mono_isV _, Ri.mono_isV _, Ri.mono_isV _, Ri.mono_isV _, Ri.mono_isV _, Ri.mono_isV _, trivial⟩
            · exact ⟨fun _ => Ri.fix_isV _, fun h => absurd h (by decide), fun _ => Ri.fix_isV _, fun _ => Ri.fix_isV _, fun _ => Ri.fix_isV _, fun _ => Ri.fix_isV _, fun _ => Ri.fix_isV _, fun _ => Ri.fix_isV _, fun _ => Ri.fix_isV _, fun _ => Ri.fix_isV _, fun _ => Ri.fix_isV _, trivial⟩
            · refine Ri.All.cons ?_ (Ri.All.cons ?_ (Ri.All.cons ?_ (Ri.All.cons ?_ (Ri.All.cons ?_ (Ri.All.cons ?_ (Ri.All.cons ?_ (Ri.All.cons ?_ (Ri.All.cons ?_ (Ri.All.cons ?_ (Ri.All.cons ?_ (Ri.All.nil)))))))))))
              · refine Ri.StepZ.q (by kernel_rfl) rfl fun f W hq hf A hA hB hO => ?_
                have e1 := (hB 7 (by kernel_rfl)).trans (show _ = .pointer (some ⟨lb, 0, none⟩) by simp [Act.eval])
                exact Ri.wp_value _ (Ri.run_mv rfl e1) rfl
              · refine Ri.StepZ.c (by kernel_rfl) rfl fun f W hq hf A hA hB hO => ?_
                have e1 := (hA 168 0 (by kernel_rfl) (by simp)).trans (show f 0 = _ from hf 0 (by kernel_rfl))
                exact Ri.wp_callZ #[.pointer (some ⟨lb, 0, none⟩)] rfl (by simp [e1]) Tryz.func52 (by kernel_rfl) (by kernel_rfl) (HALL.out W hq)
              · refine Ri.StepZ.q (by kernel_rfl) rfl fun f W hq hf A hA hB hO => ?_
                have e1 := (hB 9 (by kernel_rfl)).trans (show _ = .pointer (some ⟨mb, 0, none⟩) by simp [Act.eval])
                exact Ri.wp_value _ (Ri.run_fld (f := _) rfl e1 Tryz.underlying47 rfl (sz := 0) (by kernel_rfl)) rfl
              · refine Ri.StepZ.q (by kernel_rfl) rfl fun f W hq hf A hA hB hO => ?_
                have e1 := (hA 170 2 (by kernel_rfl) (by simp)).trans (show f 2 = _ from hf 2 (by kernel_rfl))
                exact Ri.wp_value _ (Ri.run_ld1 rfl e1 Tryz.underlying45 rfl (HCM.out W hq)) rfl
              · refine Ri.StepZ.q (by kernel_rfl) rfl fun f W hq hf A hA hB hO => ?_
                obtain ⟨A1, c1, e0, hS⟩ : ∃ A c, f 1 = .slice A len c ∧ Sl 1 (encI .i64) W A len c xs := hf 1 (by kernel_rfl)
                have e1 := (hA 169 1 (by kernel_rfl) (by simp)).trans e0
                have e2 := (hA 171 3 (by kernel_rfl) (by simp)).trans (show f 3 = _ from hf 3 (by kernel_rfl))
                refine Ri.wp_call #[.slice A1 len c1, .slice B0 len c7] rfl (by simp [e1, e2]) Tryz.func33 (by kernel_rfl) (by kernel_rfl) ((HSA.out W A1 c1 hq hS).mono ?_)
                rintro e w3 ⟨rfl, hq3⟩
                exact ⟨_, rfl, hq3, rfl⟩
              · refine Ri.StepZ.q (by kernel_rfl) rfl fun f W hq hf A hA hB hO => ?_
                have e1 := (hA 172 4 (by kernel_rfl) (by simp)).trans (show f 4 = _ from hf 4 (by kernel_rfl))
                exact Ri.wp_value _ (Ri.run_not rfl e1) rfl
              · refine Ri.StepZ.q (by kernel_rfl) rfl fun f W hq hf A hA hB hO => ?_
                have e1 := (hA 173 5 (by kernel_rfl) (by simp)).trans (show f 5 = _ from hf 5 (by kernel_rfl))
                exact Ri.wp_value _ (Ri.run_mv rfl e1) rfl
              · refine Ri.StepZ.gq (by kernel_rfl) rfl rfl (by simp) fun f W hq hf A hA hB hO => ⟨hf 6 (by kernel_rfl), ?_⟩
                have e1 := (hB 5 (by kernel_rfl)).trans (show _ = .pointer (some ⟨gb, 0, none⟩) by simp [Act.eval])
                exact Ri.wp_value _ (Ri.run_mv rfl e1) rfl
              · refine Ri.StepZ.gc (by kernel_rfl) rfl rfl (by simp) fun f W hq hf A hA hB hO => ⟨hf 6 (by kernel_rfl), ?_⟩
                have e1 := (hA 175 7 (by kernel_rfl) (by simp)).trans (show f 7 = _ from hf 7 (by kernel_rfl))
                refine Ri.wp_callZ #[.pointer (some ⟨gb, 0, none⟩)] rfl (by simp [e1]) Tryz.func45 (by kernel_rfl) (by kernel_rfl) ((HKP.out W hq).mono ?_)
                rintro e w3 ⟨rfl, hx3⟩
                exact ⟨_, rfl, hx3, rfl⟩
              · refine Ri.StepZ.gq (by kernel_rfl) rfl rfl (by simp) fun f W hq hf A hA hB hO => ⟨hf 6 (by kernel_rfl), ?_⟩
                have e1 := (hA 176 8 (by kernel_rfl) (by simp)).trans (show f 8 = _ from hf 8 (by kernel_rfl))
                exact Ri.wp_value _ (Ri.run_not rfl e1) rfl
              · refine Ri.StepZ.q (by kernel_rfl) rfl fun f W hq hf A hA hB hO => ?_
                have e1 := (hA 174 6 (by kernel_rfl) (by simp)).trans (show f 6 = _ from hf 6 (by kernel_rfl))
                have e2 := (hA 177 9 (by kernel_rfl) (by simp)).trans (show f 9 = _ from hf 9 (by kernel_rfl))
                exact Ri.wp_value _ (Ri.run_pick rfl e1 (by simpa using e2)) rfl
            · intro f W hq hf
              have e10 : f 10 = .bool false := hf 10 (by simp) (by kernel_rfl)
              simp only [Ri.acts, Act.put, List.setIfInBounds_toArray, List.set_cons_zero, List.set_cons_succ, Nat.zero_add, Nat.reduceAdd]
              rw [e10]
              have HXW := hide hq
              clear hf hq HC0 HCM HALL HKP HSA
              go_wp2_with fail
              go_roundg (gk - 1)
              case measure => omega
              case rel => exact ⟨i + 1, by omega, by go_num, HXW.out.pr (by omega)⟩
      · have hd1 : decide ((i : Int) < (n : Int)) = false := by simp; omega
        have hd0 : decide (i < n) = false := by simp; omega
        obtain rfl : i = n := by omega
        have HP := hide hp
        clear hp
        go_wp2_with (first
          | (go_at_call 31; refine (HCL.out _ HP.out).mono ?_; rintro e w6 ⟨rfl, hX6⟩; have HX6 := hide hX6; clear hX6)
          | (go_at_call 40; refine (HLF.out _ HX6.out).mono ?_; rintro e w7 ⟨rfl, hX7⟩; have HX7 := hide hX7; clear hX7)
          | (go_at_call 51; refine (HLC.out _ HX7.out).mono ?_; rintro e w8 ⟨rfl, hX8⟩; have HX8 := hide hX8; clear hX8)
          | (go_at_call 38; refine (HKN.out _).mono ?_; rintro e w9 ⟨rfl, hX9⟩; have HX9 := hide hX9; clear hX9))
        go_ret
        exact ⟨rfl, HX8.out.trans HX9.out⟩
end Go.Proofs.YtdaklffbfadghaaGreat
