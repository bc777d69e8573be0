/- The walk of the sort. Conditions: the slice is the call's own. -/
import Derived.Test.YtfiopjgpokdnoaaPackOc
import Derived.Deep.RegionWith
import Derived.Deep.DeepCutAuto
import Derived.BigRegion
namespace Go.Proofs.Ytfiopjgpokdnoaa
open Go.RowKit PO
set_option linter.unusedVariables false

theorem encS_len (xs : List ByteArray) : (xs.flatMap encS).length = xs.length := by rw [flatMap_length (k := 1) (fun _ => rfl), Nat.mul_one]
theorem encS_one (x : ByteArray) : encS x = [Value.string x] := rfl


set_option maxHeartbeats 4000000 in
theorem sortS : ∀ (f : Nat) (B n : Nat) (v : Value) (xs : List ByteArray) (w : World), xs.length ≤ f → n ≤ 2000 → w.ownsRow B 9 1 v n (xs.flatMap encS) →
    Calls Try.prog 54 #[.func (.func 53) #[] #[], v] w fun e w' => e = .returned (.int .i64 ((ms ltS f xs).2 : Nat)) ∧ w'.ownsRow B 9 1 v n ((ms ltS f xs).1.flatMap encS) ∧ w.grownBy w' v.ownBlock := by
  intro f
  induction f with
  | zero =>
    intro B n v xs w hf hn hown
    have hx : xs = [] := List.eq_nil_of_length_eq_zero (by omega)
    subst hx
    obtain ⟨A, c, rfl, h1, h2, h3, _⟩ := own_form hown
    obtain rfl : n = 0 := by simpa using h3.symm
    have hown' := hide hown
    clear hown
    go_enter Try.func54, Try.ntmps54
    go_wp2_with fail
    go_ret
    exact ⟨rfl, hown'.out, World.grownBy.refl _ _⟩
  | succ f ih =>
    intro B n v xs w hf hn hown
    have hlen : xs.length = n := by have := hown.1; rw [encS_len] at this; omega
    by_cases h2 : n < 2
    · have e : ms ltS (f + 1) xs = (xs, 0) := by rw [ms, if_pos (by omega)]
      rw [e]
      have d : decide ((n : Int) < 2) = true := by simp; omega
      obtain ⟨A, c, rfl, _⟩ := own_form hown
      have hown' := hide hown
      clear hown e hlen
      go_enter Try.func54, Try.ntmps54
      go_wp2_with fail
      go_ret
      exact ⟨rfl, hown'.out, World.grownBy.refl _ _⟩
    · have IH := hide ih
      have d : decide ((n : Int) < 2) = false := by simp; omega
      obtain ⟨g, c, rfl, hBg, hgl, hnc, hcm, hcell, hfz⟩ := own_at hown (by omega)
      obtain ⟨h, hh⟩ : ∃ h : Nat, n / 2 = h := ⟨_, rfl⟩
      have hh2 : (n : Int) / 2 = (h : Int) := by omega
      have hlh : h < n := by omega
      have hch : c ≠ h := by omega
      unfold maxLen at hcm
      have hr := own_rd hown
      have SA := hide (fun (W : World) (hq : Q w W) => (⟨by have := (hr.up hq).take h; rw [flatMap_one encS_one] at this ⊢; rw [List.map_take]; exact this, by rw [List.length_take]; omega, by omega, by omega⟩ : Sl 1 encS W (some ⟨g, 0, none⟩) h c (xs.take h)))
      have SB := hide (fun (W : World) (hq : Q w W) => (⟨by have := (hr.up hq).dropAt h; rw [flatMap_one encS_one] at this ⊢; rw [List.map_drop]; simpa using this, by rw [List.length_drop]; omega, by omega, by omega⟩ : Sl 1 encS W (some ⟨g, h, none⟩) (n - h) (c - h) (xs.drop h)))
      have e : ms ltS (f + 1) xs = ((mrg ltS n (ms ltS f (xs.take h)).1 (ms ltS f (xs.drop h)).1).1, (ms ltS f (xs.take h)).2 + (ms ltS f (xs.drop h)).2 + (mrg ltS n (ms ltS f (xs.take h)).1 (ms ltS f (xs.drop h)).1).2) := by
        rw [ms, if_neg (by omega), hlen, hh]
      rw [e]
      have hA0 : (xs.take h).length = h := by rw [List.length_take]; omega
      have hB0 : (xs.drop h).length = n - h := by rw [List.length_drop]; omega
      have hA1 : (ms ltS f (xs.take h)).1.length = h := by rw [ms_length, hA0]
      have hB1 : (ms ltS f (xs.drop h)).1.length = n - h := by rw [ms_length, hB0]
      have hA2 := ms_le ltS f (xs.take h)
      have hB2 := ms_le ltS f (xs.drop h)
      have hM2 := mrg_le ltS n (ms ltS f (xs.take h)).1 (ms ltS f (xs.drop h)).1
      rw [hA0] at hA2
      rw [hB0] at hB2
      rw [hA1, hB1] at hM2
      have hA3 : h * h ≤ 4000000 := Nat.mul_le_mul (show h ≤ 2000 by omega) (show h ≤ 2000 by omega)
      have hB3 : (n - h) * (n - h) ≤ 4000000 := Nat.mul_le_mul (show n - h ≤ 2000 by omega) (show n - h ≤ 2000 by omega)
      have hM3 : h * (n - h) ≤ 4000000 := Nat.mul_le_mul (show h ≤ 2000 by omega) (show n - h ≤ 2000 by omega)
      obtain ⟨⟨LA, cA⟩, eA⟩ : ∃ r, ms ltS f (xs.take h) = r := ⟨_, rfl⟩
      obtain ⟨⟨LB, cB⟩, eB⟩ : ∃ r, ms ltS f (xs.drop h) = r := ⟨_, rfl⟩
      rw [eA, eB] at hM2 ⊢
      rw [eA] at hA1 hA2
      rw [eB] at hB1 hB2
      dsimp only at hA1 hA2 hB1 hB2 hM2 ⊢
      obtain ⟨⟨LM, cM⟩, eM⟩ : ∃ r, mrg ltS n LA LB = r := ⟨_, rfl⟩
      rw [eM] at hM2 ⊢
      dsimp only at hM2 ⊢
      have cA4 : cA ≤ 4000000 := by omega
      have cB4 : cB ≤ 4000000 := by omega
      have cM4 : cM ≤ 4000000 := by omega
      have HOWN := hide hown
      have HL := hide hlen
      have HF := hide hf
      have HH := hide hh
      have EA := hide eA
      have EB := hide eB
      have EM := hide eM
      have HA1 := hide hA1
      have HB1 := hide hB1
      have HA0 := hide hA0
      have HB0 := hide hB0
      clear hown ih hlen hf hh hcell hr e hA0 hB0 hA1 hB1 hA2 hB2 hM2 hA3 hB3 hM3 eA eB eM
      go_enter Try.func54, Try.ntmps54
      go_upto_region 4 with fail
      go_cut [6, 7] (fun va vb wx => ∃ (g1 c1 g2 c2 : Nat), CutAB encS 9 w h (n - h) (xs.take h) (xs.drop h) va vb wx g1 c1 g2 c2)
      case first =>
        go_region_with (first | (go_at_call 52; (with_reducible refine (CloneS (some ⟨g, 0, none⟩) h c (xs.take h) _ (SA.out _ ?_) (fun e => by cases e) ?_).mono ?_); exact (Q.refl w).drew; omega; rintro e w1 ⟨v1, rfl, hown1, hq1⟩) | (go_at_call 52; (with_reducible refine (CloneS (some ⟨g, h, none⟩) (n - h) (c - h) (xs.drop h) _ (SB.out _ ?_) (fun e => by cases e) ?_).mono ?_); exact (Q.refl w).drew.trans (by assumption); omega; rintro e w2 ⟨v2, rfl, hown2, hq2⟩))
        all_goals (go_wp2_with fail; go_meet; exact CutAB.of hq1 hown1 hq2 hown2 (by omega) (by omega))
      case rest =>
      obtain ⟨g1, c1, g2, c2, hcu⟩ := hcut
      obtain rfl := hcu.hva
      obtain rfl := hcu.hvb
      have HQ12 := hide hcu.q
      have HO1 := hide hcu.o1
      have HO2 := hide hcu.o2
      have hg1w := hcu.b1
      have hg2w := hcu.b2
      have hne12 := hcu.ne
      have hg12 := hcu.l1
      have hg22 := hcu.l2
      have hnc1 := hcu.n1
      have hnc2 := hcu.n2
      have hcm1 := hcu.m1
      have hcm2 := hcu.m2
      have hg1g : g1 ≠ g := by omega
      have hg2g : g2 ≠ g := by omega
      clear hcu
      go_wp2_with fail
      refine (IH.out _ h _ (xs.take h) _ (by have h1 := HA0.out; have h2 := HF.out; have h3 := HL.out; omega) (by omega) HO1.out).mono ?_
      rintro e w3 ⟨rfl, hown3, hgr3⟩
      rw [EA.out] at hown3 ⊢
      dsimp only at hown3 ⊢
      have HGR3 := hide hgr3
      have HO2' := hide (HO2.out.kept hgr3 (.inr (fun e => hne12 (Option.some.inj e).symm)))
      have hs3 := hgr3.size
      have hb3 : Below w.heap.size w w3 := Below.trans HQ12.out ((Below.refl w.heap.size wc).grown hgr3 HQ12.out.size (fun k hk => by cases hk; exact hg1w))
      have HO1 := hide hown3
      clear hown3 hgr3
      go_wp2_with fail
      refine (IH.out _ (n - h) _ (xs.drop h) _ (by have h1 := HB0.out; have h2 := HF.out; have h3 := HL.out; omega) (by omega) HO2'.out).mono ?_
      rintro e w4 ⟨rfl, hown4, hgr4⟩
      rw [EB.out] at hown4 ⊢
      dsimp only at hown4 ⊢
      have HO1 := hide (HO1.out.kept hgr4 (.inr (fun e => hne12 (Option.some.inj e))))
      have hs4 := hgr4.size
      have hqw4 : Q w w4 := Below.trans hb3 ((Below.refl w.heap.size w3).grown hgr4 (by have := HQ12.out.size; omega) (fun k hk => by cases hk; exact hg2w))
      have HO2 := hide hown4
      have HQ4 := hide hqw4
      clear hown4 hgr4 hb3 hqw4
      go_wp2_with fail
      go_loopw [6, 7, 8, 33] (fun va vb vn vi wr => ∃ (k : Nat) (pre a b : List ByteArray) (cnt oa ca ob cb : Nat), SR ltS encS w B 9 g n c g1 g2 xs LM (cA + cB + cM) va vb vn vi wr k pre a b cnt oa ca ob cb) (fun _ _ _ vi _ => n - (intOf vi).toNat)
      case atStart =>
        exact ⟨0, [], LA, LB, cA + cB, 0, c1, 0, c2, ⟨Nat.zero_le _, by rw [HA1.out], by rw [HB1.out], by go_num, by go_num, rfl, by rw [HA1.out, HB1.out]; omega, by rw [Nat.sub_zero, EM.out]; rfl, by rw [Nat.sub_zero, EM.out], own_q HOWN.out HQ4.out, grown_q HQ4.out _, own_rd HO1.out, own_rd HO2.out, by rw [HA1.out]; omega, by rw [HB1.out]; omega, by omega, by omega⟩⟩
      case round =>
        obtain ⟨k, pre, a, b, cnt, oa, ca, ob, cb, hS⟩ := hrel
        obtain rfl := hS.hva
        obtain rfl := hS.hvb
        obtain rfl := hS.hvn
        obtain rfl := hS.hvi
        have hkn := hS.kn
        have hcnt : cnt ≤ 12000000 := by have := hS.m2; omega
        have hcnt2 : (cnt : Int) ≤ 12000000 := by omega
        have hlca := hS.lca
        have hlcb := hS.lcb
        have hmca := hS.mca
        have hmcb := hS.mcb
        have hlab := hS.lab
        have hal : a.length ≤ 2000 := by omega
        have hbl : b.length ≤ 2000 := by omega
        have hgr := hS.gr
        have hgs := hgr.size
        have hfzg : ∀ j, wr.frozen? ⟨g, j, none⟩ = false := fun j => by
          obtain ⟨g', c', e', _, _, _, _, _, hf'⟩ := own_at hS.row (by omega)
          cases e'
          exact hf' j
        have hcellg : k < n → ∃ u, wr.cell? ⟨g, k, none⟩ = some u := fun hk => by
          obtain ⟨g', c', e', _, _, _, _, hc', _⟩ := own_at hS.row (by omega)
          cases e'
          exact ⟨_, hc' k _ (List.getElem?_eq_getElem (by have := hS.row.1; omega))⟩
        by_cases hk : k < n
        · have dk : decide ((k : Int) < (n : Int)) = true := by simp; omega
          have dk2 : decide (k < n) = true := by simp; omega
          obtain ⟨u0, hu0⟩ := hcellg hk
          have hglt : g < wr.heap.size := by omega
          have hki : (k : Int) < (n : Int) := by omega
          have hHS := hide hS
          rcases b with _ | ⟨y, b'⟩
          · rcases a with _ | ⟨x, a'⟩
            · simp at hlab; omega
            · obtain ⟨hca0, hg1x⟩ := hS.headA encS_one rfl
              have da : (((a'.length + 1 : Nat) : Int) == 0) = false := by simp <;> omega
              have da2 : ((a'.length : Int) + 1 == 0) = false := by simp <;> omega
              by_cases h1 : ca = 1
              · clear hlca hlab hgr hS hcellg
                go_wp2_with fail
                have hxc := ext_cell
                refine wp_region_ext (by kernel_rfl) (by kernel_rfl) ?_
                repeat (go_big_quiet_step (((go_at_call 53; exact ext_call' (lessS _ _ _)))))
                clear hxc
                refine wpQuiet_nil ?_
                intro wz hwwz
                have hqwz := q_of_ext hwwz
                clear hwwz
                obtain ⟨hcwz, hfwz, hzwz⟩ := hqwz.facts
                try simp at hzwz
                try have hs0wz : w.heap.size < wz.heap.size := by omega
                try have hs1wz : w.heap.size + 1 < wz.heap.size := by omega
                have z1 := (hcwz _ _ hg1x).trans hca0
                have z2 := (hcwz _ _ hglt).trans hu0
                have z3 := (hfwz g k hglt).trans (hfzg k)
                clear hcwz hfwz hca0 hu0 hfzg
                go_wp2_with fail
                go_region
                go_wp2_with fail
                go_roundw
                case rel => exact ⟨k + 1, pre ++ [x], a', [], cnt, oa, ca - 1, ob, cb, SR.takeA hHS.out hqwz encS_one hg1g hg2g HL.out rfl (.inl rfl) (.inl (List.eq_nil_of_length_eq_zero (by have := hHS.out.lca; rw [h1] at this; simp at this; simp [this]))) (by simp [h1]) (by go_num)⟩
                case measure => simp [intOf] <;> omega
              · clear hlca hlab hgr hS hcellg
                go_wp2_with fail
                have hxc := ext_cell
                refine wp_region_ext (by kernel_rfl) (by kernel_rfl) ?_
                repeat (go_big_quiet_step (((go_at_call 53; exact ext_call' (lessS _ _ _)))))
                clear hxc
                refine wpQuiet_nil ?_
                intro wz hwwz
                have hqwz := q_of_ext hwwz
                clear hwwz
                obtain ⟨hcwz, hfwz, hzwz⟩ := hqwz.facts
                try simp at hzwz
                try have hs0wz : w.heap.size < wz.heap.size := by omega
                try have hs1wz : w.heap.size + 1 < wz.heap.size := by omega
                have z1 := (hcwz _ _ hg1x).trans hca0
                have z2 := (hcwz _ _ hglt).trans hu0
                have z3 := (hfwz g k hglt).trans (hfzg k)
                clear hcwz hfwz hca0 hu0 hfzg
                go_wp2_with fail
                go_region
                go_wp2_with fail
                go_roundw
                case rel => exact ⟨k + 1, pre ++ [x], a', [], cnt, (oa + 1), ca - 1, ob, cb, SR.takeA hHS.out hqwz encS_one hg1g hg2g HL.out rfl (.inl rfl) (.inr rfl) (by simp [h1]) (by go_num)⟩
                case measure => simp [intOf] <;> omega
          · rcases a with _ | ⟨x, a'⟩
            · obtain ⟨hcb0, hg2x⟩ := hS.headB encS_one rfl
              by_cases h1 : cb = 1
              · clear hlcb hlab hgr hS hcellg
                go_wp2_with fail
                have hxc := ext_cell
                refine wp_region_ext (by kernel_rfl) (by kernel_rfl) ?_
                repeat (go_big_quiet_step (((go_at_call 53; exact ext_call' (lessS _ _ _)))))
                clear hxc
                refine wpQuiet_nil ?_
                intro wz hwwz
                have hqwz := q_of_ext hwwz
                clear hwwz
                obtain ⟨hcwz, hfwz, hzwz⟩ := hqwz.facts
                try simp at hzwz
                try have hs0wz : w.heap.size < wz.heap.size := by omega
                try have hs1wz : w.heap.size + 1 < wz.heap.size := by omega
                have z1 := (hcwz _ _ hg2x).trans hcb0
                have z2 := (hcwz _ _ hglt).trans hu0
                have z3 := (hfwz g k hglt).trans (hfzg k)
                clear hcwz hfwz hcb0 hu0 hfzg
                go_wp2_with fail
                go_region
                go_wp2_with fail
                go_roundw
                case rel => exact ⟨k + 1, pre ++ [y], [], b', cnt + 0, oa, ca, ob, cb - 1, SR.takeB hHS.out hqwz encS_one hg1g hg2g HL.out rfl (.inl rfl) (.inl (List.eq_nil_of_length_eq_zero (by have := hHS.out.lcb; rw [h1] at this; simp at this; simp [this]))) (by simp [h1]) (by simp) (by go_num)⟩
                case measure => simp [intOf] <;> omega
              · clear hlcb hlab hgr hS hcellg
                go_wp2_with fail
                have hxc := ext_cell
                refine wp_region_ext (by kernel_rfl) (by kernel_rfl) ?_
                repeat (go_big_quiet_step (((go_at_call 53; exact ext_call' (lessS _ _ _)))))
                clear hxc
                refine wpQuiet_nil ?_
                intro wz hwwz
                have hqwz := q_of_ext hwwz
                clear hwwz
                obtain ⟨hcwz, hfwz, hzwz⟩ := hqwz.facts
                try simp at hzwz
                try have hs0wz : w.heap.size < wz.heap.size := by omega
                try have hs1wz : w.heap.size + 1 < wz.heap.size := by omega
                have z1 := (hcwz _ _ hg2x).trans hcb0
                have z2 := (hcwz _ _ hglt).trans hu0
                have z3 := (hfwz g k hglt).trans (hfzg k)
                clear hcwz hfwz hcb0 hu0 hfzg
                go_wp2_with fail
                go_region
                go_wp2_with fail
                go_roundw
                case rel => exact ⟨k + 1, pre ++ [y], [], b', cnt + 0, oa, ca, (ob + 1), cb - 1, SR.takeB hHS.out hqwz encS_one hg1g hg2g HL.out rfl (.inl rfl) (.inr rfl) (by simp [h1]) (by simp) (by go_num)⟩
                case measure => simp [intOf] <;> omega
            · obtain ⟨hca0, hg1x⟩ := hS.headA encS_one rfl
              obtain ⟨hcb0, hg2x⟩ := hS.headB encS_one rfl
              have da : (((a'.length + 1 : Nat) : Int) == 0) = false := by simp <;> omega
              have da2 : ((a'.length : Int) + 1 == 0) = false := by simp <;> omega
              have db : decide ((0 : Int) < ((b'.length + 1 : Nat) : Int)) = true := by simp <;> omega
              have db2 : decide ((0 : Int) < (b'.length : Int) + 1) = true := by simp <;> omega
              have db3 : decide (0 < b'.length + 1) = true := by simp
              have hal2 : (a'.length : Int) + 1 ≤ 2000 := by simp at hal; omega
              cases hlt : ltS y x
              · have HLT := hide hlt
                by_cases h1 : ca = 1
                · clear hlca hlab hgr hS hcellg
                  go_wp2_with fail
                  have hxc := ext_cell
                  refine wp_region_ext (by kernel_rfl) (by kernel_rfl) ?_
                  repeat (go_big_quiet_step (((go_at_call 53; exact ext_call' (lessS _ _ _)))))
                  clear hxc
                  refine wpQuiet_nil ?_
                  intro wz hwwz
                  have hqwz := q_of_ext hwwz
                  clear hwwz
                  obtain ⟨hcwz, hfwz, hzwz⟩ := hqwz.facts
                  try simp at hzwz
                  try have hs0wz : w.heap.size < wz.heap.size := by omega
                  try have hs1wz : w.heap.size + 1 < wz.heap.size := by omega
                  have z1 := (hcwz _ _ hg1x).trans hca0
                  have z2 := (hcwz _ _ hglt).trans hu0
                  have z3 := (hfwz g k hglt).trans (hfzg k)
                  clear hcwz hfwz hca0 hu0 hfzg
                  go_wp2_with fail
                  go_region
                  go_wp2_with fail
                  go_roundw
                  case rel => exact ⟨k + 1, pre ++ [x], a', (y :: b'), cnt, oa, ca - 1, ob, cb, SR.takeA hHS.out hqwz encS_one hg1g hg2g HL.out rfl (.inr ⟨y, b', rfl, HLT.out⟩) (.inl (List.eq_nil_of_length_eq_zero (by have := hHS.out.lca; rw [h1] at this; simp at this; simp [this]))) (by simp [h1]) (by go_num)⟩
                  case measure => simp [intOf] <;> omega
                · clear hlca hlab hgr hS hcellg
                  go_wp2_with fail
                  have hxc := ext_cell
                  refine wp_region_ext (by kernel_rfl) (by kernel_rfl) ?_
                  repeat (go_big_quiet_step (((go_at_call 53; exact ext_call' (lessS _ _ _)))))
                  clear hxc
                  refine wpQuiet_nil ?_
                  intro wz hwwz
                  have hqwz := q_of_ext hwwz
                  clear hwwz
                  obtain ⟨hcwz, hfwz, hzwz⟩ := hqwz.facts
                  try simp at hzwz
                  try have hs0wz : w.heap.size < wz.heap.size := by omega
                  try have hs1wz : w.heap.size + 1 < wz.heap.size := by omega
                  have z1 := (hcwz _ _ hg1x).trans hca0
                  have z2 := (hcwz _ _ hglt).trans hu0
                  have z3 := (hfwz g k hglt).trans (hfzg k)
                  clear hcwz hfwz hca0 hu0 hfzg
                  go_wp2_with fail
                  go_region
                  go_wp2_with fail
                  go_roundw
                  case rel => exact ⟨k + 1, pre ++ [x], a', (y :: b'), cnt, (oa + 1), ca - 1, ob, cb, SR.takeA hHS.out hqwz encS_one hg1g hg2g HL.out rfl (.inr ⟨y, b', rfl, HLT.out⟩) (.inr rfl) (by simp [h1]) (by go_num)⟩
                  case measure => simp [intOf] <;> omega
              · have HLT := hide hlt
                by_cases h1 : cb = 1
                · clear hlcb hlab hgr hS hcellg
                  go_wp2_with fail
                  have hxc := ext_cell
                  refine wp_region_ext (by kernel_rfl) (by kernel_rfl) ?_
                  repeat (go_big_quiet_step (((go_at_call 53; exact ext_call' (lessS _ _ _)))))
                  clear hxc
                  refine wpQuiet_nil ?_
                  intro wz hwwz
                  have hqwz := q_of_ext hwwz
                  clear hwwz
                  obtain ⟨hcwz, hfwz, hzwz⟩ := hqwz.facts
                  try simp at hzwz
                  try have hs0wz : w.heap.size < wz.heap.size := by omega
                  try have hs1wz : w.heap.size + 1 < wz.heap.size := by omega
                  have z1 := (hcwz _ _ hg2x).trans hcb0
                  have z2 := (hcwz _ _ hglt).trans hu0
                  have z3 := (hfwz g k hglt).trans (hfzg k)
                  clear hcwz hfwz hcb0 hu0 hfzg
                  go_wp2_with fail
                  go_region
                  go_wp2_with fail
                  go_roundw
                  case rel => exact ⟨k + 1, pre ++ [y], (x :: a'), b', cnt + (x :: a').length, oa, ca, ob, cb - 1, SR.takeB hHS.out hqwz encS_one hg1g hg2g HL.out rfl (.inr ⟨x, a', rfl, HLT.out⟩) (.inl (List.eq_nil_of_length_eq_zero (by have := hHS.out.lcb; rw [h1] at this; simp at this; simp [this]))) (by simp [h1]) (by simp) (by go_num)⟩
                  case measure => simp [intOf] <;> omega
                · clear hlcb hlab hgr hS hcellg
                  go_wp2_with fail
                  have hxc := ext_cell
                  refine wp_region_ext (by kernel_rfl) (by kernel_rfl) ?_
                  repeat (go_big_quiet_step (((go_at_call 53; exact ext_call' (lessS _ _ _)))))
                  clear hxc
                  refine wpQuiet_nil ?_
                  intro wz hwwz
                  have hqwz := q_of_ext hwwz
                  clear hwwz
                  obtain ⟨hcwz, hfwz, hzwz⟩ := hqwz.facts
                  try simp at hzwz
                  try have hs0wz : w.heap.size < wz.heap.size := by omega
                  try have hs1wz : w.heap.size + 1 < wz.heap.size := by omega
                  have z1 := (hcwz _ _ hg2x).trans hcb0
                  have z2 := (hcwz _ _ hglt).trans hu0
                  have z3 := (hfwz g k hglt).trans (hfzg k)
                  clear hcwz hfwz hcb0 hu0 hfzg
                  go_wp2_with fail
                  go_region
                  go_wp2_with fail
                  go_roundw
                  case rel => exact ⟨k + 1, pre ++ [y], (x :: a'), b', cnt + (x :: a').length, oa, ca, (ob + 1), cb - 1, SR.takeB hHS.out hqwz encS_one hg1g hg2g HL.out rfl (.inr ⟨x, a', rfl, HLT.out⟩) (.inr rfl) (by simp [h1]) (by simp) (by go_num)⟩
                  case measure => simp [intOf] <;> omega
        · obtain rfl : k = n := by omega
          have dk : decide ((k : Int) < (k : Int)) = false := by simp
          have ha0 : a = [] := List.eq_nil_of_length_eq_zero (by omega)
          have hb0 : b = [] := List.eq_nil_of_length_eq_zero (by omega)
          subst ha0 hb0
          have m1 := hS.m1
          have m2 := hS.m2
          have hrow := hS.row
          rw [Nat.sub_self] at m1 m2
          have m1 : pre = LM := by simpa [mrg] using m1
          have m2 : cnt = cA + cB + cM := by simpa [mrg] using m2
          rw [List.drop_eq_nil_of_le (by have := HL.out; omega), List.append_nil] at hrow
          have HR := hide hrow
          have HM1 := hide m1
          have HM2 := hide m2
          have HG := hide hgr
          clear hS hrow m1 m2 hgr hcellg
          go_wp2_with fail
          go_ret
          refine ⟨?_, ?_, HG.out⟩
          · rw [← HM2.out]; rfl
          · rw [← HM1.out]; exact HR.out

end Go.Proofs.Ytfiopjgpokdnoaa
