/- The walk of the law LinkImages. Conditions: the objects read as a list. -/
import Derived.Test.YtjdioilkhbpmoaaLinkRg
namespace Go.Proofs.Ytjdioilkhbpmoaa
open Go.RowKit LK
set_option linter.unusedVariables false
set_option maxRecDepth 100000 in
set_option maxHeartbeats 4000000 in
theorem LinkImages_true (A : Option Addr) (n c : Nat) (os : List OV) (w : World) (hO : ObsR w A n c os) (hc : c ≤ 140737488351232) :
    Calls Try.prog 7 #[.slice A n c] w fun e w' => e = .returned (.bool true) ∧ Q w w' := by
  have HLo := hide (Long_any A n c os w hO hc)
  have hl := hO.sl.len
  have HO := hide hO
  have HL := hide hl
  clear hO hl
  go_enter Try.func7, Try.ntmps7
  go_wp2_with fail
  refine HLo.out.mono ?_
  rintro e w1 ⟨rfl, hq1⟩
  cases hlb : longB os with
  | true =>
    go_wp2_with fail
    refine (known_any w1).mono ?_
    rintro e w2 ⟨rfl, hq2⟩
    go_wp2_with fail
    go_ret
    exact ⟨rfl, hq1.trans hq2⟩
  | false =>
    have hn12 : n ≤ 12 := by
      unfold longB at hlb
      simp only [Bool.or_eq_false_iff, decide_eq_false_iff_not] at hlb
      have := HL.out
      omega
    have hni : (n : Int) ≤ 12 := by omega
    have HSZ := hide (show ∀ o ∈ os, o.1.n ≤ 1000 ∧ o.2.1.n ≤ 1000 ∧ o.2.2.n ≤ 1000 from fun o ho => by
      unfold longB at hlb
      rw [Bool.or_eq_false_iff, List.any_eq_false] at hlb
      have := hlb.1 o ho
      unfold longO at this
      simp only [Bool.or_eq_true, decide_eq_true_eq] at this
      omega)
    obtain ⟨er, her⟩ : ∃ er, imgE os = er := ⟨_, rfl⟩
    obtain ⟨xi, hxi⟩ : ∃ xi, imgX os = xi := ⟨_, rfl⟩
    obtain ⟨el, hel⟩ : ∃ el, listedO os = el := ⟨_, rfl⟩
    obtain ⟨ms, hms⟩ : ∃ ms, missR os = ms := ⟨_, rfl⟩
    have hml : ms.length ≤ 128 := by rw [← hms]; exact missR_len
    have heri : (er : Int) ≤ 5 := by have := imgE_le os; omega
    have HEM := hide (show er = 0 → ms = [] from fun h => by rw [← hms]; exact miss_none (by rw [her, h]))
    have C2 := hide (fun w1 (h : Q w w1) => hel ▸ hms ▸ rMissing_any A n c os w1 (HO.out.up h))
    have HLB := hide hlb
    have HER := hide her
    have HXI := hide hxi
    have HEL := hide hel
    have HMS := hide hms
    have HQ1 := hide hq1
    clear hlb her hxi hel hms hq1
    go_wp2_with fail
    go_loopw [3, 4] (fun v vi wr => ∃ (i : Nat) (os' : List OV), i ≤ n ∧ vi = .int .i64 i ∧ os'.map can = (os.take i).map can ∧ Q w wr ∧ wr.ownsRow w.heap.size 41 3 v i (os'.flatMap encO) ∧ (∀ o ∈ os', OwnO wr w.heap.size o)) (fun _ vi _ => n - (intOf vi).toNat)
    case atStart => exact ⟨0, [], by omega, by go_num, rfl, HQ1.out, World.ownsRow_nil _ _ _ _, fun o ho => by cases ho⟩
    case round =>
      obtain ⟨i, os', hi, rfl, hcan, hq, hrow, hobs⟩ := hrel
      have hsz := hq.size
      have HCAN := hide hcan
      have HQ := hide hq
      have HROW := hide hrow
      have HOBS := hide hobs
      clear hcan hq hrow hobs
      by_cases hin : i < n
      · have hd1 : decide ((i : Int) < (n : Int)) = true := by simp; omega
        have hd0 : decide (i < n) = true := by simp; omega
        have hlti : (i : Int) < (n : Int) := by omega
        obtain ⟨b1, o1, ob, rfl, hb1, g1, x1, x2, x3, hob⟩ := (HO.out.up HQ.out).at_ i hin
        obtain ⟨z0, z1, z2⟩ := HSZ.out _ (List.mem_of_getElem? g1)
        have HCP := hide (rCopy_any ob wr hob z0 z1 z2)
        obtain ⟨⟨A0, n0, c0, bs⟩, ⟨A1, n1, c1, ss⟩, ⟨A2, n2, c2, ws⟩⟩ := ob
        unfold obV SlV.val at HCP
        dsimp only at HCP x1 x2 x3
        have HOB := hide hob
        have HG := hide g1
        clear hob g1 z0 z1 z2
        go_wp2_with fail
        refine HCP.out.mono ?_
        rintro e w3 ⟨v0, v1, v2, rfl, r0, r1, r2, hq3⟩
        obtain ⟨p, hp, rfl, rfl, rfl, hobp⟩ := ob_own (o := (⟨A0, n0, c0, bs⟩, ⟨A1, n1, c1, ss⟩, ⟨A2, n2, c2, ws⟩)) r0 r1 r2
        obtain ⟨⟨B0, m0, d0, bt⟩, ⟨B1, m1, d1, st⟩, ⟨B2, m2, d2, wt⟩⟩ := p
        unfold SlV.val
        dsimp only
        have hqw3 := HQ.out.trans hq3
        have HP := hide hp
        have HOP := hide (hobp.lower HQ.out.size)
        have HR3 := hide (own_q HROW.out hq3)
        have HOS := hide (fun o ho => (HOBS.out o ho).q hq3)
        have hsz3 := hqw3.size
        have HQ3 := hide hqw3
        clear r0 r1 r2 hp hobp hq3 hqw3 x1 x2 x3
        go_wp2_with (at_builtin; refine wpList_app1g rfl El_obj _ _ rfl rfl HR3.out rfl rfl rfl ?_ ?_ ?_ ?_; (focus (simp [Value.oneCell'])); (focus omega); (focus exact HQ3.out.size); intro v7 w7 hown7 hg7; have HO7 := hide hown7; have HG7 := hide hg7; clear hown7 hg7)
        go_roundw
        case rel => exact ⟨i + 1, os' ++ [(⟨B0, m0, d0, bt⟩, ⟨B1, m1, d1, st⟩, ⟨B2, m2, d2, wt⟩)], by omega, by go_num, by rw [List.map_append, HCAN.out, List.take_add_one, HG.out, Option.toList_some, List.map_append, List.map_cons, List.map_nil, HP.out]; rfl,
          q_grown HQ3.out HG7.out (fun k hk => (HR3.out.lt k hk).1),
          by rw [List.flatMap_append]; simpa [encO, encV, SlV.val] using HO7.out, fun o ho => by
            rcases List.mem_append.1 ho with h | h
            · exact (HOS.out o h).other HR3.out HG7.out
            · rw [List.mem_singleton.1 h]; exact HOP.out.other HR3.out HG7.out⟩
        case measure => simp [intOf] <;> omega
      · have hd1 : decide ((i : Int) < (n : Int)) = false := by simp; omega
        have hd0 : decide (i < n) = false := by simp; omega
        obtain rfl : i = n := by omega
        have hce : os'.map can = os.map can := by rw [HCAN.out, List.take_of_length_le (by rw [HL.out]; exact Nat.le_refl _)]
        obtain ⟨A', c', rfl, _⟩ := own_form HROW.out
        have HOO := hide (obs_own HROW.out HOBS.out hce HO.out)
        have HCE := hide hce
        have C3 := hide (fun w1 (h : Q wr w1) => (Image_any A' i c' os' w1 (HOO.out.up h)).mono fun e w2 hp => img_told hp (fun o ho => (HOO.out.all o ho).bok))
        have C4 := hide (fun w1 (h : Q w w1) => (rImage_any A i c os w1 (HO.out.up h)).mono fun e w2 hp => img_told hp (fun o ho => (HO.out.all o ho).bok))
        have C1 := hide (fun w1 (h : Q wr w1) => Missing_any A' i c' os' w1 (HOO.out.up h))
        rw [show imgE os' = er by rw [← imgE_can os', hce, imgE_can, HER.out], show imgX os' = xi by rw [← imgX_can os', hce, imgX_can, HXI.out]] at C3
        rw [HER.out, HXI.out] at C4
        rw [show listedO os' = el by rw [← listed_can os', hce, listed_can, HEL.out], show missR os' = ms by rw [← missR_can os', hce, missR_can, HMS.out]] at C1
        clear hce
        go_wp2_with fail
        refine (C3.out wr (Q.refl _)).mono ?_
        rintro e w3 ⟨v3, xs, rfl, hown3, hin8, hxi3, hq3⟩
        have HX3 := hide hxi3
        have HI8 := hide hin8
        have HO3 := hide hown3
        have HQ3 := hide hq3
        clear hxi3 hin8 hown3 hq3
        go_wp2_with fail
        refine (C4.out w3 (HQ.out.trans HQ3.out)).mono ?_
        rintro e w4 ⟨v4, ys, rfl, hown4, hin4, hxi4, hq4⟩
        obtain rfl : ys = xs := by
          have e := hxi4.symm.trans HX3.out
          exact (List.map_inj_right (fun x y h => by injection h)).1 e
        have HO4 := hide hown4
        have HO3 := hide (own_q HO3.out hq4)
        have HQ4 := hide (HQ3.out.trans hq4)
        clear hxi4 hin4 hown4 hq4
        go_wp2_with fail
        refine (C1.out w4 HQ4.out).mono ?_
        rintro e w5 ⟨v5, rfl, hown5, hq5⟩
        have HO5 := hide hown5
        have HO3 := hide (own_q HO3.out hq5)
        have HO4 := hide (own_q HO4.out hq5)
        have HQ5 := hide (HQ4.out.trans hq5)
        clear hown5 hq5
        go_wp2_with fail
        refine (C2.out w5 (HQ.out.trans HQ5.out)).mono ?_
        rintro e w6 ⟨v6, rfl, hown6, hq6⟩
        have HO6 := hide hown6
        have HO3 := hide (own_q HO3.out hq6)
        have HO4 := hide (own_q HO4.out hq6)
        have HO5 := hide (own_q HO5.out hq6)
        have HQ6 := hide (HQ5.out.trans hq6)
        clear hown6 hq6
        obtain ⟨A3, c3, rfl, hs3⟩ := sl_own8 HO3.out
        obtain ⟨A4, c4, rfl, hs4⟩ := sl_own8 HO4.out
        obtain ⟨A5, c5, rfl, h51, h52, h53, hr5⟩ := own_form HO5.out
        obtain ⟨A6, c6, rfl, h61, h62, h63, hr6⟩ := own_form HO6.out
        have cv1 := conv_sl Try.underlying37 Try.underlying5 Try.underlying9 hs3 HI8.out
        have cv2 := conv_sl Try.underlying37 Try.underlying5 Try.underlying9 hs4 HI8.out
        have tt : ((strI ys).toList == (strI ys).toList) = true := by simp
        have t1 : ((er : Int) != (er : Int)) = false := by simp
        have t2 : ((el : Int) != (el : Int)) = false := by simp
        have hNm := hs3.most
        have hNc := hs3.cap
        have HST := hide (SameTexts_same A5 ms.length c5 A6 c6 ms w6 hr5 hr6 rfl (by omega))
        clear hs3 hs4 hr5 hr6 h51 h52 h53 h61 h62 h63
        go_wp2_with fail
        refine HST.out.mono ?_
        rintro e w7 ⟨rfl, hq7⟩
        have HO3 := hide (own_q HO3.out hq7)
        have HQ7 := hide (HQ6.out.trans hq7)
        obtain ⟨N, hN⟩ : ∃ N, ys.length = N := ⟨_, rfl⟩
        have HN := hide hN
        rw [hN] at hNc HO3 ⊢
        have hNi : (N : Int) ≤ 9223372036854775807 := by omega
        clear hq7 hN cv1 cv2 tt hNm hNc C1 C2 C3 C4 HST HO4 HO5 HO6
        go_wp2_with fail
        clear t1 t2
        go_loopw [13] (fun vi wx => ∃ (k : Nat) (zs : List Int), k ≤ N ∧ vi = .int .i64 k ∧ zs.length = N ∧ Q wr wx ∧ wx.ownsRow wr.heap.size 5 1 (.slice A3 N c3) N (zs.map (Value.int .u8))) (fun vi _ => N - (intOf vi).toNat)
        case atStart => exact ⟨0, ys, by omega, by go_num, HN.out, HQ7.out, HO3.out⟩
        case round =>
          obtain ⟨k, zs, hk, rfl, hz, hqx, hrx⟩ := hrel
          obtain ⟨wx, rfl⟩ : ∃ wx : World, wx = wr := ⟨_, rfl⟩
          have HQX := hide hqx
          have HRX := hide hrx
          have HZ := hide hz
          clear hqx hrx hz
          by_cases hkn : k < N
          · have hd1 : decide ((k : Int) < (N : Int)) = true := by simp; omega
            have hd0 : decide (k < N) = true := by simp; omega
            have hlti : (k : Int) < (N : Int) := by omega
            obtain ⟨g, cg, eg, hgb, hgl, -, -, hcell, hfz⟩ := own_at HRX.out (by omega)
            cases eg
            obtain ⟨x, hx⟩ : ∃ x, zs[k]? = some x := ⟨_, List.getElem?_eq_getElem (by rw [HZ.out]; exact hkn)⟩
            have yc : wx.cell? ⟨g, k, none⟩ = some (.int .u8 x) := hcell k _ (by rw [List.getElem?_map, hx]; rfl)
            have yf := hfz k
            clear hcell hfz hx
            go_wp2_with fail
            go_roundw
            case rel => exact ⟨k + 1, zs.set k (IntKind.u8.wrap (x + 1)), by omega, by go_num, by rw [List.length_set]; exact HZ.out, HQX.out.set hgb _, by rw [List.map_set]; exact own_set HRX.out k _⟩
            case measure => simp [intOf] <;> omega
          · have hd1 : decide ((k : Int) < (N : Int)) = false := by simp; omega
            have hd0 : decide (k < N) = false := by simp; omega
            obtain rfl : k = N := by omega
            clear hc
            go_wp2_with fail
            clear hd1 hd0
            go_loopw [14] (fun vi wy => ∃ j : Nat, j ≤ i ∧ vi = .int .i64 j ∧ Q wx wy) (fun vi _ => i - (intOf vi).toNat)
            case atStart => exact ⟨0, by omega, by go_num, Q.refl _⟩
            case round =>
              obtain ⟨j, hj, rfl, hqy⟩ := hrel
              obtain ⟨wy, rfl⟩ : ∃ wy : World, wy = wr := ⟨_, rfl⟩
              have HQY := hide hqy
              have hqry := HQX.out.trans hqy
              have HQRY := hide hqry
              have HQWY := hide (HQ.out.trans hqry)
              by_cases hji : j < i
              · have hd1 : decide ((j : Int) < (i : Int)) = true := by simp; omega
                have hd0 : decide (j < i) = true := by simp; omega
                have hlti : (j : Int) < (i : Int) := by omega
                obtain ⟨b1, o1, ob, e1, hb1, g1, x1, x2, x3, hob⟩ := (HO.out.up HQWY.out).at_ j hji
                obtain ⟨b2, o2, ob2, e2, hb2, g2, y1, y2, y3, hob2⟩ := (HOO.out.up hqry).at_ j hji
                obtain ⟨z0, z1, z2⟩ := HSZ.out _ (List.mem_of_getElem? g1)
                have hcc : can ob2 = can ob := by
                  have h1 : (os'.map can)[j]? = some (can ob2) := by rw [List.getElem?_map, g2]; rfl
                  have h2 : (os.map can)[j]? = some (can ob) := by rw [List.getElem?_map, g1]; rfl
                  rw [HCE.out, h2] at h1
                  exact (Option.some.inj h1).symm
                have hSD := same_of_can hcc
                have z1' : ob2.2.1.n ≤ 1000 := by have a := hob2.s.len; have b := hob.s.len; rw [hSD.2.1] at a; omega
                have z2' : ob2.2.2.n ≤ 1000 := by have a := hob2.t.len; have b := hob.t.len; rw [hSD.2.2] at a; omega
                have HSM := hide (fun W (h : Q wy W) => rSame_same ob2 ob W (hob2.up h) (hob.up h) hSD z1' z2')
                obtain ⟨⟨A0, n0, c0, bs⟩, ⟨A1, n1, c1, ss⟩, ⟨A2, n2, c2, ws⟩⟩ := ob
                obtain ⟨⟨B0, m0, d0, bt⟩, ⟨B1, m1, d1, st⟩, ⟨B2, m2, d2, wt⟩⟩ := ob2
                subst e1
                subst e2
                dsimp only [obV, SlV.val] at HSM x1 x2 x3 y1 y2 y3
                clear hob hob2 g1 g2 hcc hSD z0 z1 z2 z1' z2' hqry hqy
                go_wp2_with fail
                have hxc := ext_cell
                refine wp_region_ext (by kernel_rfl) (by kernel_rfl) ?_
                repeat (go_big_quiet_step (((go_at_call 27; exact ext_call (HSM.out _ (q_ext _ _))))))
                clear hxc
                refine wpQuiet_nil ?_
                intro wz hwwz
                have hqwz := q_of_ext hwwz
                clear hwwz
                obtain ⟨hcwz, hfwz, hzwz⟩ := hqwz.facts
                try simp at hzwz
                try have hs0wz : w.heap.size < wz.heap.size := by omega
                try have hs1wz : w.heap.size + 1 < wz.heap.size := by omega
                clear hcwz hfwz x1 x2 x3 y1 y2 y3
                go_wp2_with fail
                go_roundw
                case rel => exact ⟨j + 1, by omega, by go_num, HQY.out.trans hqwz⟩
                case measure => simp [intOf] <;> omega
              · have hd1 : decide ((j : Int) < (i : Int)) = false := by simp; omega
                have hd0 : decide (j < i) = false := by simp; omega
                obtain rfl : j = i := by omega
                rcases Nat.eq_zero_or_pos er with he | he
                · have hd : ((er : Int) != 0) = false := by rw [he]; rfl
                  have hm0 : ms.length = 0 := by rw [HEM.out he]; rfl
                  have hd3 : ((ms.length : Int) == 0) = true := by rw [hm0]; rfl
                  have HKN := hide (fun W => known_any W)
                  go_wp2_with fail
                  refine (HKN.out wy).mono ?_
                  rintro e w9 ⟨rfl, hq9⟩
                  go_wp2_with fail
                  go_ret
                  exact ⟨rfl, HQWY.out.trans hq9⟩
                · have hd : ((er : Int) != 0) = true := by simp; omega
                  have HKN := hide (fun W => known_any W)
                  go_wp2_with fail
                  refine (HKN.out wy).mono ?_
                  rintro e w9 ⟨rfl, hq9⟩
                  go_wp2_with fail
                  go_ret
                  exact ⟨rfl, HQWY.out.trans hq9⟩
end Go.Proofs.Ytjdioilkhbpmoaa
