/- The walk of the reference's Validate. Conditions: the object reads as one. -/
import Derived.Test.YtjdioilkhbpmoaaLinkD
namespace Go.Proofs.Ytjdioilkhbpmoaa
open Go.RowKit LK
set_option linter.unusedVariables false
theorem near_in (x y : Wnt) : inB (y.1 - x.1) (-3) 3 = near x y := rfl
theorem any_take_false {α : Type} {p : α → Bool} {l : List α} {k : Nat} (h : ∀ j x, j < k → l[j]? = some x → p x = false) : (l.take k).any p = false := by
  rw [List.any_eq_false]
  intro x hx
  obtain ⟨j, hj, rfl⟩ := List.getElem_of_mem hx
  rw [List.length_take] at hj
  have := h j l[j] (by omega) (List.getElem?_eq_getElem (by omega))
  rw [List.getElem_take, this]
  exact Bool.false_ne_true
theorem any_take_true {α : Type} {p : α → Bool} {l : List α} {k j : Nat} {x : α} (hj : j < k) (h : l[j]? = some x) (hp : p x = true) : (l.take k).any p = true := by
  rw [List.any_eq_true]
  obtain ⟨hl, e⟩ := List.getElem?_eq_some_iff.1 h
  exact ⟨x, List.mem_of_getElem? (i := j) (by rw [List.getElem?_take, if_pos hj]; exact h), hp⟩
set_option maxRecDepth 100000 in
set_option maxHeartbeats 8000000 in
theorem rValidate_any (A0 : Option Addr) (n0 c0 : Nat) (A1 : Option Addr) (n1 c1 : Nat) (ss : List Sym) (A2 : Option Addr) (n2 c2 : Nat) (ws : List Wnt) (w : World) (hS : Sl 2 encSym w A1 n1 c1 ss) (hT : Sl 3 encWnt w A2 n2 c2 ws)
    (hs : ∀ x ∈ ss, x.1.size ≤ 140737488351232) (ht : ∀ x ∈ ws, x.2.2.size ≤ 140737488351232) :
    Calls Try.prog 25 #[.agg #[.slice A0 n0 c0, .slice A1 n1 c1, .slice A2 n2 c2]] w fun e w' => e = .returned (.int .i64 (validF n0 ss ws : Nat)) ∧ Q w w' := by
  have l1 := hS.len
  have l2 := hT.len
  by_cases b0 : 512 < n0
  · have d0 : decide ((512 : Int) < (n0 : Int)) = true := by simp; omega
    have e := valid_big (n := n0) (ss := ss) (ws := ws) (.inl b0)
    have E := hide e
    clear hS hT hs ht l1 l2 e
    go_enter Try.func25, Try.ntmps25
    go_wp2_with fail
    go_ret
    exact ⟨by rw [E.out]; rfl, (Q.refl w).alloc _⟩
  have d0 : decide ((512 : Int) < (n0 : Int)) = false := by simp; omega
  by_cases b1 : 16 < n1
  · have d1 : decide ((16 : Int) < (n1 : Int)) = true := by simp; omega
    have e := valid_big (n := n0) (ss := ss) (ws := ws) (.inr (.inl (by omega)))
    have E := hide e
    clear hS hT hs ht l1 l2 e
    go_enter Try.func25, Try.ntmps25
    go_wp2_with fail
    go_ret
    exact ⟨by rw [E.out]; rfl, (Q.refl w).alloc _⟩
  have d1 : decide ((16 : Int) < (n1 : Int)) = false := by simp; omega
  by_cases b2 : 16 < n2
  · have d2 : decide ((16 : Int) < (n2 : Int)) = true := by simp; omega
    have e := valid_big (n := n0) (ss := ss) (ws := ws) (.inr (.inr (by omega)))
    have E := hide e
    clear hS hT hs ht l1 l2 e
    go_enter Try.func25, Try.ntmps25
    go_wp2_with fail
    go_ret
    exact ⟨by rw [E.out]; rfl, (Q.refl w).alloc _⟩
  have d2 : decide ((16 : Int) < (n2 : Int)) = false := by simp; omega
  have hnb : ¬ (512 < n0 ∨ 16 < ss.length ∨ 16 < ws.length) := by omega
  have HNB := hide hnb
  obtain ⟨w1, hw1⟩ : ∃ w1, w.alloc (.cells #[.slice A0 n0 c0, .slice A1 n1 c1, .slice A2 n2 c2] 41) = w1 := ⟨_, rfl⟩
  have hq1 : Q w w1 := by rw [← hw1]; exact (Q.refl w).alloc _
  have hs1 : w.heap.size < w1.heap.size := by rw [← hw1]; simp
  have kb0 : w1.cell? ⟨w.heap.size, 0, none⟩ = some (.slice A0 n0 c0) := by rw [← hw1]; simp
  have kb1 : w1.cell? ⟨w.heap.size, 1, none⟩ = some (.slice A1 n1 c1) := by rw [← hw1]; simp
  have kb2 : w1.cell? ⟨w.heap.size, 2, none⟩ = some (.slice A2 n2 c2) := by rw [← hw1]; simp
  have HW1 := hide hw1
  have KB0 := hide kb0
  have KB1 := hide kb1
  have KB2 := hide kb2
  have HS := hide hS
  have HT := hide hT
  have Hs := hide hs
  have Ht := hide ht
  have L1 := hide l1
  have L2 := hide l2
  have hn0i : (n0 : Int) ≤ 512 := by omega
  have hn1i : (n1 : Int) ≤ 16 := by omega
  have hn2i : (n2 : Int) ≤ 16 := by omega
  clear hS hT hs ht l1 l2 hw1 kb0 kb1 kb2 hnb
  go_enter Try.func25, Try.ntmps25
  go_wp2_with fail
  rw [HW1.out]
  clear d0 d1 d2
  go_loopw [3] (fun vi wr => ∃ k : Nat, k ≤ n1 ∧ vi = .int .i64 k ∧ (∀ j x, j < k → ss[j]? = some x → symOk n0 x = true) ∧ Q w1 wr) (fun vi _ => n1 - (intOf vi).toNat)
  case atStart => exact ⟨0, by omega, by go_num, fun j x hj => by omega, Q.refl _⟩
  case round =>
    obtain ⟨k, hk, rfl, hall, hq⟩ := hrel
    have HALL := hide hall
    have hsz := hq.size
    have k0 := (hq.facts.1 _ 0 hs1).trans KB0.out
    have k1 := (hq.facts.1 _ 1 hs1).trans KB1.out
    have hswr : w.heap.size < wr.heap.size := by omega
    clear hall
    by_cases hlt : k < n1
    · have hd1 : decide ((k : Int) < (n1 : Int)) = true := by simp; omega
      have hd0 : decide (k < n1) = true := by simp; omega
      have hlti : (k : Int) < (n1 : Int) := by omega
      obtain ⟨b1, o1, nm, at_, rfl, hb1, g1, x1, x2⟩ := (HS.out.up (hq1.trans hq)).sym k hlt
      have hnm := Hs.out _ (List.mem_of_getElem? g1)
      dsimp only at hnm
      have G1 := hide g1
      have HQ := hide hq
      have hbad : symOk n0 (nm, at_) = false → validF n0 ss ws = 1 := fun h => valid_arg HNB.out (sound_sym G1.out h)
      have HBAD := hide hbad
      clear g1 hq hbad
      cases hn : nameB nm
      · have E := hide (HBAD.out (by simp [symOk, hn]))
        have CN := hide (fun W => hn ▸ rIsName_any nm W hnm)
        clear hn
        go_wp2_with fail
        have hxc := ext_cell
        refine wp_region_ext (by kernel_rfl) (by kernel_rfl) ?_
        repeat (go_big_quiet_step (((go_at_call 61; exact ext_call' (CN.out _)))))
        clear hxc
        refine wpQuiet_nil ?_
        intro wz hwwz
        have hqwz := q_of_ext hwwz
        clear hwwz
        obtain ⟨hcwz, hfwz, hzwz⟩ := hqwz.facts
        try simp at hzwz
        try have hs0wz : w.heap.size < wz.heap.size := by omega
        try have hs1wz : w.heap.size + 1 < wz.heap.size := by omega
        have hqz := (hq1.trans HQ.out).trans hqwz
        clear hcwz hfwz x1 x2 k0 k1
        go_wp2_with fail
        go_ret
        exact ⟨by rw [E.out]; rfl, hqz⟩
      · have CN := hide (fun W => hn ▸ rIsName_any nm W hnm)
        cases hi : inB at_ 0 n0
        · have E := hide (HBAD.out (by unfold inB at hi; simp only [symOk, hn, Bool.true_and]; exact hi))
          have CW := hide (fun W => hi ▸ within_any at_ 0 n0 W)
          clear hn hi
          go_wp2_with fail
          have hxc := ext_cell
          refine wp_region_ext (by kernel_rfl) (by kernel_rfl) ?_
          repeat (go_big_quiet_step ((first | (go_at_call 61; exact ext_call' (CN.out _)) | (go_at_call 62; exact ext_call' (CW.out _)))))
          clear hxc
          refine wpQuiet_nil ?_
          intro wz hwwz
          have hqwz := q_of_ext hwwz
          clear hwwz
          obtain ⟨hcwz, hfwz, hzwz⟩ := hqwz.facts
          try simp at hzwz
          try have hs0wz : w.heap.size < wz.heap.size := by omega
          try have hs1wz : w.heap.size + 1 < wz.heap.size := by omega
          have hqz := (hq1.trans HQ.out).trans hqwz
          clear hcwz hfwz x1 x2 k0 k1
          go_wp2_with fail
          go_ret
          exact ⟨by rw [E.out]; rfl, hqz⟩
        · have HOK := hide (show symOk n0 (nm, at_) = true by unfold inB at hi; simp only [symOk, hn, Bool.true_and]; exact hi)
          have CW := hide (fun W => hi ▸ within_any at_ 0 n0 W)
          clear hn hi
          go_wp2_with fail
          have hxc := ext_cell
          refine wp_region_ext (by kernel_rfl) (by kernel_rfl) ?_
          repeat (go_big_quiet_step ((first | (go_at_call 61; exact ext_call' (CN.out _)) | (go_at_call 62; exact ext_call' (CW.out _)))))
          clear hxc
          refine wpQuiet_nil ?_
          intro wz hwwz
          have hqwz := q_of_ext hwwz
          clear hwwz
          obtain ⟨hcwz, hfwz, hzwz⟩ := hqwz.facts
          try simp at hzwz
          try have hs0wz : w.heap.size < wz.heap.size := by omega
          try have hs1wz : w.heap.size + 1 < wz.heap.size := by omega
          have hqz := HQ.out.trans hqwz
          clear hcwz hfwz x1 x2 k0 k1
          go_wp2_with fail
          go_roundw
          case rel => exact ⟨k + 1, by omega, by go_num, fun j x hj hx => by
            by_cases e : j = k
            · subst e
              rw [G1.out] at hx
              cases hx
              exact HOK.out
            · exact HALL.out j x (by omega) hx, hqz⟩
          case measure => simp [intOf] <;> omega
    · have hd1 : decide ((k : Int) < (n1 : Int)) = false := by simp; omega
      have hd0 : decide (k < n1) = false := by simp; omega
      have HSY := hide (sound_syms (ws := ws) (n := n0) (fun j x hj hx => HALL.out j x (by have := L1.out; omega) hx))
      obtain ⟨w2, rfl⟩ : ∃ w2 : World, w2 = wr := ⟨_, rfl⟩
      have hq02 := hq1.trans hq
      have HQ2 := hide hq
      have hs2 : w.heap.size < w2.heap.size := by omega
      clear hq hlt hk HALL
      go_wp2_with fail
      clear hd1 hd0 k0 k1
      go_loopw [4] (fun vi wr => ∃ k : Nat, k ≤ n2 ∧ vi = .int .i64 k ∧ (∀ j x, j < k → ws[j]? = some x → wntOk n0 x = true) ∧ wantsOk n0 [] ws = wantsOk n0 (ws.take k) (ws.drop k) ∧ Q w2 wr) (fun vi _ => n2 - (intOf vi).toNat)
      case atStart => exact ⟨0, by omega, by go_num, fun j x hj => by omega, rfl, Q.refl _⟩
      case round =>
        obtain ⟨k, hk, rfl, hall, hw, hq⟩ := hrel
        obtain ⟨wo, rfl⟩ : ∃ wo : World, wo = wr := ⟨_, rfl⟩
        have HALL := hide hall
        have HW := hide hw
        have hsz := hq.size
        have k0 := ((HQ2.out.trans hq).facts.1 _ 0 hs1).trans KB0.out
        have k2 := ((HQ2.out.trans hq).facts.1 _ 2 hs1).trans KB2.out
        have hswr : w.heap.size < wo.heap.size := by omega
        clear hall hw
        by_cases hlt : k < n2
        · have hd1 : decide ((k : Int) < (n2 : Int)) = true := by simp; omega
          have hd0 : decide (k < n2) = true := by simp; omega
          have hlti : (k : Int) < (n2 : Int) := by omega
          obtain ⟨b1, o1, at_, kd, nm, rfl, hb1, g1, x1, x2, x3⟩ := (HT.out.up (hq02.trans hq)).wnt k hlt
          have hnm := Ht.out _ (List.mem_of_getElem? g1)
          dsimp only at hnm
          have HST := hide (wants_step (n := n0) g1)
          have G1 := hide g1
          have HQ := hide hq
          have hbad : wntOk n0 (at_, kd, nm) = false → validF n0 ss ws = 1 := fun h => valid_arg HNB.out (by rw [HSY.out, HW.out, HST.out, h]; rfl)
          have HBAD := hide hbad
          have hqf := (hq02.trans hq).alloc (.cells #[.int .i64 at_, .int .i64 kd, .string nm] 74)
          have hw0 : wntOk n0 (at_, kd, nm) = (nameB nm && inB at_ 0 ((n0 : Int) - 4) && inB kd 0 1) := by simp [wntOk, inB, Bool.and_assoc]
          rw [hw0] at hbad
          have HBAD := hide hbad
          have HW0 := hide hw0
          have ea : (n0 : Int) - 4 ≤ 508 := by omega
          clear g1 hq hbad hw0
          cases hn : nameB nm
          · have E := hide (HBAD.out (by rw [hn]; rfl))
            have CN := hide (fun W => hn ▸ rIsName_any nm W hnm)
            clear hn
            go_wp2_with fail
            refine (CN.out _).mono ?_
            rintro e w5 ⟨rfl, rfl⟩
            go_wp2_with fail
            go_ret
            exact ⟨by rw [E.out]; rfl, hqf⟩
          · have CN := hide (fun W => hn ▸ rIsName_any nm W hnm)
            cases hi : inB at_ 0 ((n0 : Int) - 4)
            · have E := hide (HBAD.out (by rw [hn, hi]; rfl))
              have CW := hide (fun W => hi ▸ within_any at_ 0 ((n0 : Int) - 4) W)
              clear hn hi
              go_wp2_with fail
              refine (CN.out _).mono ?_
              rintro e w5 ⟨rfl, rfl⟩
              go_wp2_with fail
              refine (CW.out _).mono ?_
              rintro e w5 ⟨rfl, rfl⟩
              go_wp2_with fail
              go_ret
              exact ⟨by rw [E.out]; rfl, hqf⟩
            · have CW := hide (fun W => hi ▸ within_any at_ 0 ((n0 : Int) - 4) W)
              cases hj : inB kd 0 1
              · have E := hide (HBAD.out (by rw [hn, hi, hj]; rfl))
                have CV := hide (fun W => hj ▸ within_any kd 0 1 W)
                clear hn hi hj
                go_wp2_with fail
                refine (CN.out _).mono ?_
                rintro e w5 ⟨rfl, rfl⟩
                go_wp2_with fail
                refine (CW.out _).mono ?_
                rintro e w5 ⟨rfl, rfl⟩
                go_wp2_with fail
                refine (CV.out _).mono ?_
                rintro e w5 ⟨rfl, rfl⟩
                go_wp2_with fail
                go_ret
                exact ⟨by rw [E.out]; rfl, hqf⟩
              · have CV := hide (fun W => hj ▸ within_any kd 0 1 W)
                have hok : wntOk n0 (at_, kd, nm) = true := by rw [HW0.out, hn, hi, hj]; rfl
                have HOK := hide hok
                have hat : 0 ≤ at_ ∧ at_ ≤ 508 := by unfold inB at hi; simp at hi; omega
                obtain ⟨hat0, hat1⟩ := hat
                clear hn hi hj hok
                go_wp2_with fail
                refine (CN.out _).mono ?_
                rintro e w5 ⟨rfl, rfl⟩
                go_wp2_with fail
                refine (CW.out _).mono ?_
                rintro e w5 ⟨rfl, rfl⟩
                go_wp2_with fail
                refine (CV.out _).mono ?_
                rintro e w5 ⟨rfl, rfl⟩
                go_wp2_with fail
                obtain ⟨w3, hw3⟩ : ∃ w3, wo.alloc (.cells #[.int .i64 at_, .int .i64 kd, .string nm] 74) = w3 := ⟨_, rfl⟩
                have hq3 : Q wo w3 := by rw [← hw3]; exact (Q.refl wo).alloc _
                have hs3 : wo.heap.size < w3.heap.size := by rw [← hw3]; simp
                have z0 : w3.cell? ⟨wo.heap.size, 0, none⟩ = some (.int .i64 at_) := by rw [← hw3]; simp
                have Z0 := hide z0
                have K2 := hide ((hq3.facts.1 _ 2 hswr).trans k2)
                have hq03 : Q w w3 := (hq02.trans HQ.out).trans hq3
                rw [hw3]
                clear hw3 x1 x2 x3 k0 k2 z0 hqf
                go_loopw [6] (fun vi wr => ∃ m : Nat, m ≤ k ∧ vi = .int .i64 m ∧ (∀ j x, j < m → ws[j]? = some x → near x (at_, kd, nm) = false) ∧ Q w3 wr) (fun vi _ => k - (intOf vi).toNat)
                case atStart => exact ⟨0, by omega, by go_num, fun j x hj => by omega, Q.refl _⟩
                case round =>
                  obtain ⟨m, hm, rfl, hnr, hq⟩ := hrel
                  have HNR := hide hnr
                  have hsz3 := hq.size
                  have z0 := (hq.facts.1 _ 0 hs3).trans Z0.out
                  have k2 := (hq.facts.1 _ 2 (by omega)).trans K2.out
                  have hw3r : w.heap.size < wr.heap.size := by omega
                  have hwor : wo.heap.size < wr.heap.size := by omega
                  clear hnr
                  by_cases hmk : m < k
                  · have hm1 : decide ((m : Int) < (k : Int)) = true := by simp; omega
                    have hm0 : decide (m < k) = true := by simp; omega
                    have hmn : (m : Int) < (n2 : Int) := by omega
                    obtain ⟨b2, o2, at2, kd2, nm2, e2, hb2, g2, y1, y2, y3⟩ := (HT.out.up (hq03.trans hq)).wnt m (by omega)
                    cases e2
                    have hw2 := HALL.out m _ hmk g2
                    have ha2 : 0 ≤ at2 ∧ at2 ≤ 508 := by simp [wntOk] at hw2; omega
                    obtain ⟨ha20, ha21⟩ := ha2
                    have G2 := hide g2
                    have HQm := hide hq
                    clear g2 hw2 hq
                    cases hnr : near (at2, kd2, nm2) (at_, kd, nm)
                    · have CI := hide (fun W => ((near_in (at2, kd2, nm2) (at_, kd, nm)).trans hnr) ▸ within_any (at_ - at2) (-3) 3 W)
                      have HN := hide hnr
                      clear hnr
                      go_wp2_with fail
                      have hxc := ext_cell
                      refine wp_region_ext (by kernel_rfl) (by kernel_rfl) ?_
                      repeat (go_big_quiet_step (((go_at_call 62; exact ext_call' (CI.out _)))))
                      clear hxc
                      refine wpQuiet_nil ?_
                      intro wz hwwz
                      have hqwz := q_of_ext hwwz
                      clear hwwz
                      obtain ⟨hcwz, hfwz, hzwz⟩ := hqwz.facts
                      try simp at hzwz
                      try have hs0wz : w.heap.size < wz.heap.size := by omega
                      try have hs1wz : w.heap.size + 1 < wz.heap.size := by omega
                      have hqz := HQm.out.trans hqwz
                      clear hcwz hfwz y1 y2 y3 z0 k2
                      go_wp2_with fail
                      go_roundw
                      case rel => exact ⟨m + 1, by omega, by go_num, fun j x hj hx => by
                        by_cases e : j = m
                        · subst e
                          rw [G2.out] at hx
                          cases hx
                          exact HN.out
                        · exact HNR.out j x (by omega) hx, hqz⟩
                      case measure => simp [intOf] <;> omega
                    · have CI := hide (fun W => ((near_in (at2, kd2, nm2) (at_, kd, nm)).trans hnr) ▸ within_any (at_ - at2) (-3) 3 W)
                      have E := hide (valid_arg HNB.out (show soundB n0 ss ws = false by rw [HSY.out, HW.out, HST.out, HOK.out, any_take_true (p := fun y => near y (at_, kd, nm)) hmk G2.out hnr]; rfl))
                      clear hnr
                      go_wp2_with fail
                      have hxc := ext_cell
                      refine wp_region_ext (by kernel_rfl) (by kernel_rfl) ?_
                      repeat (go_big_quiet_step (((go_at_call 62; exact ext_call' (CI.out _)))))
                      clear hxc
                      refine wpQuiet_nil ?_
                      intro wz hwwz
                      have hqwz := q_of_ext hwwz
                      clear hwwz
                      obtain ⟨hcwz, hfwz, hzwz⟩ := hqwz.facts
                      try simp at hzwz
                      try have hs0wz : w.heap.size < wz.heap.size := by omega
                      try have hs1wz : w.heap.size + 1 < wz.heap.size := by omega
                      have hqz := (hq03.trans HQm.out).trans hqwz
                      clear hcwz hfwz y1 y2 y3 z0 k2
                      go_wp2_with fail
                      go_ret
                      exact ⟨by rw [E.out]; rfl, hqz⟩
                  · have hm1 : decide ((m : Int) < (k : Int)) = false := by simp; omega
                    have hm0 : decide (m < k) = false := by simp; omega
                    obtain rfl : m = k := by omega
                    have HNX := hide (show wantsOk n0 [] ws = wantsOk n0 (ws.take (m + 1)) (ws.drop (m + 1)) by rw [HW.out, HST.out, HOK.out, any_take_false (p := fun y => near y (at_, kd, nm)) HNR.out]; rfl)
                    have hqn := (HQ.out.trans hq3).trans hq
                    clear z0 k2 hq
                    go_wp2_with fail
                    go_roundw
                    case rel => exact ⟨m + 1, by omega, by go_num, fun j x hj hx => by
                      by_cases e : j = m
                      · subst e
                        rw [G1.out] at hx
                        cases hx
                        exact HOK.out
                      · exact HALL.out j x (by omega) hx, HNX.out, hqn⟩
                    case measure => simp [intOf] <;> omega
        · have hd1 : decide ((k : Int) < (n2 : Int)) = false := by simp; omega
          have hd0 : decide (k < n2) = false := by simp; omega
          obtain rfl : k = n2 := by omega
          have HSOK := hide (show soundB n0 ss ws = true by rw [HSY.out, HW.out, List.drop_eq_nil_of_le (by have := L2.out; omega)]; rfl)
          have hq0w := hq02.trans hq
          have HQ3 := hide (HQ2.out.trans hq)
          clear hq
          go_wp2_with fail
          clear hd1 hd0 k0 k2
          go_loopw [7] (fun vi wr => ∃ i : Nat, i ≤ n1 ∧ vi = .int .i64 i ∧ dupB [] (ss.map (·.1)) = dupB ((ss.take i).map (·.1)) ((ss.drop i).map (·.1)) ∧ Q wo wr) (fun vi _ => n1 - (intOf vi).toNat)
          case atStart => exact ⟨0, by omega, by go_num, rfl, Q.refl _⟩
          case round =>
            obtain ⟨i, hi, rfl, hd, hq⟩ := hrel
            obtain ⟨wp, rfl⟩ : ∃ wp : World, wp = wr := ⟨_, rfl⟩
            have HD := hide hd
            have hsz4 := hq.size
            have k1 := ((HQ3.out.trans hq).facts.1 _ 1 hs1).trans KB1.out
            have hswp : w.heap.size < wp.heap.size := by omega
            clear hd
            by_cases hin : i < n1
            · have hd1 : decide ((i : Int) < (n1 : Int)) = true := by simp; omega
              have hd0 : decide (i < n1) = true := by simp; omega
              have hini : (i : Int) < (n1 : Int) := by omega
              have HQ4 := hide hq
              clear hq
              go_wp2_with fail
              clear hd1 hd0 k1
              go_loopw [8] (fun vi wr => ∃ j : Nat, j ≤ i ∧ vi = .int .i64 j ∧ (∀ p x y, p < j → ss[p]? = some x → ss[i]? = some y → (x.1.toList == y.1.toList) = false) ∧ Q wp wr) (fun vi _ => i - (intOf vi).toNat)
              case atStart => exact ⟨0, by omega, by go_num, fun p x y hp => by omega, Q.refl _⟩
              case round =>
                obtain ⟨j, hj, rfl, hne, hq⟩ := hrel
                have HNE := hide hne
                have hsz5 := hq.size
                have k1 := (((HQ3.out.trans HQ4.out).trans hq).facts.1 _ 1 hs1).trans KB1.out
                have hswr' : w.heap.size < wr.heap.size := by omega
                clear hne
                obtain ⟨b1, o1, nm, at_, rfl, hb1, g1, x1, x2⟩ := (HS.out.up ((hq0w.trans HQ4.out).trans hq)).sym i hin
                by_cases hji : j < i
                · have hj1 : decide ((j : Int) < (i : Int)) = true := by simp; omega
                  have hj0 : decide (j < i) = true := by simp; omega
                  have hjn : (j : Int) < (n1 : Int) := by omega
                  obtain ⟨b2, o2, nm2, at2, e2, hb2, g2, y1, y2⟩ := (HS.out.up ((hq0w.trans HQ4.out).trans hq)).sym j (by omega)
                  cases e2
                  have G1 := hide g1
                  have G2 := hide g2
                  have HQ5 := hide hq
                  clear g1 g2 hq
                  cases hen : nm2.toList == nm.toList
                  · have hen2 : (nm.toList == nm2.toList) = false := by rw [← hen]; exact Bool.beq_comm
                    have HEN := hide hen
                    clear hen
                    go_wp2_with fail
                    have hxc := ext_cell
                    refine wp_region_ext (by kernel_rfl) (by kernel_rfl) ?_
                    repeat (go_big_quiet_step ((fail)))
                    clear hxc
                    refine wpQuiet_nil ?_
                    intro wz hwwz
                    have hqwz := q_of_ext hwwz
                    clear hwwz
                    obtain ⟨hcwz, hfwz, hzwz⟩ := hqwz.facts
                    try simp at hzwz
                    try have hs0wz : w.heap.size < wz.heap.size := by omega
                    try have hs1wz : w.heap.size + 1 < wz.heap.size := by omega
                    have hqz := HQ5.out.trans hqwz
                    clear hcwz hfwz x1 x2 y1 y2 k1
                    go_wp2_with fail
                    go_roundw
                    case rel => exact ⟨j + 1, by omega, by go_num, fun p x y hp hx hy => by
                      by_cases e : p = j
                      · subst e
                        rw [G2.out] at hx
                        rw [G1.out] at hy
                        cases hx
                        cases hy
                        exact HEN.out
                      · exact HNE.out p x y (by omega) hx hy, hqz⟩
                    case measure => simp [intOf] <;> omega
                  · have hen2 : (nm.toList == nm2.toList) = true := by rw [← hen]; exact Bool.beq_comm
                    have E := hide (valid_dup HNB.out HSOK.out (show dupB [] (ss.map (·.1)) = true by rw [HD.out, dup_step G1.out, any_take_true (p := fun y => y.1.toList == nm.toList) hji G2.out hen]; rfl))
                    clear hen
                    go_wp2_with fail
                    have hxc := ext_cell
                    refine wp_region_ext (by kernel_rfl) (by kernel_rfl) ?_
                    repeat (go_big_quiet_step ((fail)))
                    clear hxc
                    refine wpQuiet_nil ?_
                    intro wz hwwz
                    have hqwz := q_of_ext hwwz
                    clear hwwz
                    obtain ⟨hcwz, hfwz, hzwz⟩ := hqwz.facts
                    try simp at hzwz
                    try have hs0wz : w.heap.size < wz.heap.size := by omega
                    try have hs1wz : w.heap.size + 1 < wz.heap.size := by omega
                    have hqz := ((hq0w.trans HQ4.out).trans HQ5.out).trans hqwz
                    clear hcwz hfwz x1 x2 y1 y2 k1
                    go_wp2_with fail
                    go_ret
                    exact ⟨by rw [E.out]; rfl, hqz⟩
                · have hj1 : decide ((j : Int) < (i : Int)) = false := by simp; omega
                  have hj0 : decide (j < i) = false := by simp; omega
                  obtain rfl : j = i := by omega
                  have HNX := hide (show dupB [] (ss.map (·.1)) = dupB ((ss.take (j + 1)).map (·.1)) ((ss.drop (j + 1)).map (·.1)) by rw [HD.out, dup_step g1, any_take_false (p := fun y => y.1.toList == nm.toList) (fun p x hp hx => HNE.out p x _ hp hx g1)]; rfl)
                  have hqn := HQ4.out.trans hq
                  clear x1 x2 k1 hq g1
                  go_wp2_with fail
                  go_roundw
                  case rel => exact ⟨j + 1, by omega, by go_num, HNX.out, hqn⟩
                  case measure => simp [intOf] <;> omega
            · have hd1 : decide ((i : Int) < (n1 : Int)) = false := by simp; omega
              have hd0 : decide (i < n1) = false := by simp; omega
              have E := hide (valid_ok HNB.out HSOK.out (show dupB [] (ss.map (·.1)) = false by rw [HD.out, List.drop_eq_nil_of_le (by have := L1.out; omega)]; rfl))
              have hqn := hq0w.trans hq
              clear hq
              go_wp2_with fail
              go_ret
              exact ⟨by rw [E.out]; rfl, hqn⟩
end Go.Proofs.Ytjdioilkhbpmoaa
