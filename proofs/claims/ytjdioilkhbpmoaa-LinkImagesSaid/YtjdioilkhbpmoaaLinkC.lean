/- The walks of the program's isSound and Validate. Conditions: the object reads as one. -/
import Derived.Test.YtjdioilkhbpmoaaLinkB
namespace Go.Proofs.Ytjdioilkhbpmoaa
open Go.RowKit LK
set_option linter.unusedVariables false
abbrev OV := SlV Int × SlV Sym × SlV Wnt
def encO (p : OV) : List Value := encV p.1 ++ (encV p.2.1 ++ encV p.2.2)
/-- an object that lies in memory -/
structure ObR (w : World) (o : OV) : Prop where
  b : Sl 1 (encI .u8) w o.1.A o.1.n o.1.c o.1.xs
  s : Sl 2 encSym w o.2.1.A o.2.1.n o.2.1.c o.2.1.xs
  t : Sl 3 encWnt w o.2.2.A o.2.2.n o.2.2.c o.2.2.xs
  bn : o.1.A = none → o.1.n = 0 ∧ o.1.c = 0
  sn : o.2.1.A = none → o.2.1.n = 0 ∧ o.2.1.c = 0
  tn : o.2.2.A = none → o.2.2.n = 0 ∧ o.2.2.c = 0
  bok : ∀ x ∈ o.1.xs, 0 ≤ x ∧ x < 256
  sok : ∀ x ∈ o.2.1.xs, x.1.size ≤ 140737488351232
  tok : ∀ x ∈ o.2.2.xs, x.2.2.size ≤ 140737488351232
theorem ObR.up {w w' : World} {o : OV} (h : ObR w o) (hq : Q w w') : ObR w' o := ⟨h.b.up hq, h.s.up hq, h.t.up hq, h.bn, h.sn, h.tn, h.bok, h.sok, h.tok⟩
def obV (o : OV) : Value := .agg #[o.1.val, o.2.1.val, o.2.2.val]
def OV.valid (o : OV) : Nat := validF o.1.n o.2.1.xs o.2.2.xs
theorem sound_sym {n : Nat} {ss : List Sym} {ws : List Wnt} {k : Nat} {x : Sym} (h : ss[k]? = some x) (hx : symOk n x = false) : soundB n ss ws = false := by
  unfold soundB
  have : ss.all (symOk n) = false := by
    rw [List.all_eq_false]
    exact ⟨x, List.mem_of_getElem? h, by simp [hx]⟩
  rw [this]
  rfl
theorem sound_syms {n : Nat} {ss : List Sym} {ws : List Wnt} (h : ∀ j x, j < ss.length → ss[j]? = some x → symOk n x = true) : soundB n ss ws = wantsOk n [] ws := by
  unfold soundB
  have : ss.all (symOk n) = true := by
    rw [List.all_eq_true]
    intro x hx
    obtain ⟨j, hj, rfl⟩ := List.getElem_of_mem hx
    exact h j _ hj (List.getElem?_eq_getElem hj)
  rw [this]
  rfl
theorem wants_step {n : Nat} {ws : List Wnt} {k : Nat} {x : Wnt} (h : ws[k]? = some x) : wantsOk n (ws.take k) (ws.drop k) = (wntOk n x && !((ws.take k).any fun y => near y x) && wantsOk n (ws.take (k + 1)) (ws.drop (k + 1))) := by
  obtain ⟨hk, e⟩ := List.getElem?_eq_some_iff.1 h
  rw [List.drop_eq_getElem_cons hk, wantsOk, e, List.take_succ_eq_append_getElem hk, e]
set_option maxRecDepth 100000 in
set_option maxHeartbeats 4000000 in
theorem isSound_any (A0 : Option Addr) (n0 c0 : Nat) (A1 : Option Addr) (n1 c1 : Nat) (ss : List Sym) (A2 : Option Addr) (n2 c2 : Nat) (ws : List Wnt) (w : World) (hS : Sl 2 encSym w A1 n1 c1 ss) (hT : Sl 3 encWnt w A2 n2 c2 ws)
    (hs : ∀ x ∈ ss, x.1.size ≤ 140737488351232) (ht : ∀ x ∈ ws, x.2.2.size ≤ 140737488351232) (hn0 : n0 ≤ 512) (hn1 : n1 ≤ 16) (hn2 : n2 ≤ 16) :
    Calls Try.prog 58 #[.agg #[.slice A0 n0 c0, .slice A1 n1 c1, .slice A2 n2 c2]] w fun e w' => e = .returned (.bool (soundB n0 ss ws)) ∧ Q w w' := by
  have l1 := hS.len
  have l2 := hT.len
  have HS := hide hS
  have HT := hide hT
  have Hs := hide hs
  have Ht := hide ht
  have L1 := hide l1
  have L2 := hide l2
  have hn0i : (n0 : Int) ≤ 512 := by omega
  have hn1i : (n1 : Int) ≤ 16 := by omega
  have hn2i : (n2 : Int) ≤ 16 := by omega
  clear hS hT hs ht l1 l2
  obtain ⟨w1, hw1⟩ : ∃ w1, w.alloc (.cells #[.slice A0 n0 c0, .slice A1 n1 c1, .slice A2 n2 c2] 41) = w1 := ⟨_, rfl⟩
  have hq1 : Q w w1 := by rw [← hw1]; exact (Q.refl w).alloc _
  have hs1 : w.heap.size < w1.heap.size := by rw [← hw1]; simp
  have kb0 : w1.cell? ⟨w.heap.size, 0, none⟩ = some (.slice A0 n0 c0) := by rw [← hw1]; simp
  have kb2 : w1.cell? ⟨w.heap.size, 2, none⟩ = some (.slice A2 n2 c2) := by rw [← hw1]; simp
  have HW1 := hide hw1
  have KB0 := hide kb0
  have KB2 := hide kb2
  clear hw1 kb0 kb2
  go_enter Try.func58, Try.ntmps58
  go_wp2_with fail
  rw [HW1.out]
  go_loopw [10] (fun vi wr => ∃ k : Nat, k ≤ n1 ∧ vi = .int .i64 k ∧ (∀ j x, j < k → ss[j]? = some x → symOk n0 x = true) ∧ Q w1 wr) (fun vi _ => n1 - (intOf vi).toNat)
  case atStart => exact ⟨0, by omega, by go_num, fun j x hj => by omega, Q.refl _⟩
  case round =>
    obtain ⟨k, hk, rfl, hall, hq⟩ := hrel
    have HALL := hide hall
    clear hall
    have hsz := hq.size
    by_cases hlt : k < n1
    · have hd1 : decide ((k : Int) < (n1 : Int)) = true := by simp; omega
      have hd0 : decide (k < n1) = true := by simp; omega
      have hlti : (k : Int) < (n1 : Int) := by omega
      obtain ⟨b1, o1, nm, at_, rfl, hb1, g1, x1, x2⟩ := (HS.out.up (hq1.trans hq)).sym k hlt
      have hnm := Hs.out _ (List.mem_of_getElem? g1)
      dsimp only at hnm
      have G1 := hide g1
      have HQ := hide hq
      clear g1 hq
      go_wp2_with fail
      refine (isName_any nm _ hnm).mono ?_
      rintro e w3 ⟨rfl, hq3⟩
      have hq13 : Q wr w3 := ((Q.refl wr).alloc _).trans hq3
      have z2 : w3.cell? ⟨wr.heap.size, 1, none⟩ = some (.int .i64 at_) := by rw [hq3.facts.1 _ _ (by simp)]; simp
      have kb := ((HQ.out.trans hq13).facts.1 _ 0 hs1).trans KB0.out
      have hsz3 : wr.heap.size < w3.heap.size := by have := hq3.size; simp at this; omega
      have hwz3 : w.heap.size < w3.heap.size := by omega
      have hq03 := (hq1.trans HQ.out).trans hq13
      clear x1 x2
      cases hnb : nameB nm
      · have hf : soundB n0 ss ws = false := sound_sym G1.out (by simp [symOk, hnb])
        have HF := hide hf
        clear hf hnb
        go_wp2_with fail
        go_ret
        exact ⟨ret_bool HF.out.symm, hq03⟩
      · by_cases ha : at_ < 0
        · have da : decide (at_ < 0) = true := by simpa using ha
          have hf : soundB n0 ss ws = false := sound_sym G1.out (by simp [symOk]; intro _ _; omega)
          have HF := hide hf
          clear hf hnb ha
          go_wp2_with fail
          go_ret
          exact ⟨ret_bool HF.out.symm, hq03⟩
        · have da : decide (at_ < 0) = false := by simpa using ha
          by_cases hb : (n0 : Int) < at_
          · have db : decide ((n0 : Int) < at_) = true := by simpa using hb
            have hf : soundB n0 ss ws = false := sound_sym G1.out (by simp [symOk]; intro _ _; omega)
            have HF := hide hf
            clear hf hnb ha hb
            go_wp2_with fail
            go_ret
            exact ⟨ret_bool HF.out.symm, hq03⟩
          · have db : decide ((n0 : Int) < at_) = false := by simpa using hb
            have hok : symOk n0 (nm, at_) = true := by simp [symOk, hnb]; omega
            have HOK := hide hok
            have hqw := HQ.out.trans hq13
            clear hok hnb ha hb
            go_wp2_with fail
            go_roundw
            case rel => exact ⟨k + 1, by omega, by go_num, fun j x hj hx => by
              by_cases e : j = k
              · subst e
                rw [G1.out] at hx
                cases hx
                exact HOK.out
              · exact HALL.out j x (by omega) hx, hqw⟩
            case measure => simp [intOf] <;> omega
    · have hd1 : decide ((k : Int) < (n1 : Int)) = false := by simp; omega
      have hd0 : decide (k < n1) = false := by simp; omega
      have hsy := sound_syms (ws := ws) (n := n0) (fun j x hj hx => HALL.out j x (by have := L1.out; omega) hx)
      have HSY := hide hsy
      have kb2 := (hq.facts.1 _ 2 hs1).trans KB2.out
      obtain ⟨w2, rfl⟩ : ∃ w2 : World, w2 = wr := ⟨_, rfl⟩
      have hq02 := hq1.trans hq
      have HQ2 := hide hq
      have hs2 : w.heap.size < w2.heap.size := by omega
      clear hq hsy hlt hk HALL
      go_wp2_with fail
      clear hd1 hd0
      go_loopw [35] (fun vi wr => ∃ k : Nat, k ≤ n2 ∧ vi = .int .i64 k ∧ (∀ j x, j < k → ws[j]? = some x → wntOk n0 x = true) ∧ wantsOk n0 [] ws = wantsOk n0 (ws.take k) (ws.drop k) ∧ Q w2 wr) (fun vi _ => n2 - (intOf vi).toNat)
      case atStart => exact ⟨0, by omega, by go_num, fun j x hj => by omega, rfl, Q.refl _⟩
      case round =>
        obtain ⟨k, hk, rfl, hall, hw, hq⟩ := hrel
        have HALL := hide hall
        have HW := hide hw
        clear hall hw kb2
        have hsz := hq.size
        have kb0 := ((HQ2.out.trans hq).facts.1 _ 0 hs1).trans KB0.out
        have kb2 := ((HQ2.out.trans hq).facts.1 _ 2 hs1).trans KB2.out
        have hswr : w.heap.size < wr.heap.size := by omega
        by_cases hlt : k < n2
        · have hd1 : decide ((k : Int) < (n2 : Int)) = true := by simp; omega
          have hd0 : decide (k < n2) = true := by simp; omega
          have hlti : (k : Int) < (n2 : Int) := by omega
          have hT' := HT.out.up (hq02.trans hq)
          obtain ⟨b1, o1, at_, kd, nm, rfl, hb1, g1, x1, x2, x3⟩ := hT'.wnt k hlt
          have hnm := Ht.out _ (List.mem_of_getElem? g1)
          dsimp only at hnm
          have hkc : k ≤ c2 := by have := hT'.cap; omega
          have hkci : (k : Int) ≤ (c2 : Int) := by omega
          have hcm := hT'.most
          have hstep := wants_step (n := n0) g1
          have HST := hide hstep
          have G1 := hide g1
          have HQ := hide hq
          have HTK := hide (Sl.take (k := 3) (enc := encWnt) (fun _ => rfl) hT' k (by omega))
          clear g1 hq hstep hT'
          go_wp2_with fail
          refine (isName_any nm _ hnm).mono ?_
          rintro e w3 ⟨rfl, hq3⟩
          have hq13 : Q wr w3 := ((Q.refl wr).alloc _).trans hq3
          have z0 : w3.cell? ⟨wr.heap.size, 0, none⟩ = some (.int .i64 at_) := by rw [hq3.facts.1 _ _ (by simp)]; simp
          have z1 : w3.cell? ⟨wr.heap.size, 1, none⟩ = some (.int .i64 kd) := by rw [hq3.facts.1 _ _ (by simp)]; simp
          have kc0 := (hq13.facts.1 _ 0 hswr).trans kb0
          have kc2 := (hq13.facts.1 _ 2 hswr).trans kb2
          have hsz3 : wr.heap.size < w3.heap.size := by have := hq3.size; simp at this; omega
          have hwz3 : w.heap.size < w3.heap.size := by omega
          have hq03 := (hq02.trans HQ.out).trans hq13
          clear x1 x2 x3 kb0 kb2
          have hbad : wntOk n0 (at_, kd, nm) = false → soundB n0 ss ws = false := fun h => by
            rw [HSY.out, HW.out, HST.out, h]; rfl
          have HBAD := hide hbad
          clear hbad
          cases hnb : nameB nm
          · have HF := hide (HBAD.out (by simp [wntOk, hnb]))
            clear hnb
            go_wp2_with fail
            go_ret
            exact ⟨ret_bool HF.out.symm, hq03⟩
          · by_cases ha : at_ < 0
            · have da : decide (at_ < 0) = true := by simpa using ha
              have HF := hide (HBAD.out (by simp [wntOk]; intros; omega))
              clear hnb ha
              go_wp2_with fail
              go_ret
              exact ⟨ret_bool HF.out.symm, hq03⟩
            · have da : decide (at_ < 0) = false := by simpa using ha
              by_cases hb : (n0 : Int) - 4 < at_
              · have db : decide ((n0 : Int) - 4 < at_) = true := by simpa using hb
                have HF := hide (HBAD.out (by simp [wntOk]; intros; omega))
                clear hnb ha hb
                go_wp2_with fail
                go_ret
                exact ⟨ret_bool HF.out.symm, hq03⟩
              · have db : decide ((n0 : Int) - 4 < at_) = false := by simpa using hb
                by_cases hc : kd < 0
                · have dc : decide (kd < 0) = true := by simpa using hc
                  have HF := hide (HBAD.out (by simp [wntOk]; intros; omega))
                  clear hnb ha hb hc
                  go_wp2_with fail
                  go_ret
                  exact ⟨ret_bool HF.out.symm, hq03⟩
                · have dc : decide (kd < 0) = false := by simpa using hc
                  by_cases he : 1 < kd
                  · have de : decide (1 < kd) = true := by simpa using he
                    have HF := hide (HBAD.out (by simp [wntOk]; intros; omega))
                    clear hnb ha hb hc he
                    go_wp2_with fail
                    go_ret
                    exact ⟨ret_bool HF.out.symm, hq03⟩
                  · have de : decide (1 < kd) = false := by simpa using he
                    have hok : wntOk n0 (at_, kd, nm) = true := by simp [wntOk, hnb]; omega
                    have HOK := hide hok
                    have hb0 : 0 ≤ at_ := by omega
                    have hb1' : at_ ≤ 100000 := by omega
                    have HN := hide (has_near (fun y => near y (at_, kd, nm)) (.pointer (some ⟨wr.heap.size, 0, none⟩)) (some ⟨b1, o1, none⟩) k c2 (ws.take k) w3 (HTK.out.up hq13) (by omega) (fun at' kd' nm' hm W hqW => by
                      obtain ⟨j, hj, ej⟩ := List.getElem_of_mem hm
                      rw [List.length_take] at hj
                      have hjk : ws[j]? = some (at', kd', nm') := by rw [← ej, List.getElem_take]; exact List.getElem?_eq_getElem (by omega)
                      have hw := HALL.out j _ (by omega) hjk
                      simp [wntOk] at hw
                      exact nearC wr.heap.size (at', kd', nm') (at_, kd, nm) W (by have := hqW.size; omega) ((hqW.facts.1 _ _ hsz3).trans z0) (by dsimp only; omega) (by dsimp only; omega) (by dsimp only; omega) (by dsimp only; omega)))
                    clear hok hnb ha hb hc he
                    go_wp2_with fail
                    refine HN.out.mono ?_
                    rintro e w4 ⟨rfl, hq4⟩
                    have hq04 := hq03.trans hq4
                    have hqw2 := (HQ.out.trans hq13).trans hq4
                    cases hany : (ws.take k).any fun y => near y (at_, kd, nm)
                    · have hnx : wantsOk n0 [] ws = wantsOk n0 (ws.take (k + 1)) (ws.drop (k + 1)) := by rw [HW.out, HST.out, HOK.out, hany]; rfl
                      have HNX := hide hnx
                      clear hany hnx z0 z1 kc0 kc2
                      go_wp2_with fail
                      go_roundw
                      case rel => exact ⟨k + 1, by omega, by go_num, fun j x hj hx => by
                        by_cases e : j = k
                        · subst e
                          rw [G1.out] at hx
                          cases hx
                          exact HOK.out
                        · exact HALL.out j x (by omega) hx, HNX.out, hqw2⟩
                      case measure => simp [intOf] <;> omega
                    · have hf : soundB n0 ss ws = false := by rw [HSY.out, HW.out, HST.out, HOK.out, hany]; rfl
                      have HF := hide hf
                      clear hf hany z0 z1 kc0 kc2
                      go_wp2_with fail
                      go_ret
                      exact ⟨ret_bool HF.out.symm, hq04⟩
        · have hd1 : decide ((k : Int) < (n2 : Int)) = false := by simp; omega
          have hd0 : decide (k < n2) = false := by simp; omega
          obtain rfl : k = n2 := by omega
          have hf : soundB n0 ss ws = true := by rw [HSY.out, HW.out, List.drop_eq_nil_of_le (by have := L2.out; omega)]; rfl
          have HF := hide hf
          have hq0 := hq02.trans hq
          clear hf kb0 kb2 hq
          go_wp2_with fail
          go_ret
          exact ⟨ret_bool HF.out.symm, hq0⟩
end Go.Proofs.Ytjdioilkhbpmoaa
