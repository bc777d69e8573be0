/- The walks of the reference's hasSymbol, twice and listed. Conditions: the objects read as a list. -/
import Derived.Test.YtjdioilkhbpmoaaLinkJ
namespace Go.Proofs.Ytjdioilkhbpmoaa
open Go.RowKit LK
set_option linter.unusedVariables false
def inL (pre : List ByteArray) (x : ByteArray) : Bool := pre.any fun y => y.toList == x.toList
theorem dupB_pre (pre : List ByteArray) : ∀ (l q : List ByteArray), dupB (pre ++ q) l = (l.any (inL pre) || dupB q l)
  | [], q => by simp [dupB]
  | x :: r, q => by
    rw [dupB, dupB, List.append_assoc, dupB_pre pre r (q ++ [x]), List.any_append, List.any_cons]
    unfold inL
    cases pre.any (fun y => y.toList == x.toList) <;> cases q.any (fun y => y.toList == x.toList) <;> cases r.any (fun x => pre.any fun y => y.toList == x.toList) <;> simp
def symN (o : OV) : List ByteArray := o.2.1.xs.map (·.1)
def nmF (os : List OV) : List ByteArray := os.flatMap symN
theorem namesF_nm (os : List OV) : namesF os = nmF os := by
  have : ∀ (l : List OV) (k a : Nat), (tabF k a l).map (·.1) = nmF l := by
    intro l
    induction l with
    | nil => intro k a; rfl
    | cons o r ih =>
      intro k a
      rw [tabF, List.map_append, ih, List.map_map]
      rfl
  exact this os 0 0
theorem nmF_take {os : List OV} {i : Nat} {o : OV} (h : os[i]? = some o) : nmF (os.take (i + 1)) = nmF (os.take i) ++ symN o := by
  unfold nmF
  rw [List.take_add_one, h, List.flatMap_append]
  simp
theorem valid_nodup {o : OV} (h : o.valid = 0) : dupB [] (symN o) = false := by
  unfold OV.valid at h
  by_cases hb : 512 < o.1.n ∨ 16 < o.2.1.xs.length ∨ 16 < o.2.2.xs.length
  · rw [valid_big hb] at h; cases h
  · cases hs : soundB o.1.n o.2.1.xs o.2.2.xs
    · rw [valid_arg hb hs] at h; cases h
    · cases hd : dupB [] (o.2.1.xs.map (·.1))
      · exact hd
      · rw [valid_dup hb hs hd] at h; cases h
theorem nd_step {os : List OV} {i : Nat} {o : OV} (h : os[i]? = some o) (hv : o.valid = 0) (hd : dupB [] (nmF (os.take i)) = false) (hn : ∀ k p, k < i → os[k]? = some p → ∀ x ∈ symN o, inL (symN p) x = false) : dupB [] (nmF (os.take (i + 1))) = false := by
  rw [nmF_take h, dupB_append, hd, Bool.false_or, List.nil_append]
  have := dupB_pre (nmF (os.take i)) (symN o) []
  rw [List.append_nil] at this
  rw [this, valid_nodup hv, Bool.or_false, List.any_eq_false]
  intro x hx
  unfold inL nmF
  rw [Bool.not_eq_true, List.any_eq_false]
  intro y hy
  obtain ⟨p, hp, hyp⟩ := List.mem_flatMap.1 hy
  obtain ⟨k, hk, rfl⟩ := List.getElem_of_mem hp
  rw [List.length_take] at hk
  have h1 := hn k _ (by omega) (List.getElem?_eq_getElem (show k < os.length by omega)) x hx
  unfold inL at h1
  rw [List.any_eq_false] at h1
  rw [List.getElem_take] at hyp
  exact h1 y hyp
theorem nd_found {os : List OV} {i k : Nat} {o p : OV} (h : os[i]? = some o) (hk : k < i) (hp : os[k]? = some p) {x : ByteArray} (hx : x ∈ symN o) (hin : inL (symN p) x = true) : dupB [] (namesF os) = true := by
  rw [namesF_nm]
  have e : nmF os = nmF (os.take (i + 1)) ++ nmF (os.drop (i + 1)) := by
    unfold nmF
    rw [← List.flatMap_append, List.take_append_drop]
  rw [e, dupB_append, nmF_take h, dupB_append]
  have h1 := dupB_pre (nmF (os.take i)) (symN o) []
  rw [List.append_nil] at h1
  have h2 : (symN o).any (inL (nmF (os.take i))) = true := by
    rw [List.any_eq_true]
    refine ⟨x, hx, ?_⟩
    unfold inL at hin ⊢
    rw [List.any_eq_true] at hin ⊢
    obtain ⟨y, hy, he⟩ := hin
    refine ⟨y, List.mem_flatMap.2 ⟨p, List.mem_of_getElem? (i := k) ?_, hy⟩, he⟩
    rw [List.getElem?_take, if_pos hk]
    exact hp
  rw [List.nil_append, h1, h2]
  simp
theorem any_symN (o : OV) (s : ByteArray) : (o.2.1.xs.any fun y => y.1.toList == s.toList) = inL (symN o) s := by
  unfold inL symN
  rw [List.any_map]
  rfl
set_option maxHeartbeats 1000000 in
theorem hasSymbol_any (A0 : Option Addr) (n0 c0 : Nat) (A1 : Option Addr) (n1 c1 : Nat) (ss : List Sym) (v2 : Value) (s : ByteArray) (w : World) (hS : Sl 2 encSym w A1 n1 c1 ss) (hn : n1 ≤ 100000) :
    Calls Try.prog 51 #[.agg #[.slice A0 n0 c0, .slice A1 n1 c1, v2], .string s] w fun e w' => e = .returned (.bool (ss.any fun y => y.1.toList == s.toList)) ∧ Q w w' := by
  have hl := hS.len
  have HL := hide hl
  have HS := hide hS
  have hni : (n1 : Int) ≤ 100000 := by omega
  obtain ⟨w1, hw1⟩ : ∃ w1, w.alloc (.cells #[.slice A0 n0 c0, .slice A1 n1 c1, v2] 41) = w1 := ⟨_, rfl⟩
  have hq1 : Q w w1 := by rw [← hw1]; exact (Q.refl w).alloc _
  have hs1 : w.heap.size < w1.heap.size := by rw [← hw1]; simp
  have kb1 : w1.cell? ⟨w.heap.size, 1, none⟩ = some (.slice A1 n1 c1) := by rw [← hw1]; simp
  have KB1 := hide kb1
  have HW1 := hide hw1
  clear hS hl hw1 kb1
  go_enter Try.func51, Try.ntmps51
  go_wp2_with fail
  rw [HW1.out]
  go_loopw [5] (fun vi wr => ∃ k : Nat, k ≤ n1 ∧ vi = .int .i64 k ∧ (∀ j x, j < k → ss[j]? = some x → (x.1.toList == s.toList) = false) ∧ Q w1 wr) (fun vi _ => n1 - (intOf vi).toNat)
  case atStart => exact ⟨0, by omega, by go_num, fun j x hj => by omega, Q.refl _⟩
  case round =>
    obtain ⟨k, hk, rfl, hall, hq⟩ := hrel
    have HALL := hide hall
    have hsz := hq.size
    have k1 := (hq.facts.1 _ 1 hs1).trans KB1.out
    have hswr : w.heap.size < wr.heap.size := by omega
    have hq0 := hq1.trans hq
    clear hall
    by_cases hlt : k < n1
    · have hd1 : decide ((k : Int) < (n1 : Int)) = true := by simp; omega
      have hd0 : decide (k < n1) = true := by simp; omega
      have hlti : (k : Int) < (n1 : Int) := by omega
      obtain ⟨b1, o1, nm, at_, rfl, hb1, g1, x1, x2⟩ := (HS.out.up hq0).sym k hlt
      have G1 := hide g1
      clear g1
      cases he : nm.toList == s.toList
      · have HE := hide he
        go_wp2_with fail
        go_roundw
        case rel => exact ⟨k + 1, by omega, by go_num, fun j x hj hx => by
          by_cases e : j = k
          · subst e
            rw [G1.out] at hx
            cases hx
            exact HE.out
          · exact HALL.out j x (by omega) hx, hq⟩
        case measure => simp [intOf] <;> omega
      · have E := hide (show (ss.any fun y => y.1.toList == s.toList) = true from List.any_eq_true.2 ⟨_, List.mem_of_getElem? G1.out, he⟩)
        go_wp2_with fail
        go_ret
        exact ⟨ret_bool E.out.symm, hq0⟩
    · have hd1 : decide ((k : Int) < (n1 : Int)) = false := by simp; omega
      have hd0 : decide (k < n1) = false := by simp; omega
      have E := hide (show (ss.any fun y => y.1.toList == s.toList) = false by
        rw [List.any_eq_false]
        intro x hx
        obtain ⟨j, hj, rfl⟩ := List.getElem_of_mem hx
        rw [HALL.out j _ (by have := HL.out; omega) (List.getElem?_eq_getElem hj)]
        exact Bool.false_ne_true)
      go_wp2_with fail
      go_ret
      exact ⟨ret_bool E.out.symm, hq0⟩
set_option maxRecDepth 100000 in
set_option maxHeartbeats 4000000 in
theorem twice_any (A : Option Addr) (n c : Nat) (os : List OV) (w : World) (hO : ObsR w A n c os) (hn : n ≤ 8) (hv : ∀ o ∈ os, o.valid = 0) :
    Calls Try.prog 82 #[.slice A n c] w fun e w' => e = .returned (.bool (dupB [] (namesF os))) ∧ Q w w' := by
  have hl := hO.sl.len
  have HL := hide hl
  have HO := hide hO
  have HV := hide hv
  have hni : (n : Int) ≤ 8 := by omega
  clear hO hl hv
  go_enter Try.func82, Try.ntmps82
  go_wp2_with fail
  go_loopw [3] (fun vi wr => ∃ i : Nat, i ≤ n ∧ vi = .int .i64 i ∧ dupB [] (nmF (os.take i)) = false ∧ Q w wr) (fun vi _ => n - (intOf vi).toNat)
  case atStart => exact ⟨0, by omega, by go_num, rfl, Q.refl _⟩
  case round =>
    obtain ⟨i, hi, rfl, hd, hq⟩ := hrel
    obtain ⟨wo, rfl⟩ : ∃ wo : World, wo = wr := ⟨_, rfl⟩
    have HD := hide hd
    have HQ := hide hq
    have hsz := hq.size
    clear hd hq
    by_cases hlt : i < n
    · have hd1 : decide ((i : Int) < (n : Int)) = true := by simp; omega
      have hd0 : decide (i < n) = true := by simp; omega
      have hlti : (i : Int) < (n : Int) := by omega
      obtain ⟨bb, oo, ob, eA, hbb, g1, _, _, _, hob⟩ := (HO.out.up HQ.out).at_ i hlt
      obtain ⟨⟨A0, n0, c0, bs⟩, ⟨A1, n1, c1, ss⟩, ⟨A2, n2, c2, ws⟩⟩ := ob
      subst eA
      have hval := HV.out _ (List.mem_of_getElem? g1)
      have hvp := (valid_parts hob.s.len hval).2.1
      dsimp only at hvp
      have hn1i : (n1 : Int) ≤ 16 := by omega
      have hsl := hob.s.len
      dsimp only at hsl
      have G1 := hide g1
      have HVAL := hide hval
      have HSL := hide hsl
      clear g1 hval hob hsl
      go_wp2_with fail
      clear hd1 hd0
      go_loopw [4] (fun vi wr => ∃ k : Nat, k ≤ i ∧ vi = .int .i64 k ∧ (∀ j p, j < k → os[j]? = some p → ∀ x ∈ ss, inL (symN p) x.1 = false) ∧ Q wo wr) (fun vi _ => i - (intOf vi).toNat)
      case atStart => exact ⟨0, by omega, by go_num, fun j p hj => by omega, Q.refl _⟩
      case round =>
        obtain ⟨k, hk, rfl, hall, hq⟩ := hrel
        obtain ⟨wp, rfl⟩ : ∃ wp : World, wp = wr := ⟨_, rfl⟩
        have HALL := hide hall
        have HQ2 := hide hq
        have hsz2 := hq.size
        clear hall hq
        by_cases hki : k < i
        · have hd1 : decide ((k : Int) < (i : Int)) = true := by simp; omega
          have hd0 : decide (k < i) = true := by simp; omega
          have hkn : (k : Int) < (n : Int) := by omega
          obtain ⟨bb', oo', ob2, eA2, hbb2, g2, _, _, _, hob2⟩ := (HO.out.up (HQ.out.trans HQ2.out)).at_ k (by omega)
          cases eA2
          obtain ⟨⟨B0, m0, d0, bs'⟩, ⟨B1, m1, d1, ss'⟩, ⟨B2, m2, d2, ws'⟩⟩ := ob2
          have hm1 := (valid_parts hob2.s.len (HV.out _ (List.mem_of_getElem? g2))).2.1
          dsimp only at hm1
          have G2 := hide g2
          clear g2 hob2
          go_wp2_with fail
          clear hd1 hd0
          go_loopw [5] (fun vi wr => ∃ a : Nat, a ≤ n1 ∧ vi = .int .i64 a ∧ (∀ j x, j < a → ss[j]? = some x → inL (ss'.map (·.1)) x.1 = false) ∧ Q wp wr) (fun vi _ => n1 - (intOf vi).toNat)
          case atStart => exact ⟨0, by omega, by go_num, fun j x hj => by omega, Q.refl _⟩
          case round =>
            obtain ⟨a, ha, rfl, hna, hq⟩ := hrel
            have HNA := hide hna
            have hq3 := (HQ.out.trans HQ2.out).trans hq
            have hsz3 := hq.size
            clear hna
            obtain ⟨_, _, obi, eA3, _, gi, xi0, xi1, xi2, hobi⟩ := (HO.out.up hq3).at_ i hlt
            cases eA3
            rw [G1.out] at gi
            cases gi
            obtain ⟨_, _, obk, eA4, _, gk, xk0, xk1, xk2, hobk⟩ := (HO.out.up hq3).at_ k (by omega)
            cases eA4
            rw [G2.out] at gk
            cases gk
            dsimp only at xi0 xi1 xi2 xk0 xk1 xk2
            have hbw : bb < wr.heap.size := by have := hq3.size; have := HQ.out.size; have := HQ2.out.size; omega
            by_cases han : a < n1
            · have hd1 : decide ((a : Int) < (n1 : Int)) = true := by simp; omega
              have hd0 : decide (a < n1) = true := by simp; omega
              have han2 : (a : Int) < (n1 : Int) := by omega
              obtain ⟨b4, o4, nm, at_, e4, hb4, g4, y1, y2⟩ := hobi.s.sym a han
              dsimp only at e4 y1 y2 g4
              subst e4
              have G4 := hide g4
              have HH := hide (fun W (hQ : Q wr W) => hasSymbol_any B0 m0 d0 B1 m1 d1 ss' (.slice B2 m2 d2) nm W (hobk.s.up hQ) (by omega))
              have has : (ss'.any fun y => y.1.toList == nm.toList) = inL (ss'.map (·.1)) nm := by unfold inL; rw [List.any_map]; rfl
              obtain ⟨hb, hhb⟩ : ∃ hb, (ss'.any fun y => y.1.toList == nm.toList) = hb := ⟨_, rfl⟩
              rw [hhb] at HH has
              have HAS := hide has
              have HQ3 := hide hq3
              have HQA := hide hq
              clear hobi hobk g4 has hhb hq3 hq
              cases hb
              · go_wp2_with fail
                have hxc := ext_cell
                refine wp_region_ext (by kernel_rfl) (by kernel_rfl) ?_
                repeat (go_big_quiet_step (((go_at_call 51; exact ext_call (HH.out _ (q_ext _ _))))))
                clear hxc
                refine wpQuiet_nil ?_
                intro wz hwwz
                have hqwz := q_of_ext hwwz
                clear hwwz
                obtain ⟨hcwz, hfwz, hzwz⟩ := hqwz.facts
                try simp at hzwz
                try have hs0wz : w.heap.size < wz.heap.size := by omega
                try have hs1wz : w.heap.size + 1 < wz.heap.size := by omega
                clear hcwz hfwz xi0 xi1 xi2 xk0 xk1 xk2 y1 y2
                go_wp2_with fail
                go_roundw
                case rel => exact ⟨a + 1, by omega, by go_num, fun j x hj hx => by
                  by_cases e : j = a
                  · subst e
                    rw [G4.out] at hx
                    cases hx
                    exact HAS.out.symm
                  · exact HNA.out j x (by omega) hx, HQA.out.trans hqwz⟩
                case measure => simp [intOf] <;> omega
              · have E := hide (nd_found G1.out hki G2.out (x := nm) (List.mem_map.2 ⟨_, List.mem_of_getElem? G4.out, rfl⟩) HAS.out.symm)
                go_wp2_with fail
                have hxc := ext_cell
                refine wp_region_ext (by kernel_rfl) (by kernel_rfl) ?_
                repeat (go_big_quiet_step (((go_at_call 51; exact ext_call (HH.out _ (q_ext _ _))))))
                clear hxc
                refine wpQuiet_nil ?_
                intro wz hwwz
                have hqwz := q_of_ext hwwz
                clear hwwz
                obtain ⟨hcwz, hfwz, hzwz⟩ := hqwz.facts
                try simp at hzwz
                try have hs0wz : w.heap.size < wz.heap.size := by omega
                try have hs1wz : w.heap.size + 1 < wz.heap.size := by omega
                clear hcwz hfwz xi0 xi1 xi2 xk0 xk1 xk2 y1 y2
                go_wp2_with fail
                go_ret
                exact ⟨ret_bool E.out.symm, HQ3.out.trans hqwz⟩
            · have hd1 : decide ((a : Int) < (n1 : Int)) = false := by simp; omega
              have hd0 : decide (a < n1) = false := by simp; omega
              have hqn := HQ2.out.trans hq
              clear hobi hobk hq3 hq
              go_wp2_with fail
              go_roundw
              case rel => exact ⟨k + 1, by omega, by go_num, fun j p hj hp => by
                by_cases e : j = k
                · subst e
                  rw [G2.out] at hp
                  cases hp
                  intro x hx
                  obtain ⟨q, hq', rfl⟩ := List.getElem_of_mem hx
                  exact HNA.out q _ (by have := HSL.out; omega) (List.getElem?_eq_getElem hq')
                · exact HALL.out j p (by omega) hp, hqn⟩
              case measure => simp [intOf] <;> omega
        · have hd1 : decide ((k : Int) < (i : Int)) = false := by simp; omega
          have hd0 : decide (k < i) = false := by simp; omega
          obtain rfl : k = i := by omega
          have ND := hide (nd_step G1.out HVAL.out HD.out (fun j p hj hp x hx => by
            obtain ⟨y, hy, rfl⟩ := List.mem_map.1 hx
            exact HALL.out j p hj hp y hy))
          have hqn := HQ.out.trans HQ2.out
          go_wp2_with fail
          go_roundw
          case rel => exact ⟨k + 1, by omega, by go_num, ND.out, hqn⟩
          case measure => simp [intOf] <;> omega
    · have hd1 : decide ((i : Int) < (n : Int)) = false := by simp; omega
      have hd0 : decide (i < n) = false := by simp; omega
      have E := hide (show dupB [] (namesF os) = false by rw [namesF_nm]; have := HD.out; rwa [List.take_of_length_le (by have := HL.out; omega)] at this)
      have hqn := HQ.out
      go_wp2_with fail
      go_ret
      exact ⟨ret_bool E.out.symm, hqn⟩
set_option maxHeartbeats 2000000 in
theorem rlisted_any (A : Option Addr) (n c : Nat) (os : List OV) (w : World) (hO : ObsR w A n c os) :
    Calls Try.prog 46 #[.slice A n c] w fun e w' => e = .returned (.int .i64 (listedO os : Nat)) ∧ Q w w' := by
  have hl := hO.sl.len
  by_cases hb : 8 < n
  · have d0 : decide ((8 : Int) < (n : Int)) = true := by simp; omega
    have E := hide (listed_big (os := os) (by omega))
    clear hO hl
    go_enter Try.func46, Try.ntmps46
    go_wp2_with fail
    go_ret
    exact ⟨by rw [E.out]; rfl, Q.refl _⟩
  have d0 : decide ((8 : Int) < (n : Int)) = false := by simp; omega
  have hnb : ¬ 8 < os.length := by omega
  have HNB := hide hnb
  have HO := hide hO
  have HL := hide hl
  have hni : (n : Int) ≤ 8 := by omega
  clear hO hl hnb
  go_enter Try.func46, Try.ntmps46
  go_wp2_with fail
  clear d0
  go_loopw [3] (fun vi wr => ∃ k : Nat, k ≤ n ∧ vi = .int .i64 k ∧ (∀ j o, j < k → os[j]? = some o → o.valid = 0) ∧ Q w wr) (fun vi _ => n - (intOf vi).toNat)
  case atStart => exact ⟨0, by omega, by go_num, fun j o hj => by omega, Q.refl _⟩
  case round =>
    obtain ⟨k, hk, rfl, hall, hq⟩ := hrel
    have HALL := hide hall
    have hsz := hq.size
    clear hall
    by_cases hlt : k < n
    · have hd1 : decide ((k : Int) < (n : Int)) = true := by simp; omega
      have hd0 : decide (k < n) = true := by simp; omega
      have hlti : (k : Int) < (n : Int) := by omega
      obtain ⟨b1, o1, ob, rfl, hbb, g1, x1, x2, x3, hob⟩ := (HO.out.up hq).at_ k hlt
      obtain ⟨⟨A0, n0, c0, bs⟩, ⟨A1, n1, c1, ss⟩, ⟨A2, n2, c2, ws⟩⟩ := ob
      dsimp only at x1 x2 x3
      have HV := hide (rValidate_any A0 n0 c0 A1 n1 c1 ss A2 n2 c2 ws _ hob.s hob.t hob.sok hob.tok)
      have hvr : OV.valid (⟨A0, n0, c0, bs⟩, ⟨A1, n1, c1, ss⟩, ⟨A2, n2, c2, ws⟩) = validF n0 ss ws := rfl
      have hvle := valid_le (⟨A0, n0, c0, bs⟩, ⟨A1, n1, c1, ss⟩, ⟨A2, n2, c2, ws⟩)
      rw [hvr] at hvle
      obtain ⟨ve, hve⟩ : ∃ ve, validF n0 ss ws = ve := ⟨_, rfl⟩
      rw [hve] at HV hvr hvle
      have G1 := hide g1
      have HVR := hide hvr
      clear hob g1 hve hvr
      go_wp2_with fail
      refine HV.out.mono ?_
      rintro e w3 ⟨rfl, hq3⟩
      have hq03 := hq.trans hq3
      by_cases hz : ve = 0
      · subst hz
        clear x1 x2 x3 hq3
        go_wp2_with fail
        go_roundw
        case rel => exact ⟨k + 1, by omega, by go_num, fun j o hj ho => by
          by_cases e : j = k
          · subst e
            rw [G1.out] at ho
            cases ho
            exact HVR.out
          · exact HALL.out j o (by omega) ho, hq03⟩
        case measure => simp [intOf] <;> omega
      · have dz : ((ve : Int) != 0) = true := by simp; omega
        have hfe := firstErr_at os k _ G1.out (by rw [HVR.out]; exact hz) HALL.out
        rw [HVR.out] at hfe
        have E := hide (listed_err HNB.out hfe hz)
        clear hfe hz x1 x2 x3 hq3
        go_wp2_with fail
        go_ret
        exact ⟨by rw [E.out]; rfl, hq03⟩
    · have hd1 : decide ((k : Int) < (n : Int)) = false := by simp; omega
      have hd0 : decide (k < n) = false := by simp; omega
      obtain rfl : k = n := by omega
      have hval : ∀ o ∈ os, o.valid = 0 := fun o ho => by
        obtain ⟨j, hj, rfl⟩ := List.getElem_of_mem ho
        exact HALL.out j _ (by have := HL.out; omega) (List.getElem?_eq_getElem hj)
      have HFE := hide (firstErr_none os hval)
      have HT := hide (twice_any A k c os wr (HO.out.up hq) (by omega) hval)
      obtain ⟨db, hdb⟩ : ∃ db, dupB [] (namesF os) = db := ⟨_, rfl⟩
      rw [hdb] at HT
      have HDB := hide hdb
      clear hval hdb
      go_wp2_with fail
      refine HT.out.mono ?_
      rintro e w5 ⟨rfl, hq5⟩
      have hq05 := hq.trans hq5
      cases db
      · have E := hide (listed_ok HNB.out HFE.out HDB.out)
        go_wp2_with fail
        go_ret
        exact ⟨by rw [E.out]; rfl, hq05⟩
      · have E := hide (listed_dup HNB.out HFE.out HDB.out)
        go_wp2_with fail
        go_ret
        exact ⟨by rw [E.out]; rfl, hq05⟩
end Go.Proofs.Ytjdioilkhbpmoaa
