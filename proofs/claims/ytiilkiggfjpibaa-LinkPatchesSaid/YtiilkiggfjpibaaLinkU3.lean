/- The walks of the reference's hasSymbol, twice and listed. The walks of the reference's Room, starts, address, Starts, Find, Users, SameInts. The walks of the reference's address, Starts, Find and Users. The walk of 'known'. Conditions: as each theorem says. -/
import Derived.Test.YtiilkiggfjpibaaLinkU2
import Derived.Test.YtiilkiggfjpibaaBase
import Derived.Deep.RegionWith
import Derived.Deep.DeepCutAuto
import Derived.BigRegion
namespace Go.Proofs.Ytiilkiggfjpibaa
open Go.RowKit LK
set_option linter.unusedVariables false
set_option linter.unusedSimpArgs false
def inL (pre : List ByteArray) (x : ByteArray) : Bool := pre.any fun y => y.toList == x.toList
theorem dupB_pre (pre : List ByteArray) : ∀ (l q : List ByteArray), dupB (pre ++ q) l = (l.any (inL pre) || dupB q l)
  | [], q => by simp [dupB]
  | x :: r, q => by
    rw [dupB, dupB, List.append_assoc, dupB_pre pre r (q ++ [x]), List.any_append, List.any_cons]
    unfold inL
    cases pre.any (fun y => y.toList == x.toList) <;> cases q.any (fun y => y.toList == x.toList) <;> cases r.any (fun x => pre.any fun y => y.toList == x.toList) <;> simp
def symN (o : OV) : List ByteArray := o.2.1.xs.map (·.1)
def nmF (os : List OV) : List ByteArray := os.flatMap symN
theorem namesF_nm (os : List OV) : namesF os = nmF os := by
  have : ∀ (l : List OV) (k a : Nat), (tabF k a l).map (·.1) = nmF l := by
    intro l
    induction l with
    | nil => intro k a; rfl
    | cons o r ih =>
      intro k a
      rw [tabF, List.map_append, ih, List.map_map]
      rfl
  exact this os 0 0
theorem nmF_take {os : List OV} {i : Nat} {o : OV} (h : os[i]? = some o) : nmF (os.take (i + 1)) = nmF (os.take i) ++ symN o := by
  unfold nmF
  rw [List.take_add_one, h, List.flatMap_append]
  simp
theorem valid_nodup {o : OV} (h : o.valid = 0) : dupB [] (symN o) = false := by
  unfold OV.valid at h
  by_cases hb : 512 < o.1.n ∨ 16 < o.2.1.xs.length ∨ 16 < o.2.2.xs.length
  · rw [valid_big hb] at h; cases h
  · cases hs : soundB o.1.n o.2.1.xs o.2.2.xs
    · rw [valid_arg hb hs] at h; cases h
    · cases hd : dupB [] (o.2.1.xs.map (·.1))
      · exact hd
      · rw [valid_dup hb hs hd] at h; cases h
theorem nd_step {os : List OV} {i : Nat} {o : OV} (h : os[i]? = some o) (hv : o.valid = 0) (hd : dupB [] (nmF (os.take i)) = false) (hn : ∀ k p, k < i → os[k]? = some p → ∀ x ∈ symN o, inL (symN p) x = false) : dupB [] (nmF (os.take (i + 1))) = false := by
  rw [nmF_take h, dupB_append, hd, Bool.false_or, List.nil_append]
  have := dupB_pre (nmF (os.take i)) (symN o) []
  rw [List.append_nil] at this
  rw [this, valid_nodup hv, Bool.or_false, List.any_eq_false]
  intro x hx
  unfold inL nmF
  rw [Bool.not_eq_true, List.any_eq_false]
  intro y hy
  obtain ⟨p, hp, hyp⟩ := List.mem_flatMap.1 hy
  obtain ⟨k, hk, rfl⟩ := List.getElem_of_mem hp
  rw [List.length_take] at hk
  have h1 := hn k _ (by omega) (List.getElem?_eq_getElem (show k < os.length by omega)) x hx
  unfold inL at h1
  rw [List.any_eq_false] at h1
  rw [List.getElem_take] at hyp
  exact h1 y hyp
theorem nd_found {os : List OV} {i k : Nat} {o p : OV} (h : os[i]? = some o) (hk : k < i) (hp : os[k]? = some p) {x : ByteArray} (hx : x ∈ symN o) (hin : inL (symN p) x = true) : dupB [] (namesF os) = true := by
  rw [namesF_nm]
  have e : nmF os = nmF (os.take (i + 1)) ++ nmF (os.drop (i + 1)) := by
    unfold nmF
    rw [← List.flatMap_append, List.take_append_drop]
  rw [e, dupB_append, nmF_take h, dupB_append]
  have h1 := dupB_pre (nmF (os.take i)) (symN o) []
  rw [List.append_nil] at h1
  have h2 : (symN o).any (inL (nmF (os.take i))) = true := by
    rw [List.any_eq_true]
    refine ⟨x, hx, ?_⟩
    unfold inL at hin ⊢
    rw [List.any_eq_true] at hin ⊢
    obtain ⟨y, hy, he⟩ := hin
    refine ⟨y, List.mem_flatMap.2 ⟨p, List.mem_of_getElem? (i := k) ?_, hy⟩, he⟩
    rw [List.getElem?_take, if_pos hk]
    exact hp
  rw [List.nil_append, h1, h2]
  simp
theorem any_symN (o : OV) (s : ByteArray) : (o.2.1.xs.any fun y => y.1.toList == s.toList) = inL (symN o) s := by
  unfold inL symN
  rw [List.any_map]
  rfl
set_option maxHeartbeats 1000000 in
theorem hasSymbol_any (A0 : Option Addr) (n0 c0 : Nat) (A1 : Option Addr) (n1 c1 : Nat) (ss : List Sym) (v2 : Value) (s : ByteArray) (w : World) (hS : Sl 2 encSym w A1 n1 c1 ss) (hn : n1 ≤ 100000) :
    Calls Try.prog 66 #[.agg #[.slice A0 n0 c0, .slice A1 n1 c1, v2], .string s] w fun e w' => e = .returned (.bool (ss.any fun y => y.1.toList == s.toList)) ∧ Q w w' := by
  have hl := hS.len
  have HL := hide hl
  have HS := hide hS
  have hni : (n1 : Int) ≤ 100000 := by omega
  obtain ⟨w1, hw1⟩ : ∃ w1, w.alloc (.cells #[.slice A0 n0 c0, .slice A1 n1 c1, v2] 34) = w1 := ⟨_, rfl⟩
  have hq1 : Q w w1 := by rw [← hw1]; exact (Q.refl w).alloc _
  have hs1 : w.heap.size < w1.heap.size := by rw [← hw1]; simp
  have kb1 : w1.cell? ⟨w.heap.size, 1, none⟩ = some (.slice A1 n1 c1) := by rw [← hw1]; simp
  have KB1 := hide kb1
  have HW1 := hide hw1
  clear hS hl hw1 kb1
  go_enter Try.func66, Try.ntmps66
  go_wp2_with fail
  rw [HW1.out]
  go_loopw [5] (fun vi wr => ∃ k : Nat, k ≤ n1 ∧ vi = .int .i64 k ∧ (∀ j x, j < k → ss[j]? = some x → (x.1.toList == s.toList) = false) ∧ Q w1 wr) (fun vi _ => n1 - (intOf vi).toNat)
  case atStart => exact ⟨0, by omega, by go_num, fun j x hj => by omega, Q.refl _⟩
  case round =>
    obtain ⟨k, hk, rfl, hall, hq⟩ := hrel
    have HALL := hide hall
    have hsz := hq.size
    have k1 := (hq.facts.1 _ 1 hs1).trans KB1.out
    have hswr : w.heap.size < wr.heap.size := by omega
    have hq0 := hq1.trans hq
    clear hall
    by_cases hlt : k < n1
    · have hd1 : decide ((k : Int) < (n1 : Int)) = true := by simp; omega
      have hd0 : decide (k < n1) = true := by simp; omega
      have hlti : (k : Int) < (n1 : Int) := by omega
      obtain ⟨b1, o1, nm, at_, rfl, hb1, g1, x1, x2⟩ := (HS.out.up hq0).sym k hlt
      have G1 := hide g1
      clear g1
      cases he : nm.toList == s.toList
      · have HE := hide he
        go_wp2_with fail
        go_roundw
        case rel => exact ⟨k + 1, by omega, by go_num, fun j x hj hx => by
          by_cases e : j = k
          · subst e
            rw [G1.out] at hx
            cases hx
            exact HE.out
          · exact HALL.out j x (by omega) hx, hq⟩
        case measure => simp [intOf] <;> omega
      · have E := hide (show (ss.any fun y => y.1.toList == s.toList) = true from List.any_eq_true.2 ⟨_, List.mem_of_getElem? G1.out, he⟩)
        go_wp2_with fail
        go_ret
        exact ⟨ret_bool E.out.symm, hq0⟩
    · have hd1 : decide ((k : Int) < (n1 : Int)) = false := by simp; omega
      have hd0 : decide (k < n1) = false := by simp; omega
      have E := hide (show (ss.any fun y => y.1.toList == s.toList) = false by
        rw [List.any_eq_false]
        intro x hx
        obtain ⟨j, hj, rfl⟩ := List.getElem_of_mem hx
        rw [HALL.out j _ (by have := HL.out; omega) (List.getElem?_eq_getElem hj)]
        exact Bool.false_ne_true)
      go_wp2_with fail
      go_ret
      exact ⟨ret_bool E.out.symm, hq0⟩
set_option maxRecDepth 100000 in
set_option maxHeartbeats 4000000 in
theorem twice_any (A : Option Addr) (n c : Nat) (os : List OV) (w : World) (hO : ObsR w A n c os) (hn : n ≤ 8) (hv : ∀ o ∈ os, o.valid = 0) :
    Calls Try.prog 90 #[.slice A n c] w fun e w' => e = .returned (.bool (dupB [] (namesF os))) ∧ Q w w' := by
  have hl := hO.sl.len
  have HL := hide hl
  have HO := hide hO
  have HV := hide hv
  have hni : (n : Int) ≤ 8 := by omega
  clear hO hl hv
  go_enter Try.func90, Try.ntmps90
  go_wp2_with fail
  go_loopw [3] (fun vi wr => ∃ i : Nat, i ≤ n ∧ vi = .int .i64 i ∧ dupB [] (nmF (os.take i)) = false ∧ Q w wr) (fun vi _ => n - (intOf vi).toNat)
  case atStart => exact ⟨0, by omega, by go_num, rfl, Q.refl _⟩
  case round =>
    obtain ⟨i, hi, rfl, hd, hq⟩ := hrel
    obtain ⟨wo, rfl⟩ : ∃ wo : World, wo = wr := ⟨_, rfl⟩
    have HD := hide hd
    have HQ := hide hq
    have hsz := hq.size
    clear hd hq
    by_cases hlt : i < n
    · have hd1 : decide ((i : Int) < (n : Int)) = true := by simp; omega
      have hd0 : decide (i < n) = true := by simp; omega
      have hlti : (i : Int) < (n : Int) := by omega
      obtain ⟨bb, oo, ob, eA, hbb, g1, _, _, _, hob⟩ := (HO.out.up HQ.out).at_ i hlt
      obtain ⟨⟨A0, n0, c0, bs⟩, ⟨A1, n1, c1, ss⟩, ⟨A2, n2, c2, ws⟩⟩ := ob
      subst eA
      have hval := HV.out _ (List.mem_of_getElem? g1)
      have hvp := (valid_parts hob.s.len hval).2.1
      dsimp only at hvp
      have hn1i : (n1 : Int) ≤ 16 := by omega
      have hsl := hob.s.len
      dsimp only at hsl
      have G1 := hide g1
      have HVAL := hide hval
      have HSL := hide hsl
      clear g1 hval hob hsl
      go_wp2_with fail
      clear hd1 hd0
      go_loopw [4] (fun vi wr => ∃ k : Nat, k ≤ i ∧ vi = .int .i64 k ∧ (∀ j p, j < k → os[j]? = some p → ∀ x ∈ ss, inL (symN p) x.1 = false) ∧ Q wo wr) (fun vi _ => i - (intOf vi).toNat)
      case atStart => exact ⟨0, by omega, by go_num, fun j p hj => by omega, Q.refl _⟩
      case round =>
        obtain ⟨k, hk, rfl, hall, hq⟩ := hrel
        obtain ⟨wp, rfl⟩ : ∃ wp : World, wp = wr := ⟨_, rfl⟩
        have HALL := hide hall
        have HQ2 := hide hq
        have hsz2 := hq.size
        clear hall hq
        by_cases hki : k < i
        · have hd1 : decide ((k : Int) < (i : Int)) = true := by simp; omega
          have hd0 : decide (k < i) = true := by simp; omega
          have hkn : (k : Int) < (n : Int) := by omega
          obtain ⟨bb', oo', ob2, eA2, hbb2, g2, _, _, _, hob2⟩ := (HO.out.up (HQ.out.trans HQ2.out)).at_ k (by omega)
          cases eA2
          obtain ⟨⟨B0, m0, d0, bs'⟩, ⟨B1, m1, d1, ss'⟩, ⟨B2, m2, d2, ws'⟩⟩ := ob2
          have hm1 := (valid_parts hob2.s.len (HV.out _ (List.mem_of_getElem? g2))).2.1
          dsimp only at hm1
          have G2 := hide g2
          clear g2 hob2
          go_wp2_with fail
          clear hd1 hd0
          go_loopw [5] (fun vi wr => ∃ a : Nat, a ≤ n1 ∧ vi = .int .i64 a ∧ (∀ j x, j < a → ss[j]? = some x → inL (ss'.map (·.1)) x.1 = false) ∧ Q wp wr) (fun vi _ => n1 - (intOf vi).toNat)
          case atStart => exact ⟨0, by omega, by go_num, fun j x hj => by omega, Q.refl _⟩
          case round =>
            obtain ⟨a, ha, rfl, hna, hq⟩ := hrel
            have HNA := hide hna
            have hq3 := (HQ.out.trans HQ2.out).trans hq
            have hsz3 := hq.size
            clear hna
            obtain ⟨_, _, obi, eA3, _, gi, xi0, xi1, xi2, hobi⟩ := (HO.out.up hq3).at_ i hlt
            cases eA3
            rw [G1.out] at gi
            cases gi
            obtain ⟨_, _, obk, eA4, _, gk, xk0, xk1, xk2, hobk⟩ := (HO.out.up hq3).at_ k (by omega)
            cases eA4
            rw [G2.out] at gk
            cases gk
            dsimp only at xi0 xi1 xi2 xk0 xk1 xk2
            have hbw : bb < wr.heap.size := by have := hq3.size; have := HQ.out.size; have := HQ2.out.size; omega
            by_cases han : a < n1
            · have hd1 : decide ((a : Int) < (n1 : Int)) = true := by simp; omega
              have hd0 : decide (a < n1) = true := by simp; omega
              have han2 : (a : Int) < (n1 : Int) := by omega
              obtain ⟨b4, o4, nm, at_, e4, hb4, g4, y1, y2⟩ := hobi.s.sym a han
              dsimp only at e4 y1 y2 g4
              subst e4
              have G4 := hide g4
              have HH := hide (fun W (hQ : Q wr W) => hasSymbol_any B0 m0 d0 B1 m1 d1 ss' (.slice B2 m2 d2) nm W (hobk.s.up hQ) (by omega))
              have has : (ss'.any fun y => y.1.toList == nm.toList) = inL (ss'.map (·.1)) nm := by unfold inL; rw [List.any_map]; rfl
              obtain ⟨hb, hhb⟩ : ∃ hb, (ss'.any fun y => y.1.toList == nm.toList) = hb := ⟨_, rfl⟩
              rw [hhb] at HH has
              have HAS := hide has
              have HQ3 := hide hq3
              have HQA := hide hq
              clear hobi hobk g4 has hhb hq3 hq
              cases hb
              · go_wp2_with fail
                have hxc := ext_cell
                refine wp_region_ext (by kernel_rfl) (by kernel_rfl) ?_
                repeat (go_big_quiet_step (((go_at_call 66; exact ext_call (HH.out _ (q_ext _ _))))))
                clear hxc
                refine wpQuiet_nil ?_
                intro wz hwwz
                have hqwz := q_of_ext hwwz
                clear hwwz
                obtain ⟨hcwz, hfwz, hzwz⟩ := hqwz.facts
                try simp at hzwz
                try have hs0wz : w.heap.size < wz.heap.size := by omega
                try have hs1wz : w.heap.size + 1 < wz.heap.size := by omega
                clear hcwz hfwz xi0 xi1 xi2 xk0 xk1 xk2 y1 y2
                go_wp2_with fail
                go_roundw
                case rel => exact ⟨a + 1, by omega, by go_num, fun j x hj hx => by
                  by_cases e : j = a
                  · subst e
                    rw [G4.out] at hx
                    cases hx
                    exact HAS.out.symm
                  · exact HNA.out j x (by omega) hx, HQA.out.trans hqwz⟩
                case measure => simp [intOf] <;> omega
              · have E := hide (nd_found G1.out hki G2.out (x := nm) (List.mem_map.2 ⟨_, List.mem_of_getElem? G4.out, rfl⟩) HAS.out.symm)
                go_wp2_with fail
                have hxc := ext_cell
                refine wp_region_ext (by kernel_rfl) (by kernel_rfl) ?_
                repeat (go_big_quiet_step (((go_at_call 66; exact ext_call (HH.out _ (q_ext _ _))))))
                clear hxc
                refine wpQuiet_nil ?_
                intro wz hwwz
                have hqwz := q_of_ext hwwz
                clear hwwz
                obtain ⟨hcwz, hfwz, hzwz⟩ := hqwz.facts
                try simp at hzwz
                try have hs0wz : w.heap.size < wz.heap.size := by omega
                try have hs1wz : w.heap.size + 1 < wz.heap.size := by omega
                clear hcwz hfwz xi0 xi1 xi2 xk0 xk1 xk2 y1 y2
                go_wp2_with fail
                go_ret
                exact ⟨ret_bool E.out.symm, HQ3.out.trans hqwz⟩
            · have hd1 : decide ((a : Int) < (n1 : Int)) = false := by simp; omega
              have hd0 : decide (a < n1) = false := by simp; omega
              have hqn := HQ2.out.trans hq
              clear hobi hobk hq3 hq
              go_wp2_with fail
              go_roundw
              case rel => exact ⟨k + 1, by omega, by go_num, fun j p hj hp => by
                by_cases e : j = k
                · subst e
                  rw [G2.out] at hp
                  cases hp
                  intro x hx
                  obtain ⟨q, hq', rfl⟩ := List.getElem_of_mem hx
                  exact HNA.out q _ (by have := HSL.out; omega) (List.getElem?_eq_getElem hq')
                · exact HALL.out j p (by omega) hp, hqn⟩
              case measure => simp [intOf] <;> omega
        · have hd1 : decide ((k : Int) < (i : Int)) = false := by simp; omega
          have hd0 : decide (k < i) = false := by simp; omega
          obtain rfl : k = i := by omega
          have ND := hide (nd_step G1.out HVAL.out HD.out (fun j p hj hp x hx => by
            obtain ⟨y, hy, rfl⟩ := List.mem_map.1 hx
            exact HALL.out j p hj hp y hy))
          have hqn := HQ.out.trans HQ2.out
          go_wp2_with fail
          go_roundw
          case rel => exact ⟨k + 1, by omega, by go_num, ND.out, hqn⟩
          case measure => simp [intOf] <;> omega
    · have hd1 : decide ((i : Int) < (n : Int)) = false := by simp; omega
      have hd0 : decide (i < n) = false := by simp; omega
      have E := hide (show dupB [] (namesF os) = false by rw [namesF_nm]; have := HD.out; rwa [List.take_of_length_le (by have := HL.out; omega)] at this)
      have hqn := HQ.out
      go_wp2_with fail
      go_ret
      exact ⟨ret_bool E.out.symm, hqn⟩
set_option maxHeartbeats 2000000 in
theorem rlisted_any (A : Option Addr) (n c : Nat) (os : List OV) (w : World) (hO : ObsR w A n c os) :
    Calls Try.prog 61 #[.slice A n c] w fun e w' => e = .returned (.int .i64 (listedO os : Nat)) ∧ Q w w' := by
  have hl := hO.sl.len
  by_cases hb : 8 < n
  · have d0 : decide ((8 : Int) < (n : Int)) = true := by simp; omega
    have E := hide (listed_big (os := os) (by omega))
    clear hO hl
    go_enter Try.func61, Try.ntmps61
    go_wp2_with fail
    go_ret
    exact ⟨by rw [E.out]; rfl, Q.refl _⟩
  have d0 : decide ((8 : Int) < (n : Int)) = false := by simp; omega
  have hnb : ¬ 8 < os.length := by omega
  have HNB := hide hnb
  have HO := hide hO
  have HL := hide hl
  have hni : (n : Int) ≤ 8 := by omega
  clear hO hl hnb
  go_enter Try.func61, Try.ntmps61
  go_wp2_with fail
  clear d0
  go_loopw [3] (fun vi wr => ∃ k : Nat, k ≤ n ∧ vi = .int .i64 k ∧ (∀ j o, j < k → os[j]? = some o → o.valid = 0) ∧ Q w wr) (fun vi _ => n - (intOf vi).toNat)
  case atStart => exact ⟨0, by omega, by go_num, fun j o hj => by omega, Q.refl _⟩
  case round =>
    obtain ⟨k, hk, rfl, hall, hq⟩ := hrel
    have HALL := hide hall
    have hsz := hq.size
    clear hall
    by_cases hlt : k < n
    · have hd1 : decide ((k : Int) < (n : Int)) = true := by simp; omega
      have hd0 : decide (k < n) = true := by simp; omega
      have hlti : (k : Int) < (n : Int) := by omega
      obtain ⟨b1, o1, ob, rfl, hbb, g1, x1, x2, x3, hob⟩ := (HO.out.up hq).at_ k hlt
      obtain ⟨⟨A0, n0, c0, bs⟩, ⟨A1, n1, c1, ss⟩, ⟨A2, n2, c2, ws⟩⟩ := ob
      dsimp only at x1 x2 x3
      have HV := hide (rValidate_any A0 n0 c0 A1 n1 c1 ss A2 n2 c2 ws _ hob.s hob.t hob.sok hob.tok)
      have hvr : OV.valid (⟨A0, n0, c0, bs⟩, ⟨A1, n1, c1, ss⟩, ⟨A2, n2, c2, ws⟩) = validF n0 ss ws := rfl
      have hvle := valid_le (⟨A0, n0, c0, bs⟩, ⟨A1, n1, c1, ss⟩, ⟨A2, n2, c2, ws⟩)
      rw [hvr] at hvle
      obtain ⟨ve, hve⟩ : ∃ ve, validF n0 ss ws = ve := ⟨_, rfl⟩
      rw [hve] at HV hvr hvle
      have G1 := hide g1
      have HVR := hide hvr
      clear hob g1 hve hvr
      go_wp2_with fail
      refine HV.out.mono ?_
      rintro e w3 ⟨rfl, hq3⟩
      have hq03 := hq.trans hq3
      by_cases hz : ve = 0
      · subst hz
        clear x1 x2 x3 hq3
        go_wp2_with fail
        go_roundw
        case rel => exact ⟨k + 1, by omega, by go_num, fun j o hj ho => by
          by_cases e : j = k
          · subst e
            rw [G1.out] at ho
            cases ho
            exact HVR.out
          · exact HALL.out j o (by omega) ho, hq03⟩
        case measure => simp [intOf] <;> omega
      · have dz : ((ve : Int) != 0) = true := by simp; omega
        have hfe := firstErr_at os k _ G1.out (by rw [HVR.out]; exact hz) HALL.out
        rw [HVR.out] at hfe
        have E := hide (listed_err HNB.out hfe hz)
        clear hfe hz x1 x2 x3 hq3
        go_wp2_with fail
        go_ret
        exact ⟨by rw [E.out]; rfl, hq03⟩
    · have hd1 : decide ((k : Int) < (n : Int)) = false := by simp; omega
      have hd0 : decide (k < n) = false := by simp; omega
      obtain rfl : k = n := by omega
      have hval : ∀ o ∈ os, o.valid = 0 := fun o ho => by
        obtain ⟨j, hj, rfl⟩ := List.getElem_of_mem ho
        exact HALL.out j _ (by have := HL.out; omega) (List.getElem?_eq_getElem hj)
      have HFE := hide (firstErr_none os hval)
      have HT := hide (twice_any A k c os wr (HO.out.up hq) (by omega) hval)
      obtain ⟨db, hdb⟩ : ∃ db, dupB [] (namesF os) = db := ⟨_, rfl⟩
      rw [hdb] at HT
      have HDB := hide hdb
      clear hval hdb
      go_wp2_with fail
      refine HT.out.mono ?_
      rintro e w5 ⟨rfl, hq5⟩
      have hq05 := hq.trans hq5
      cases db
      · have E := hide (listed_ok HNB.out HFE.out HDB.out)
        go_wp2_with fail
        go_ret
        exact ⟨by rw [E.out]; rfl, hq05⟩
      · have E := hide (listed_dup HNB.out HFE.out HDB.out)
        go_wp2_with fail
        go_ret
        exact ⟨by rw [E.out]; rfl, hq05⟩
end Go.Proofs.Ytiilkiggfjpibaa

namespace Go.Proofs.Ytiilkiggfjpibaa
open Go.RowKit LK
set_option linter.unusedVariables false
set_option linter.unusedSimpArgs false
set_option maxHeartbeats 1000000 in
theorem rRoom_any (A0 : Option Addr) (n0 c0 : Nat) (v1 v2 : Value) (w : World) (hn : n0 ≤ 100000) :
    Calls Try.prog 91 #[.agg #[.slice A0 n0 c0, v1, v2]] w fun e w' => e = .returned (.int .i64 (room n0 : Nat)) ∧ Q w w' := by
  have hni : (n0 : Int) ≤ 100000 := by omega
  obtain ⟨w1, hw1⟩ : ∃ w1, w.alloc (.cells #[.slice A0 n0 c0, v1, v2] 34) = w1 := ⟨_, rfl⟩
  have hq1 : Q w w1 := by rw [← hw1]; exact (Q.refl w).alloc _
  have hs1 : w.heap.size < w1.heap.size := by rw [← hw1]; simp
  have kb0 : w1.cell? ⟨w.heap.size, 0, none⟩ = some (.slice A0 n0 c0) := by rw [← hw1]; simp
  have HW1 := hide hw1
  clear hw1
  go_enter Try.func91, Try.ntmps91
  go_wp2_with fail
  rw [HW1.out]
  go_loop [3] (fun vi => ∃ k : Nat, vi = .int .i64 ((16 * k : Nat) : Int) ∧ (k = 0 ∨ 16 * (k - 1) < n0 + 8)) (fun vi => n0 + 8 - (intOf vi).toNat)
  case atStart => exact ⟨0, by go_num, .inl rfl⟩
  case round =>
    obtain ⟨k, rfl, hk⟩ := hrel
    have hkb : 16 * k ≤ n0 + 24 := by omega
    have hkbi : ((16 * k : Nat) : Int) ≤ 100024 := by omega
    obtain ⟨m, hm⟩ : ∃ m, 16 * k = m := ⟨_, rfl⟩
    rw [hm] at hkb hkbi ⊢
    have HM := hide hm
    clear hm
    by_cases hlt : m < n0 + 8
    · have d1 : decide ((m : Int) < (n0 : Int) + 8) = true := by simp; omega
      go_wp2_with fail
      go_round
      case rel => exact ⟨k + 1, by have := HM.out; show Value.int _ _ = Value.int _ _; congr 1; omega, .inr (by have := HM.out; omega)⟩
      case measure => simp [intOf]; omega
    · have d1 : decide ((m : Int) < (n0 : Int) + 8) = false := by simp; omega
      go_wp2_with fail
      go_ret
      refine ⟨ret_int ?_, hq1⟩
      have := HM.out
      unfold room
      omega
theorem startsL_get (os : List OV) (m k : Nat) (h : k < m) : (startsL os m)[k]? = some ((offF (os.take k) : Nat) : Int) := by
  unfold startsL
  simp [h]
theorem rows_get {w : World} {B g n c : Nat} {xs : List Int} (h : w.ownsRow B 3 1 (.slice (some ⟨g, 0, none⟩) n c) n (xs.map (Value.int .i64))) {k : Nat} {x : Int} (hk : xs[k]? = some x) : w.cell? ⟨g, k, none⟩ = some (.int .i64 x) := by
  have := h.cellAt k (by have h1 := h.1; have h2 := (List.getElem?_eq_some_iff.1 hk).1; simp at h1; omega)
  rw [this, List.getElem?_map, hk]
  rfl
set_option maxRecDepth 100000 in
set_option maxHeartbeats 2000000 in
theorem rstarts_any (A : Option Addr) (n c : Nat) (os : List OV) (w : World) (hO : ObsR w A n c os) (hn : n ≤ 100) (hv : ∀ o ∈ os, o.1.n ≤ 512) :
    Calls Try.prog 62 #[.slice A n c] w fun e w' => ∃ v, e = .returned v ∧ w'.ownsRow w.heap.size 3 1 v (n + 1) ((startsL os (n + 1)).map (Value.int .i64)) ∧ Q w w' := by
  have hl := hO.sl.len
  have HL := hide hl
  have HO := hide hO
  have HV := hide hv
  have HOFF := hide (fun k => offF_le hv k)
  have hni : (n : Int) ≤ 100 := by omega
  have hst : ∀ k, (startsL os k).length = k := fun k => by simp [startsL]
  have HST := hide hst
  clear hO hl hv hst
  go_enter Try.func62, Try.ntmps62
  go_wp2_with fail
  go_loopw [3, 4] (fun v vi wr => ∃ k : Nat, k ≤ n ∧ vi = .int .i64 k ∧ wr.ownsRow w.heap.size 3 1 v (k + 1) ((startsL os (k + 1)).map (Value.int .i64)) ∧ Q w wr) (fun _ vi _ => n - (intOf vi).toNat)
  case atStart => exact ⟨0, by omega, by go_num, World.ownsRow_lit w #[.int .i64 0] 1 (Nat.le_refl _) (by decide) rfl, (Q.refl w).alloc _⟩
  case round =>
    obtain ⟨k, hk, rfl, hown, hq⟩ := hrel
    have hsz := hq.size
    obtain ⟨g, cc, rfl, hg1, hg2, hg3, hg4, _, _⟩ := own_at hown (by omega)
    by_cases hlt : k < n
    · have hd1 : decide ((k : Int) < (n : Int)) = true := by simp; omega
      have hd0 : decide (k < n) = true := by simp; omega
      have hlti : (k : Int) < (n : Int) := by omega
      have hkk : (k : Int) < (k : Int) + 1 := by omega
      have hkk2 : k < k + 1 := by omega
      obtain ⟨b1, o1, ob, rfl, hbb, g1, x1, x2, x3, hob⟩ := (HO.out.up hq).at_ k hlt
      obtain ⟨⟨A0, n0, c0, bs⟩, ⟨A1, n1, c1, ss⟩, ⟨A2, n2, c2, ws⟩⟩ := ob
      have hn0 := HV.out _ (List.mem_of_getElem? g1)
      dsimp only at x1 x2 x3 hn0
      have hrm : room n0 ≤ 544 := by unfold room; omega
      have HR := hide (fun W => rRoom_any A0 n0 c0 (.slice A1 n1 c1) (.slice A2 n2 c2) W (by omega))
      obtain ⟨rm, hrme⟩ : ∃ rm, room n0 = rm := ⟨_, rfl⟩
      rw [hrme] at hrm HR
      have HRM := hide hrme
      have hof := HOFF.out k
      have hsc := rows_get hown (startsL_get os (k + 1) k (by omega))
      obtain ⟨ofk, hofe⟩ : ∃ ofk, offF (os.take k) = ofk := ⟨_, rfl⟩
      rw [hofe] at hof hsc
      have HOE := hide hofe
      have hofi : (ofk : Int) ≤ 54400 := by omega
      have hrmi : (rm : Int) ≤ 544 := by omega
      have G1 := hide g1
      have HQ := hide hq
      have HOW := hide hown
      clear hob g1 hrme hofe hq hown
      unfold maxLen at hg4
      go_wp2_with fail
      go_region_law (first
        | (go_simp; go_at_call 91; refine (HR.out _).mono ?_; rintro e w5 ⟨rfl, hq5⟩; have hsc5 : w5.cell? ⟨g, k, none⟩ = some (.int .i64 (ofk : Nat)) := (hq5.facts.1 g k hg2).trans hsc)
        | (refine step_app1 (by rfl) El_int _ _ (by rfl) (by rfl) (own_q HOW.out ((Q.refl wr).drew.trans (by assumption))) rfl (by rfl) (by rfl) ?_ ?_ ?_ ?_; (focus (intro u hu; simp at hu; subst hu; rfl)); (focus omega); (focus (have h9 : wr.heap.size ≤ w5.heap.size := hq5.size; omega)); intro v7 w7 hown7 hb7))
      all_goals (
        have hq05 : Q w w5 := HQ.out.trans ((Q.refl wr).drew.trans hq5)
        have hwrp : IntKind.i64.wrap ((ofk : Int) + (rm : Int)) = (ofk : Int) + (rm : Int) := by rw [IntKind.wrap_i64]; omega
        rw [hwrp] at hown7
        clear hsc5 hwrp
        go_wp2_with fail
        go_roundw
        case rel => exact ⟨k + 1, by omega, by go_num, by
          rw [show startsL os (k + 1 + 1) = startsL os (k + 1) ++ [((ofk : Int) + (rm : Int))] by rw [startsL_succ os (k + 1), offF_succ G1.out, HOE.out]; dsimp only; rw [HRM.out]; simp, List.map_append]
          exact hown7, hq05.below.trans hb7⟩
        case measure => simp [intOf] <;> omega)
    · have hd1 : decide ((k : Int) < (n : Int)) = false := by simp; omega
      have hd0 : decide (k < n) = false := by simp; omega
      obtain rfl : k = n := by omega
      have HOW := hide hown
      clear hown
      go_wp2_with fail
      go_ret
      exact ⟨_, rfl, HOW.out, hq⟩
theorem SameInts_same (A1 : Option Addr) (n c1 : Nat) (A2 : Option Addr) (c2 : Nat) (xs : List Int) (w : World) (h1 : Sl 1 (encI .i64) w A1 n c1 xs) (h2 : Sl 1 (encI .i64) w A2 n c2 xs) (hn : n ≤ 100000) :
    Calls Try.prog 12 #[.slice A1 n c1, .slice A2 n c2] w fun e w' => e = .returned (.bool true) ∧ Q w w' := by
  have d : ((n : Int) != (n : Int)) = false := by simp
  have H1 := hide h1
  have H2 := hide h2
  have hni : (n : Int) ≤ 100000 := by omega
  have get1 : ∀ {w : World} {A : Option Addr} {n c : Nat} {xs : List Int}, Sl 1 (encI .i64) w A n c xs → ∀ i, i < n → ∃ b o x, A = some ⟨b, o, none⟩ ∧ b < w.heap.size ∧ xs[i]? = some x ∧ w.cell? ⟨b, o + i, none⟩ = some (.int .i64 x) := fun h i hi => by
    obtain ⟨b, o, x, e, hb, hx, hc⟩ := h.at_ (fun _ => rfl) (by decide) i hi
    exact ⟨b, o, x, e, hb, hx, by have := hc 0 _ rfl; simpa using this⟩
  have GET := hide (fun (W : World) (A : Option Addr) (c : Nat) (h : Sl 1 (encI .i64) W A n c xs) => get1 h)
  clear h1 h2 get1
  go_enter Try.func12, Try.ntmps12
  go_wp2_with fail
  go_loopw [5] (fun vi wr => ∃ i : Nat, i ≤ n ∧ vi = .int .i64 i ∧ Q w wr) (fun vi _ => n - (intOf vi).toNat)
  case atStart => exact ⟨0, by omega, by go_num, Q.refl _⟩
  case round =>
    obtain ⟨i, hi, rfl, hq⟩ := hrel
    have hsz := hq.size
    by_cases hlt : i < n
    · have hd0 : decide (i < n) = true := by simpa using hlt
      have hd1 : decide ((i : Int) < (n : Int)) = true := by simpa using hlt
      have hlti : (i : Int) < (n : Int) := by omega
      obtain ⟨b1, o1, x, rfl, hb1, g1, k1⟩ := GET.out _ _ _ (H1.out.up hq) i hlt
      obtain ⟨b2, o2, y, rfl, hb2, g2, k2⟩ := GET.out _ _ _ (H2.out.up hq) i hlt
      rw [g1] at g2
      obtain rfl := Option.some.inj g2
      have f : (x != x) = false := by simp
      clear g1 g2
      go_wp2_with fail
      have hxc := ext_cell
      refine wp_region_ext (by kernel_rfl) (by kernel_rfl) ?_
      repeat (go_big_quiet_step ((fail)))
      clear hxc
      refine wpQuiet_nil ?_
      intro wz hwwz
      have hqwz := q_of_ext hwwz
      clear hwwz
      obtain ⟨hcwz, hfwz, hzwz⟩ := hqwz.facts
      try simp at hzwz
      try have hs0wz : w.heap.size < wz.heap.size := by omega
      try have hs1wz : w.heap.size + 1 < wz.heap.size := by omega
      clear hcwz hfwz k1 k2
      go_wp2_with fail
      go_roundw
      case rel => exact ⟨i + 1, by omega, by go_num, hq.trans hqwz⟩
      case measure => simp [intOf] <;> omega
    · have hd0 : decide (i < n) = false := by simpa using hlt
      have hd1 : decide ((i : Int) < (n : Int)) = false := by simpa using hlt
      go_wp2_with fail
      go_ret
      exact ⟨rfl, hq⟩
end Go.Proofs.Ytiilkiggfjpibaa

namespace Go.Proofs.Ytiilkiggfjpibaa
open Go.RowKit LK
set_option linter.unusedVariables false
set_option linter.unusedSimpArgs false
theorem lookS_step {T : List (ByteArray × Int × Int)} {p : Nat} {nm s : ByteArray} {a b : Int} (h : T[p]? = some (nm, a, b)) (hn : lookS (T.take p) s = none) (he : (nm.toList == s.toList) = false) : lookS (T.take (p + 1)) s = none := by
  rw [List.take_add_one, h]
  show lookS (T.take p ++ [(nm, a, b)]) s = none
  rw [lookS_snoc, hn, he]
  rfl
theorem lookS_found {T : List (ByteArray × Int × Int)} {p : Nat} {nm s : ByteArray} {a b : Int} (h : T[p]? = some (nm, a, b)) (hn : lookS (T.take p) s = none) (he : (nm.toList == s.toList) = true) : lookS T s = some (a, b) := by
  obtain ⟨hp, e⟩ := List.getElem?_eq_some_iff.1 h
  have : T = T.take p ++ (nm, a, b) :: T.drop (p + 1) := by
    conv => lhs; rw [← List.take_append_drop p T, List.drop_eq_getElem_cons hp, e]
  rw [this]
  unfold lookS at hn ⊢
  rw [Option.map_eq_none_iff] at hn
  rw [List.find?_append, hn, Option.none_or, List.find?_cons]
  simp only [he]
  rfl
def addrR (os : List OV) (s : ByteArray) : Int × Bool := match lookS (tabF 0 0 os) s with | some (_, b) => (b, true) | none => (0, false)
set_option maxRecDepth 100000 in
set_option maxHeartbeats 4000000 in
theorem address_any (A : Option Addr) (n c : Nat) (os : List OV) (s : ByteArray) (w : World) (hO : ObsR w A n c os) (hn : n ≤ 8) (hv : ∀ o ∈ os, o.valid = 0) :
    Calls Try.prog 63 #[.slice A n c, .string s] w fun e w' => e = .returned (.tuple #[.int .i64 (addrR os s).1, .bool (addrR os s).2]) ∧ Q w w' := by
  have hl := hO.sl.len
  have hv5 : ∀ o ∈ os, o.1.n ≤ 512 := fun o ho => (valid_parts (hO.all o ho).s.len (hv o ho)).1
  have HS := hide (rstarts_any A n c os w hO (by omega) hv5)
  have HL := hide hl
  have HO := hide hO
  have HV := hide hv
  have HOFF := hide (fun k => offF_le hv5 k)
  have hni : (n : Int) ≤ 8 := by omega
  obtain ⟨T, hT⟩ : ∃ T, tabF 0 0 os = T := ⟨_, rfl⟩
  have HT := hide hT
  have HTL := hide (show T.length = cntS os by rw [← hT]; exact tabF_length _ _ _)
  clear hO hl hv hv5 hT
  go_enter Try.func63, Try.ntmps63
  go_wp2_with fail
  refine HS.out.mono ?_
  rintro e w1 ⟨v1, rfl, hown1, hq1⟩
  obtain ⟨g, cc, rfl, hg1, hg2, hg3, hg4, _, _⟩ := own_at hown1 (by omega)
  unfold maxLen at hg4
  have HOW := hide hown1
  clear hown1
  go_wp2_with fail
  go_loopw [7] (fun vi wr => ∃ i : Nat, i ≤ n ∧ vi = .int .i64 i ∧ lookS (T.take (cntS (os.take i))) s = none ∧ Q w1 wr) (fun vi _ => n - (intOf vi).toNat)
  case atStart => exact ⟨0, by omega, by go_num, rfl, Q.refl _⟩
  case round =>
    obtain ⟨i, hi, rfl, hlk, hq⟩ := hrel
    obtain ⟨wo, rfl⟩ : ∃ wo : World, wo = wr := ⟨_, rfl⟩
    have HLK := hide hlk
    have HQ := hide hq
    have hsz := hq.size
    clear hlk hq
    by_cases hlt : i < n
    · have hd1 : decide ((i : Int) < (n : Int)) = true := by simp; omega
      have hd0 : decide (i < n) = true := by simp; omega
      have hlti : (i : Int) < (n : Int) := by omega
      have hlti1 : (i : Int) < (n : Int) + 1 := by omega
      have hlti2 : i < n + 1 := by omega
      obtain ⟨bb, oo, ob, eA, hbb, g1, _, _, _, hob⟩ := (HO.out.up (hq1.trans HQ.out)).at_ i hlt
      obtain ⟨⟨A0, n0, c0, bs⟩, ⟨A1, n1, c1, ss⟩, ⟨A2, n2, c2, ws⟩⟩ := ob
      subst eA
      obtain ⟨v0, v1, v2⟩ := valid_parts hob.s.len (HV.out _ (List.mem_of_getElem? g1))
      have hsl := hob.s.len
      dsimp only at v0 v1 v2 hsl
      have hn1i : (n1 : Int) ≤ 16 := by omega
      have G1 := hide g1
      have HSL := hide hsl
      have V2 := hide v2
      have hof := HOFF.out i
      obtain ⟨ofk, hofe⟩ : ∃ ofk, offF (os.take i) = ofk := ⟨_, rfl⟩
      obtain ⟨cn, hcn⟩ : ∃ cn, cntS (os.take i) = cn := ⟨_, rfl⟩
      rw [hofe] at hof
      have HOE := hide hofe
      have HCN := hide hcn
      have hofi : (ofk : Int) ≤ 4352 := by omega
      clear g1 hob hsl v2 hofe hcn
      go_wp2_with fail
      clear hd1 hd0
      go_loopw [8] (fun vi wr => ∃ k : Nat, k ≤ n1 ∧ vi = .int .i64 k ∧ lookS (T.take (cn + k)) s = none ∧ Q wo wr) (fun vi _ => n1 - (intOf vi).toNat)
      case atStart => exact ⟨0, by omega, by go_num, by rw [← HCN.out]; exact HLK.out, Q.refl _⟩
      case round =>
        obtain ⟨k, hk, rfl, hlk, hq⟩ := hrel
        have HLK2 := hide hlk
        have hq0 := (hq1.trans HQ.out).trans hq
        have hsz2 := hq.size
        clear hlk
        obtain ⟨_, _, obi, eA3, hbi, gi, xi0, xi1, xi2, hobi⟩ := (HO.out.up hq0).at_ i hlt
        cases eA3
        rw [G1.out] at gi
        cases gi
        dsimp only at xi0 xi1 xi2
        by_cases hkn : k < n1
        · have hd1 : decide ((k : Int) < (n1 : Int)) = true := by simp; omega
          have hd0 : decide (k < n1) = true := by simp; omega
          have hkn2 : (k : Int) < (n1 : Int) := by omega
          obtain ⟨b4, o4, nm, at_, e4, hb4, g4, y1, y2⟩ := hobi.s.sym k hkn
          dsimp only at e4 y1 y2 g4
          subst e4
          obtain ⟨ha0, ha1, _⟩ := V2.out _ (List.mem_of_getElem? g4)
          dsimp only at ha0 ha1
          have hTg : T[cn + k]? = some (nm, (i : Int), (ofk : Int) + at_) := by
            have := tabF_get os 0 0 i k _ nm at_ G1.out g4
            rw [HT.out, HOE.out, HCN.out] at this
            simpa using this
          have HTG := hide hTg
          have HQ2 := hide hq
          have HQ0 := hide hq0
          have hrow := own_q HOW.out (HQ.out.trans hq)
          have hsc := rows_get hrow (startsL_get os (n + 1) i (by omega))
          rw [HOE.out] at hsc
          have hgw : g < wr.heap.size := by have := HQ.out.size; omega
          clear hobi g4 hTg hq hq0 hrow
          cases he : nm.toList == s.toList
          · have HE := hide he
            clear hsc
            go_wp2_with fail
            go_roundw
            case rel => exact ⟨k + 1, by omega, by go_num, by rw [← Nat.add_assoc]; exact lookS_step HTG.out HLK2.out HE.out, HQ2.out⟩
            case measure => simp [intOf] <;> omega
          · have E := hide (show addrR os s = ((ofk : Int) + at_, true) by unfold addrR; rw [HT.out, lookS_found HTG.out HLK2.out he])
            have hwrp : IntKind.i64.wrap ((ofk : Int) + at_) = (ofk : Int) + at_ := by rw [IntKind.wrap_i64]; omega
            go_wp2_with fail
            have hxc := ext_cell
            refine wp_region_ext (by kernel_rfl) (by kernel_rfl) ?_
            repeat (go_big_quiet_step ((fail)))
            clear hxc
            refine wpQuiet_nil ?_
            intro wz hwwz
            have hqwz := q_of_ext hwwz
            clear hwwz
            obtain ⟨hcwz, hfwz, hzwz⟩ := hqwz.facts
            try simp at hzwz
            try have hs0wz : w.heap.size < wz.heap.size := by omega
            try have hs1wz : w.heap.size + 1 < wz.heap.size := by omega
            clear hcwz hfwz xi0 xi1 xi2 y1 y2 hsc hwrp
            go_wp2_with fail
            go_ret2
            exact ⟨by rw [E.out]; rfl, HQ0.out.trans hqwz⟩
        · have hd1 : decide ((k : Int) < (n1 : Int)) = false := by simp; omega
          have hd0 : decide (k < n1) = false := by simp; omega
          obtain rfl : k = n1 := by omega
          have hqn := HQ.out.trans hq
          have HC := hide (show cntS (os.take (i + 1)) = cn + k by rw [cntS_succ G1.out, HCN.out]; dsimp only; rw [HSL.out])
          clear hobi hq hq0
          go_wp2_with fail
          go_roundw
          case rel => exact ⟨i + 1, by omega, by go_num, by rw [HC.out]; exact HLK2.out, hqn⟩
          case measure => simp [intOf] <;> omega
    · have hd1 : decide ((i : Int) < (n : Int)) = false := by simp; omega
      have hd0 : decide (i < n) = false := by simp; omega
      have E := hide (show addrR os s = (0, false) by
        have := HLK.out
        rw [List.take_of_length_le (l := os) (by have := HL.out; omega), ← HTL.out, List.take_length] at this
        unfold addrR
        rw [HT.out, this])
      have hqn := hq1.trans HQ.out
      go_wp2_with fail
      go_ret2
      exact ⟨by rw [E.out]; rfl, hqn⟩
theorem listed_zero {os : List OV} (h : listedO os = 0) : os.length ≤ 8 ∧ ∀ o ∈ os, o.valid = 0 := by
  unfold listedO at h
  split at h
  · cases h
  · rename_i h8
    split at h
    · rename_i h1; exact absurd h h1
    · rename_i h1
      refine ⟨by omega, ?_⟩
      have h1 : firstErrO os = 0 := by omega
      have : ∀ l : List OV, firstErrO l = 0 → ∀ o ∈ l, o.valid = 0 := by
        intro l
        induction l with
        | nil => intro _ o ho; cases ho
        | cons p r ih =>
          intro hf o ho
          unfold firstErrO at hf
          split at hf
          · rename_i hp
            rcases List.mem_cons.1 ho with rfl | ho
            · exact hp
            · exact ih hf o ho
          · rename_i hp; exact absurd hf hp
      exact this os h1
theorem rStarts_any (A : Option Addr) (n c : Nat) (os : List OV) (w : World) (hO : ObsR w A n c os) : Calls Try.prog 22 #[.slice A n c] w (IPost w (listedO os) (startsR os)) := by
  have hl := hO.sl.len
  have HP := hide (rlisted_any A n c os w hO)
  have HL := hide hl
  have hst : (startsL os (n + 1)).length = n + 1 := by simp [startsL]
  have HST := hide hst
  have HO := hide hO
  clear hO hst
  by_cases h0 : listedO os = 0
  · have E := hide (show startsR os = startsL os (n + 1) by unfold startsR; rw [if_pos h0, HL.out])
    obtain ⟨h8, hval⟩ := listed_zero h0
    have HS := hide (fun W hQ => rstarts_any A n c os W (HO.out.up hQ) (by omega) (fun o ho => (valid_parts (HO.out.all o ho).s.len (hval o ho)).1))
    rw [h0] at HP
    have E0 := hide h0
    clear h0 h8 hval hl
    go_enter Try.func22, Try.ntmps22
    go_wp2_with fail
    refine HP.out.mono ?_
    rintro e w1 ⟨rfl, hq1⟩
    go_wp2_with fail
    refine (HS.out _ hq1).mono ?_
    rintro e w2 ⟨v2, rfl, hown2, hq2⟩
    go_wp2_with fail
    go_ret2
    exact ⟨_, by rw [E0.out]; rfl, by rw [E.out, HST.out]; exact own_base hown2 hq1.size, hq1.trans hq2⟩
  · have dz : ((listedO os : Int) != 0) = true := by simp; omega
    have E := hide (show startsR os = [] by unfold startsR; rw [if_neg h0])
    clear h0 hl
    go_enter Try.func22, Try.ntmps22
    go_wp2_with fail
    refine HP.out.mono ?_
    rintro e w1 ⟨rfl, hq1⟩
    go_wp2_with fail
    go_ret2
    exact ⟨_, rfl, by rw [E.out]; exact World.ownsRow_nil _ _ _ _, hq1⟩
theorem rFind_any (A : Option Addr) (n c : Nat) (os : List OV) (s : ByteArray) (w : World) (hO : ObsR w A n c os) :
    Calls Try.prog 24 #[.slice A n c, .string s] w fun e w' => e = .returned (.tuple #[.int .i64 (findR os s).1, .bool (findR os s).2, .int .i64 (listedO os : Nat)]) ∧ Q w w' := by
  have hl := hO.sl.len
  have HP := hide (rlisted_any A n c os w hO)
  have HO := hide hO
  clear hO
  by_cases h0 : listedO os = 0
  · have E := hide (show findR os s = addrR os s by unfold findR addrR; rw [if_pos h0]; rfl)
    obtain ⟨h8, hval⟩ := listed_zero h0
    have HS := hide (fun W hQ => address_any A n c os s W (HO.out.up hQ) (by omega) hval)
    rw [h0] at HP
    have E0 := hide h0
    obtain ⟨⟨ax, bx⟩, hab⟩ : ∃ r, addrR os s = r := ⟨_, rfl⟩
    rw [hab] at HS E
    clear h0 h8 hval hl hab
    go_enter Try.func24, Try.ntmps24
    go_wp2_with fail
    refine HP.out.mono ?_
    rintro e w1 ⟨rfl, hq1⟩
    go_wp2_with fail
    refine (HS.out _ hq1).mono ?_
    rintro e w2 ⟨rfl, hq2⟩
    go_wp2_with fail
    go_ret3
    exact ⟨by rw [E0.out, E.out]; rfl, hq1.trans hq2⟩
  · have dz : ((listedO os : Int) != 0) = true := by simp; omega
    have E := hide (show findR os s = (0, false) by unfold findR; rw [if_neg h0])
    clear h0 hl
    go_enter Try.func24, Try.ntmps24
    go_wp2_with fail
    refine HP.out.mono ?_
    rintro e w1 ⟨rfl, hq1⟩
    go_wp2_with fail
    go_ret3
    exact ⟨by rw [E.out]; rfl, hq1⟩
set_option maxHeartbeats 4000000 in
theorem rUsers_any (A : Option Addr) (n c : Nat) (os : List OV) (s : ByteArray) (w : World) (hO : ObsR w A n c os) : Calls Try.prog 26 #[.slice A n c, .string s] w (IPost w (listedO os) (usersR os s)) := by
  have hl := hO.sl.len
  have HP := hide (rlisted_any A n c os w hO)
  have HO := hide hO
  have HL := hide hl
  clear hO
  by_cases h0 : listedO os = 0
  · obtain ⟨h8, hval⟩ := listed_zero h0
    have hni : (n : Int) ≤ 8 := by omega
    have hn8 : n ≤ 8 := by omega
    have HV := hide hval
    have E := hide (show usersR os s = usersTo os s n by unfold usersR; rw [if_pos h0, HL.out])
    rw [h0] at HP
    have E0 := hide h0
    clear h0 h8 hval hl
    go_enter Try.func26, Try.ntmps26
    go_wp2_with fail
    refine HP.out.mono ?_
    rintro e w1 ⟨rfl, hq1⟩
    go_wp2_with fail
    go_loopw [7, 8] (fun v vi wr => ∃ k : Nat, k ≤ n ∧ vi = .int .i64 k ∧ wr.ownsRow w.heap.size 3 1 v (usersTo os s k).length ((usersTo os s k).map (Value.int .i64)) ∧ Q w wr) (fun _ vi _ => n - (intOf vi).toNat)
    case atStart => exact ⟨0, by omega, by go_num, World.ownsRow_nil _ _ _ _, hq1⟩
    case round =>
      obtain ⟨k, hk, rfl, hown, hq⟩ := hrel
      obtain ⟨wo, rfl⟩ : ∃ wo : World, wo = wr := ⟨_, rfl⟩
      have hsz := hq.size
      have hul := usersTo_len os s k
      have HOW := hide hown
      have HQ := hide hq
      clear hown hq
      by_cases hlt : k < n
      · have hd1 : decide ((k : Int) < (n : Int)) = true := by simp; omega
        have hd0 : decide (k < n) = true := by simp; omega
        have hlti : (k : Int) < (n : Int) := by omega
        obtain ⟨bb, oo, ob, eA, hbb, g1, _, _, _, hob⟩ := (HO.out.up HQ.out).at_ k hlt
        obtain ⟨⟨A0, n0, c0, bs⟩, ⟨A1, n1, c1, ss⟩, ⟨A2, n2, c2, ws⟩⟩ := ob
        subst eA
        have htl := hob.t.len
        dsimp only at htl
        have hn2 : n2 ≤ 16 := by
          have hv := HV.out _ (List.mem_of_getElem? g1)
          unfold OV.valid at hv
          by_cases hb : 512 < n0 ∨ 16 < ss.length ∨ 16 < ws.length
          · have := valid_big (n := n0) (ss := ss) (ws := ws) hb
            dsimp only at hv
            rw [this] at hv; cases hv
          · omega
        have hn2i : (n2 : Int) ≤ 16 := by omega
        have G1 := hide g1
        have HTL := hide htl
        have HUS := hide (usersTo_succ (s := s) g1)
        clear g1 hob htl
        go_wp2_with fail
        clear hd1 hd0
        go_loopw [7, 9] (fun v7 vi wr => ∃ j : Nat, j ≤ n2 ∧ vi = .int .i64 j ∧ (∀ a x, a < j → ws[a]? = some x → (x.2.2.toList == s.toList) = false) ∧ Q w wr ∧ wr.ownsRow w.heap.size 3 1 v7 (usersTo os s k).length ((usersTo os s k).map (.int .i64))) (fun _ vi _ => n2 - (intOf vi).toNat)
        case atStart => exact ⟨0, by omega, by go_num, fun a x hj => by omega, HQ.out, HOW.out⟩
        case round =>
          obtain ⟨j, hj, rfl, hall, hq0, hownr⟩ := hrel
          have HALL := hide hall
          have hsz2 := hq0.size
          clear hall
          obtain ⟨_, _, obi, eA3, hbi, gi, xi0, xi1, xi2, hobi⟩ := (HO.out.up hq0).at_ k hlt
          cases eA3
          rw [G1.out] at gi
          cases gi
          dsimp only at xi0 xi1 xi2
          have HOWR := hide hownr
          by_cases hjn : j < n2
          · have hd1 : decide ((j : Int) < (n2 : Int)) = true := by simp; omega
            have hd0 : decide (j < n2) = true := by simp; omega
            have hjn2 : (j : Int) < (n2 : Int) := by omega
            obtain ⟨b4, o4, at_, kd, nm, e4, hb4, g4, y1, y2, y3⟩ := hobi.t.wnt j hjn
            dsimp only at e4 y1 y2 y3 g4
            subst e4
            have G4 := hide g4
            have HQ0 := hide hq0
            clear hobi g4 hq0
            cases he : nm.toList == s.toList
            · have HE := hide he
              clear hownr
              go_wp2_with fail
              go_roundw
              case rel => exact ⟨j + 1, by omega, by go_num, fun a x ha hx => by
                by_cases e : a = j
                · subst e
                  rw [G4.out] at hx
                  cases hx
                  exact HE.out
                · exact HALL.out a x (by omega) hx, HQ0.out, HOWR.out⟩
              case measure => simp [intOf] <;> omega
            · have HWB := hide (show wantB (⟨A0, n0, c0, bs⟩, ⟨A1, n1, c1, ss⟩, ⟨some ⟨b4, o4, none⟩, n2, c2, ws⟩) s = true from List.any_eq_true.2 ⟨_, List.mem_of_getElem? G4.out, he⟩)
              go_wp2_with (at_builtin; refine wpList_app1 rfl El_int _ _ rfl rfl hownr (by simp) rfl rfl ?_ ?_ ?_ ?_; (focus (simp [Value.oneCell'])); (focus omega); (focus omega); intro v7 w7 hown7 hb7)
              go_roundw
              case rel => exact ⟨k + 1, by omega, by go_num, by rw [HUS.out, HWB.out, if_pos rfl, List.length_append, List.map_append]; exact hown7, HQ0.out.below.trans hb7⟩
              case measure => simp [intOf] <;> omega
          · have hd1 : decide ((j : Int) < (n2 : Int)) = false := by simp; omega
            have hd0 : decide (j < n2) = false := by simp; omega
            have HWB := hide (show wantB (⟨A0, n0, c0, bs⟩, ⟨A1, n1, c1, ss⟩, ⟨A2, n2, c2, ws⟩) s = false from by
              unfold wantB
              rw [List.any_eq_false]
              intro x hx
              obtain ⟨a, ha, rfl⟩ := List.getElem_of_mem hx
              dsimp only at ha
              have := HALL.out a _ (by have := HTL.out; omega) (List.getElem?_eq_getElem ha)
              rw [this]
              exact Bool.false_ne_true)
            have HR := hide hownr
            clear hobi hownr
            go_wp2_with fail
            go_roundw
            case rel => exact ⟨k + 1, by omega, by go_num, by rw [HUS.out, HWB.out, if_neg (by decide)]; exact HR.out, hq0⟩
            case measure => simp [intOf] <;> omega
      · have hd1 : decide ((k : Int) < (n : Int)) = false := by simp; omega
        have hd0 : decide (k < n) = false := by simp; omega
        obtain rfl : k = n := by omega
        have hq := HQ.out
        go_wp2_with fail
        go_ret2
        exact ⟨_, by rw [E0.out]; rfl, by rw [E.out]; exact HOW.out, hq⟩
  · have dz : ((listedO os : Int) != 0) = true := by simp; omega
    have E := hide (show usersR os s = [] by unfold usersR; rw [if_neg h0])
    clear h0 hl
    go_enter Try.func26, Try.ntmps26
    go_wp2_with fail
    refine HP.out.mono ?_
    rintro e w1 ⟨rfl, hq1⟩
    go_wp2_with fail
    go_ret2
    exact ⟨_, rfl, by rw [E.out]; exact World.ownsRow_nil _ _ _ _, hq1⟩
end Go.Proofs.Ytiilkiggfjpibaa

namespace Go.Proofs.Ytiilkiggfjpibaa
open Go.RowKit LK
set_option linter.unusedVariables false
set_option linter.unusedSimpArgs false
theorem mk_u8 (n : Nat) (hn : n ≤ 1000) : ∃ M : Array Value, M.toList = List.replicate n (.int .u8 0) ∧ ∀ W : World, (Instr.makeSlice 30 (.int .i64 (n : Int)) (.int .i64 (n : Int))).run Try.prog W = .ok (.slice (some ⟨W.heap.size, 0, none⟩) n n) (W.alloc (.cells M 5)) := by
  obtain ⟨i, hi, hz, hsz, hby⟩ := info_parts (show (Try.prog.info? 5).map (fun i => (i.zero, i.size, i.bytes)) = some (some (.int .u8 0), 1, 1) by kernel_rfl)
  refine ⟨madeCells (Value.int .u8 0).cells ((n : Int).toNat * i.size), ?_, fun W => ?_⟩
  · rw [hsz, Nat.mul_one, Int.toNat_natCast]
    exact toList_madeCells_one _ _
  · have h := run_makeSlice (P := Try.prog) W 30 5 i (.int .u8 0) Try.underlying30 hi hz .i64 .i64 (n : Int) n (by omega) (by omega) (by rw [hsz]; omega) (by rw [hby]; omega) (by omega)
    simpa using h
theorem blk3 (w : World) (a b c : Array Value) (ta tb tc : TypeId) :
    ((((w.alloc (.cells a ta)).alloc (.cells b tb)).alloc (.cells c tc)).drew).heap[w.heap.size]? = some (.cells a ta (0, 0)) ∧
    ((((w.alloc (.cells a ta)).alloc (.cells b tb)).alloc (.cells c tc)).drew).heap[w.heap.size + 1]? = some (.cells b tb (0, 0)) ∧
    ((((w.alloc (.cells a ta)).alloc (.cells b tb)).alloc (.cells c tc)).drew).heap[w.heap.size + 1 + 1]? = some (.cells c tc (0, 0)) := by
  have s1 : (w.alloc (.cells a ta)).heap.size = w.heap.size + 1 := by simp
  have s2 : ((w.alloc (.cells a ta)).alloc (.cells b tb)).heap.size = w.heap.size + 1 + 1 := by simp
  refine ⟨?_, ?_, ?_⟩
  · exact (heap_alloc_old _ _ (by omega)).trans ((heap_alloc_old _ _ (by omega)).trans (heap_alloc_new w _))
  · refine (heap_alloc_old _ _ (by omega)).trans ?_
    rw [← s1]
    exact heap_alloc_new _ _
  · rw [← s2]
    exact heap_alloc_new _ _
theorem rd_blk {w : World} {g : Nat} {xs : List Value} {ty : TypeId} {M : Array Value} (h : w.heap[g]? = some (.cells M ty (0, 0))) (hM : M.toList = xs) : Rd w w.heap.size (some ⟨g, 0, none⟩) xs := by
  refine .inr ⟨g, 0, rfl, (Array.getElem?_eq_some_iff.1 h).1, fun j u hu => ?_⟩
  rw [Nat.zero_add]
  refine cell_blkJ h ?_
  rw [← hM, Array.getElem?_toList] at hu
  exact hu
theorem ObR.raw {w : World} {g n : Nat} {bs : List Int} {ty : TypeId} {M : Array Value} (h : w.heap[g]? = some (.cells M ty (0, 0))) (hM : M.toList = bs.map (Value.int .u8)) (hn : bs.length = n) (hb : ∀ x ∈ bs, 0 ≤ x ∧ x < 256) (hs : n ≤ 1000) : ObR w (⟨some ⟨g, 0, none⟩, n, n, bs⟩, ⟨none, 0, 0, []⟩, ⟨none, 0, 0, []⟩) := by
  refine ⟨⟨?_, hn, Nat.le_refl _, (by dsimp only; omega)⟩, Sl.nil _, Sl.nil _, fun e => (by cases e), fun _ => ⟨rfl, rfl⟩, fun _ => ⟨rfl, rfl⟩, hb, fun x hx => (by cases hx), fun x hx => (by cases hx)⟩
  dsimp only
  rw [enc8_flat]
  exact rd_blk h hM
def two (gA gB : Nat) : List OV := [(⟨some ⟨gA, 0, none⟩, 8, 8, List.replicate 8 0⟩, ⟨none, 0, 0, []⟩, ⟨none, 0, 0, []⟩), (⟨some ⟨gB, 0, none⟩, 9, 9, List.replicate 9 0⟩, ⟨none, 0, 0, []⟩, ⟨none, 0, 0, []⟩)]
theorem obs_two {w : World} {g gA gB : Nat} {M8 M9 : Array Value} (h8 : M8.toList = List.replicate 8 (.int .u8 0)) (h9 : M9.toList = List.replicate 9 (.int .u8 0))
    (hg : w.heap[g]? = some (.cells #[.slice (some ⟨gA, 0, none⟩) 8 8, .slice none 0 0, .slice none 0 0, .slice (some ⟨gB, 0, none⟩) 9 9, .slice none 0 0, .slice none 0 0] 34 (0, 0)))
    (hA : w.heap[gA]? = some (.cells M8 5 (0, 0))) (hB : w.heap[gB]? = some (.cells M9 5 (0, 0))) : ObsR w (some ⟨g, 0, none⟩) 2 2 (two gA gB) := by
  refine ⟨⟨rd_blk hg rfl, rfl, Nat.le_refl _, by decide⟩, fun e => (by cases e), fun o ho => ?_⟩
  unfold two at ho
  simp only [List.mem_cons, List.not_mem_nil, or_false] at ho
  rcases ho with rfl | rfl
  · exact ObR.raw hA (by rw [h8]; rfl) rfl (by decide) (by decide)
  · exact ObR.raw hB (by rw [h9]; rfl) rfl (by decide) (by decide)
theorem two_listed (gA gB : Nat) : listedO (two gA gB) = 0 := rfl
theorem two_starts (gA gB : Nat) : startsR (two gA gB) = [0, 16, 48] := by
  unfold startsR
  rw [two_listed]
  simp [startsL, offF, two, room, List.range, List.range.loop]
theorem starts_two {w : World} {g gA gB : Nat} {M8 M9 : Array Value} (h8 : M8.toList = List.replicate 8 (.int .u8 0)) (h9 : M9.toList = List.replicate 9 (.int .u8 0))
    (hg : w.heap[g]? = some (.cells #[.slice (some ⟨gA, 0, none⟩) 8 8, .slice none 0 0, .slice none 0 0, .slice (some ⟨gB, 0, none⟩) 9 9, .slice none 0 0, .slice none 0 0] 34 (0, 0)))
    (hA : w.heap[gA]? = some (.cells M8 5 (0, 0))) (hB : w.heap[gB]? = some (.cells M9 5 (0, 0))) :
    Calls Try.prog 11 #[.slice (some ⟨g, 0, none⟩) 2 2] w fun e w' => ∃ A c, e = .returned (.tuple #[.slice A 3 c, .int .i64 0]) ∧ Sl 1 (encI .i64) w' A 3 c [0, 16, 48] ∧ Q w w' := by
  refine (Starts_any _ 2 2 _ _ (obs_two h8 h9 hg hA hB)).mono ?_
  rintro e w5 ⟨v, rfl, hown, hq⟩
  rw [two_listed, two_starts] at *
  obtain ⟨A, c, rfl, hc1, hc2, hc3, hrd⟩ := own_form hown
  exact ⟨A, c, rfl, ⟨hrd, rfl, hc1, by unfold maxLen at hc2; omega⟩, hq⟩
theorem one_any (A0 A1 A2 : Option Addr) (n0 c0 n1 c1 n2 c2 : Nat) (w : World) : Calls Try.prog 29 #[.agg #[.slice A0 n0 c0, .slice A1 n1 c1, .slice A2 n2 c2]] w fun e w' => ∃ g, e = .returned (.slice (some ⟨g, 0, none⟩) 1 1) ∧ w'.heap[g]? = some (.cells #[.slice A0 n0 c0, .slice A1 n1 c1, .slice A2 n2 c2] 34 (0, 0)) ∧ w.heap.size ≤ g ∧ Q w w' := by
  obtain ⟨w1, hw1⟩ : ∃ w1, w.alloc (.cells #[.slice A0 n0 c0, .slice A1 n1 c1, .slice A2 n2 c2] 34) = w1 := ⟨_, rfl⟩
  have hq1 : Q w w1 := by rw [← hw1]; exact (Q.refl w).alloc _
  have hb1 : w1.heap[w.heap.size]? = some (.cells #[.slice A0 n0 c0, .slice A1 n1 c1, .slice A2 n2 c2] 34 (0, 0)) := by rw [← hw1]; exact heap_alloc_new w _
  have k0 : w1.cell? ⟨w.heap.size, 0, none⟩ = some (.slice A0 n0 c0) := cell_blkJ (j := 0) hb1 rfl
  have k1 : w1.cell? ⟨w.heap.size, 1, none⟩ = some (.slice A1 n1 c1) := cell_blkJ (j := 1) hb1 rfl
  have k2 : w1.cell? ⟨w.heap.size, 2, none⟩ = some (.slice A2 n2 c2) := cell_blkJ (j := 2) hb1 rfl
  have HW1 := hide hw1
  have HQ1 := hide hq1
  have HG := hide (show (w1.alloc (.cells #[.slice A0 n0 c0, .slice A1 n1 c1, .slice A2 n2 c2] 34)).heap[w.heap.size + 1]? = some (.cells #[.slice A0 n0 c0, .slice A1 n1 c1, .slice A2 n2 c2] 34 (0, 0)) by
    have h := heap_alloc_new w1 (.cells #[.slice A0 n0 c0, .slice A1 n1 c1, .slice A2 n2 c2] 34)
    rw [← hw1] at h ⊢
    simpa using h)
  clear hw1 hq1 hb1
  go_enter Try.func29, Try.ntmps29
  go_wp2_with fail
  rw [HW1.out]
  go_wp2_with fail
  go_ret
  exact ⟨_, rfl, HG.out, by omega, HQ1.out.alloc _⟩
def nmA : ByteArray := ⟨#[97]⟩
def oK (b : Nat) : OV := (⟨some ⟨b, 0, none⟩, 5, 5, [1, 2, 3, 4, 5]⟩, ⟨some ⟨b + 1, 0, none⟩, 1, 1, [(nmA, 1)]⟩, ⟨some ⟨b + 1 + 1, 0, none⟩, 1, 1, [(1, 1, nmA)]⟩)
theorem oK_listed (b : Nat) : listedO [oK b] = 0 := by
  rfl
theorem oK_img (b : Nat) : imgR [oK b] = some ((List.map byteV (1 :: List.replicate 15 0))) := by
  have hl : lookS (tabF 0 0 [oK b]) nmA = some (0, 1) := by simp [lookS, tabF, oK]
  unfold imgR imgF imgStep
  show (match wantsL (tabF 0 0 [oK b]) ((0 : Nat) : Int) [(1, 1, nmA)] _ with | none => none | some L' => imgF _ _ [] L') = _
  unfold wantsL
  rw [hl]
  kernel_rfl
theorem obs_one {w : World} {g b : Nat} (hg : w.heap[g]? = some (.cells #[.slice (some ⟨b, 0, none⟩) 5 5, .slice (some ⟨b + 1, 0, none⟩) 1 1, .slice (some ⟨b + 1 + 1, 0, none⟩) 1 1] 34 (0, 0)))
    (h0 : w.heap[b]? = some (.cells #[.int .u8 1, .int .u8 2, .int .u8 3, .int .u8 4, .int .u8 5] 5 (0, 0))) (h1 : w.heap[b + 1]? = some (.cells #[.string nmA, .int .i64 1] 94 (0, 0)))
    (h2 : w.heap[b + 1 + 1]? = some (.cells #[.int .i64 1, .int .i64 1, .string nmA] 97 (0, 0))) : ObsR w (some ⟨g, 0, none⟩) 1 1 [oK b] := by
  refine ⟨⟨rd_blk hg rfl, rfl, Nat.le_refl _, by decide⟩, fun e => (by cases e), fun o ho => ?_⟩
  simp only [List.mem_cons, List.not_mem_nil, or_false] at ho
  subst ho
  refine ⟨⟨rd_blk h0 rfl, rfl, Nat.le_refl _, (show (5 : Nat) ≤ 9223372036854775807 by decide)⟩, ⟨rd_blk h1 rfl, rfl, Nat.le_refl _, (show (1 : Nat) ≤ 9223372036854775807 by decide)⟩, ⟨rd_blk h2 rfl, rfl, Nat.le_refl _, (show (1 : Nat) ≤ 9223372036854775807 by decide)⟩, fun e => (by cases e), fun e => (by cases e), fun e => (by cases e), (show ∀ x ∈ ([1, 2, 3, 4, 5] : List Int), 0 ≤ x ∧ x < 256 by decide), ?_, ?_⟩
  · intro x hx
    cases hx with
    | head => decide
    | tail _ h => cases h
  · intro x hx
    cases hx with
    | head => decide
    | tail _ h => cases h
theorem image_one {w : World} {g b : Nat} (hg : w.heap[g]? = some (.cells #[.slice (some ⟨b, 0, none⟩) 5 5, .slice (some ⟨b + 1, 0, none⟩) 1 1, .slice (some ⟨b + 1 + 1, 0, none⟩) 1 1] 34 (0, 0)))
    (h0 : w.heap[b]? = some (.cells #[.int .u8 1, .int .u8 2, .int .u8 3, .int .u8 4, .int .u8 5] 5 (0, 0))) (h1 : w.heap[b + 1]? = some (.cells #[.string nmA, .int .i64 1] 94 (0, 0)))
    (h2 : w.heap[b + 1 + 1]? = some (.cells #[.int .i64 1, .int .i64 1, .string nmA] 97 (0, 0))) :
    Calls Try.prog 14 #[.slice (some ⟨g, 0, none⟩) 1 1] w fun e w' => ∃ A c, e = .returned (.tuple #[.slice A 16 c, .int .i64 0]) ∧ Rd w' w'.heap.size A (List.map byteV (1 :: List.replicate 15 0)) ∧ Q w w' := by
  refine (Image_any _ 1 1 _ _ (obs_one hg h0 h1 h2)).mono ?_
  rintro e w5 ⟨hq, h | ⟨-, h | ⟨L, v, N, hL, rfl, hown⟩⟩⟩
  · exact absurd (oK_listed b) h.1
  · rw [oK_img] at h
    cases h.1
  · rw [oK_img] at hL
    cases hL
    obtain ⟨A, c, rfl, hc1, hc2, hc3, hrd⟩ := own_form hown
    rw [Nat.mul_one] at hc3
    obtain rfl : N = 16 := hc3.symm
    exact ⟨A, c, rfl, hrd, hq⟩
set_option maxRecDepth 100000 in
set_option maxHeartbeats 4000000 in
theorem known_any (w : World) : Calls Try.prog 21 #[] w fun e w' => e = .returned (.bool true) ∧ Q w w' := by
  obtain ⟨M8, hM8, hmk8⟩ := mk_u8 8 (by decide)
  obtain ⟨M9, hM9, hmk9⟩ := mk_u8 9 (by decide)
  have hmk8 : ∀ W : World, (Instr.makeSlice 30 (.int .i64 8) (.int .i64 8)).run Try.prog W = .ok (.slice (some ⟨W.heap.size, 0, none⟩) 8 8) (W.alloc (.cells M8 5)) := hmk8
  have hmk9 : ∀ W : World, (Instr.makeSlice 30 (.int .i64 9) (.int .i64 9)).run Try.prog W = .ok (.slice (some ⟨W.heap.size, 0, none⟩) 9 9) (W.alloc (.cells M9 5)) := hmk9
  have HM8 := hide hM8
  have HM9 := hide hM9
  clear hM8 hM9
  go_enter Try.func21, Try.ntmps21
  go_upto_region 1 with fail
  go_cut [1, 2] (fun va vb wx => vb = .int .i64 0 ∧ ∃ A c, va = .slice A 3 c ∧ Sl 1 (encI .i64) wx A 3 c [0, 16, 48] ∧ Q w wx)
  case first =>
    have S1 := hide (starts_two HM8.out HM9.out (blk3 w M8 M9 _ 5 5 _).2.2 (blk3 w M8 M9 _ 5 5 _).1 (blk3 w M8 M9 _ 5 5 _).2.1)
    have S2 := hide (starts_two HM8.out HM9.out (blk3 w M9 M8 _ 5 5 _).2.2 (blk3 w M9 M8 _ 5 5 _).2.1 (blk3 w M9 M8 _ 5 5 _).1)
    go_region_with (go_at_call 11; first | (refine S1.out.mono ?_; rintro e w5 ⟨A, c, rfl, hsl, hq⟩) | (refine S2.out.mono ?_; rintro e w5 ⟨A, c, rfl, hsl, hq⟩))
    all_goals (go_wp2_with fail; go_meet; exact ⟨rfl, _, _, rfl, hsl, ((((Q.refl w).alloc _).alloc _).alloc _).drew.trans hq⟩)
  case rest =>
  obtain ⟨rfl, A, c, rfl, hsl, hq⟩ := hcut
  have HSL := hide hsl
  have HQ := hide hq
  clear hsl hq
  obtain ⟨w4, hw4⟩ : ∃ w4, (((wc.alloc (.cells #[.int .u8 1, .int .u8 2, .int .u8 3, .int .u8 4, .int .u8 5] 5)).alloc (.cells #[.string nmA, .int .i64 1] 94)).alloc (.cells #[.int .i64 1, .int .i64 1, .string nmA] 97)).alloc
    (.cells #[.slice (some ⟨wc.heap.size, 0, none⟩) 5 5, .slice (some ⟨wc.heap.size + 1, 0, none⟩) 1 1, .slice (some ⟨wc.heap.size + 1 + 1, 0, none⟩) 1 1] 34) = w4 := ⟨_, rfl⟩
  have hq4 : Q wc w4 := by rw [← hw4]; exact ((((Q.refl wc).alloc _).alloc _).alloc _).alloc _
  have hb3 := blk3 wc #[.int .u8 1, .int .u8 2, .int .u8 3, .int .u8 4, .int .u8 5] #[.string nmA, .int .i64 1] #[.int .i64 1, .int .i64 1, .string nmA] 5 94 97
  have k0 : w4.heap[wc.heap.size]? = some (.cells #[.int .u8 1, .int .u8 2, .int .u8 3, .int .u8 4, .int .u8 5] 5 (0, 0)) := by rw [← hw4]; exact (heap_alloc_old _ _ (Array.getElem?_eq_some_iff.1 hb3.1).1).trans hb3.1
  have k1 : w4.heap[wc.heap.size + 1]? = some (.cells #[.string nmA, .int .i64 1] 94 (0, 0)) := by rw [← hw4]; exact (heap_alloc_old _ _ (Array.getElem?_eq_some_iff.1 hb3.2.1).1).trans hb3.2.1
  have k2 : w4.heap[wc.heap.size + 1 + 1]? = some (.cells #[.int .i64 1, .int .i64 1, .string nmA] 97 (0, 0)) := by rw [← hw4]; exact (heap_alloc_old _ _ (Array.getElem?_eq_some_iff.1 hb3.2.2).1).trans hb3.2.2
  have K0 := hide k0
  have K1 := hide k1
  have K2 := hide k2
  have HQ4 := hide hq4
  have HW4 := hide hw4
  clear hb3 k0 k1 k2 hq4 hw4
  go_wp2_with fail
  rw [show (⟨#[97]⟩ : ByteArray) = nmA from rfl, HW4.out]
  refine (one_any _ _ _ _ _ _ _ _ _ w4).mono ?_
  rintro e w5 ⟨g, rfl, hg, hge, hq5⟩
  have HI := hide (image_one hg ((hq5.below.block _ (Array.getElem?_eq_some_iff.1 K0.out).1).trans K0.out) ((hq5.below.block _ (Array.getElem?_eq_some_iff.1 K1.out).1).trans K1.out) ((hq5.below.block _ (Array.getElem?_eq_some_iff.1 K2.out).1).trans K2.out))
  have HQ5 := hide hq5
  clear hg hq5
  go_wp2_with fail
  refine HI.out.mono ?_
  rintro e w6 ⟨A6, c6, rfl, hrd, hq6⟩
  have hcv := conv_rd Try.underlying30 Try.underlying5 Try.underlying9 hrd (by decide) 16 c6 rfl
  have HCV := hide hcv
  have HRD := hide hrd
  have HQ6 := hide hq6
  clear hcv hrd hq6
  go_wp2_with fail
  refine (SameInts_same A 3 c (some ⟨w6.heap.size, 0, none⟩) 3 [0, 16, 48] _ (HSL.out.up (HQ4.out.trans (HQ5.out.trans (HQ6.out.alloc _)))) ⟨rd_blk (heap_alloc_new w6 _) rfl, rfl, Nat.le_refl _, by decide⟩ (by decide)).mono ?_
  rintro e w7 ⟨rfl, hq7⟩
  have hcv7 := conv_rd Try.underlying30 Try.underlying5 Try.underlying9 (HRD.out.up (((Q.refl w6).alloc _).trans hq7)) (by decide) 16 c6 rfl
  have e16 : strN (1 :: List.replicate 15 0) = ⟨#[1, 0, 0, 0, 0, 0, 0, 0, 0, 0, 0, 0, 0, 0, 0, 0]⟩ := rfl
  rw [e16] at hcv7
  clear e16
  have HQ7 := hide hq7
  clear hq7
  go_wp2_with fail
  go_ret
  exact ⟨rfl, HQ.out.trans (HQ4.out.trans (HQ5.out.trans ((HQ6.out.alloc _).trans HQ7.out)))⟩
end Go.Proofs.Ytiilkiggfjpibaa
