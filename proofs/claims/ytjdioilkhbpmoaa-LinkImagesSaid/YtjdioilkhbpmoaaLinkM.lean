/- The walks of the reference's address, Starts, Find and Users. Conditions: the objects read as a list. -/
import Derived.Test.YtjdioilkhbpmoaaLinkL
namespace Go.Proofs.Ytjdioilkhbpmoaa
open Go.RowKit LK
set_option linter.unusedVariables false
theorem lookS_step {T : List (ByteArray × Int × Int)} {p : Nat} {nm s : ByteArray} {a b : Int} (h : T[p]? = some (nm, a, b)) (hn : lookS (T.take p) s = none) (he : (nm.toList == s.toList) = false) : lookS (T.take (p + 1)) s = none := by
  rw [List.take_add_one, h]
  show lookS (T.take p ++ [(nm, a, b)]) s = none
  rw [lookS_snoc, hn, he]
  rfl
theorem lookS_found {T : List (ByteArray × Int × Int)} {p : Nat} {nm s : ByteArray} {a b : Int} (h : T[p]? = some (nm, a, b)) (hn : lookS (T.take p) s = none) (he : (nm.toList == s.toList) = true) : lookS T s = some (a, b) := by
  obtain ⟨hp, e⟩ := List.getElem?_eq_some_iff.1 h
  have : T = T.take p ++ (nm, a, b) :: T.drop (p + 1) := by
    conv => lhs; rw [← List.take_append_drop p T, List.drop_eq_getElem_cons hp, e]
  rw [this]
  unfold lookS at hn ⊢
  rw [Option.map_eq_none_iff] at hn
  rw [List.find?_append, hn, Option.none_or, List.find?_cons]
  simp only [he]
  rfl
def addrR (os : List OV) (s : ByteArray) : Int × Bool := match lookS (tabF 0 0 os) s with | some (_, b) => (b, true) | none => (0, false)
set_option maxRecDepth 100000 in
set_option maxHeartbeats 4000000 in
theorem address_any (A : Option Addr) (n c : Nat) (os : List OV) (s : ByteArray) (w : World) (hO : ObsR w A n c os) (hn : n ≤ 8) (hv : ∀ o ∈ os, o.valid = 0) :
    Calls Try.prog 48 #[.slice A n c, .string s] w fun e w' => e = .returned (.tuple #[.int .i64 (addrR os s).1, .bool (addrR os s).2]) ∧ Q w w' := by
  have hl := hO.sl.len
  have hv5 : ∀ o ∈ os, o.1.n ≤ 512 := fun o ho => (valid_parts (hO.all o ho).s.len (hv o ho)).1
  have HS := hide (rstarts_any A n c os w hO (by omega) hv5)
  have HL := hide hl
  have HO := hide hO
  have HV := hide hv
  have HOFF := hide (fun k => offF_le hv5 k)
  have hni : (n : Int) ≤ 8 := by omega
  obtain ⟨T, hT⟩ : ∃ T, tabF 0 0 os = T := ⟨_, rfl⟩
  have HT := hide hT
  have HTL := hide (show T.length = cntS os by rw [← hT]; exact tabF_length _ _ _)
  clear hO hl hv hv5 hT
  go_enter Try.func48, Try.ntmps48
  go_wp2_with fail
  refine HS.out.mono ?_
  rintro e w1 ⟨v1, rfl, hown1, hq1⟩
  obtain ⟨g, cc, rfl, hg1, hg2, hg3, hg4, _, _⟩ := own_at hown1 (by omega)
  unfold maxLen at hg4
  have HOW := hide hown1
  clear hown1
  go_wp2_with fail
  go_loopw [7] (fun vi wr => ∃ i : Nat, i ≤ n ∧ vi = .int .i64 i ∧ lookS (T.take (cntS (os.take i))) s = none ∧ Q w1 wr) (fun vi _ => n - (intOf vi).toNat)
  case atStart => exact ⟨0, by omega, by go_num, rfl, Q.refl _⟩
  case round =>
    obtain ⟨i, hi, rfl, hlk, hq⟩ := hrel
    obtain ⟨wo, rfl⟩ : ∃ wo : World, wo = wr := ⟨_, rfl⟩
    have HLK := hide hlk
    have HQ := hide hq
    have hsz := hq.size
    clear hlk hq
    by_cases hlt : i < n
    · have hd1 : decide ((i : Int) < (n : Int)) = true := by simp; omega
      have hd0 : decide (i < n) = true := by simp; omega
      have hlti : (i : Int) < (n : Int) := by omega
      have hlti1 : (i : Int) < (n : Int) + 1 := by omega
      have hlti2 : i < n + 1 := by omega
      obtain ⟨bb, oo, ob, eA, hbb, g1, _, _, _, hob⟩ := (HO.out.up (hq1.trans HQ.out)).at_ i hlt
      obtain ⟨⟨A0, n0, c0, bs⟩, ⟨A1, n1, c1, ss⟩, ⟨A2, n2, c2, ws⟩⟩ := ob
      subst eA
      obtain ⟨v0, v1, v2⟩ := valid_parts hob.s.len (HV.out _ (List.mem_of_getElem? g1))
      have hsl := hob.s.len
      dsimp only at v0 v1 v2 hsl
      have hn1i : (n1 : Int) ≤ 16 := by omega
      have G1 := hide g1
      have HSL := hide hsl
      have V2 := hide v2
      have hof := HOFF.out i
      obtain ⟨ofk, hofe⟩ : ∃ ofk, offF (os.take i) = ofk := ⟨_, rfl⟩
      obtain ⟨cn, hcn⟩ : ∃ cn, cntS (os.take i) = cn := ⟨_, rfl⟩
      rw [hofe] at hof
      have HOE := hide hofe
      have HCN := hide hcn
      have hofi : (ofk : Int) ≤ 4352 := by omega
      clear g1 hob hsl v2 hofe hcn
      go_wp2_with fail
      clear hd1 hd0
      go_loopw [8] (fun vi wr => ∃ k : Nat, k ≤ n1 ∧ vi = .int .i64 k ∧ lookS (T.take (cn + k)) s = none ∧ Q wo wr) (fun vi _ => n1 - (intOf vi).toNat)
      case atStart => exact ⟨0, by omega, by go_num, by rw [← HCN.out]; exact HLK.out, Q.refl _⟩
      case round =>
        obtain ⟨k, hk, rfl, hlk, hq⟩ := hrel
        have HLK2 := hide hlk
        have hq0 := (hq1.trans HQ.out).trans hq
        have hsz2 := hq.size
        clear hlk
        obtain ⟨_, _, obi, eA3, hbi, gi, xi0, xi1, xi2, hobi⟩ := (HO.out.up hq0).at_ i hlt
        cases eA3
        rw [G1.out] at gi
        cases gi
        dsimp only at xi0 xi1 xi2
        by_cases hkn : k < n1
        · have hd1 : decide ((k : Int) < (n1 : Int)) = true := by simp; omega
          have hd0 : decide (k < n1) = true := by simp; omega
          have hkn2 : (k : Int) < (n1 : Int) := by omega
          obtain ⟨b4, o4, nm, at_, e4, hb4, g4, y1, y2⟩ := hobi.s.sym k hkn
          dsimp only at e4 y1 y2 g4
          subst e4
          obtain ⟨ha0, ha1, _⟩ := V2.out _ (List.mem_of_getElem? g4)
          dsimp only at ha0 ha1
          have hTg : T[cn + k]? = some (nm, (i : Int), (ofk : Int) + at_) := by
            have := tabF_get os 0 0 i k _ nm at_ G1.out g4
            rw [HT.out, HOE.out, HCN.out] at this
            simpa using this
          have HTG := hide hTg
          have HQ2 := hide hq
          have HQ0 := hide hq0
          have hrow := own_q HOW.out (HQ.out.trans hq)
          have hsc := rows_get hrow (startsL_get os (n + 1) i (by omega))
          rw [HOE.out] at hsc
          have hgw : g < wr.heap.size := by have := HQ.out.size; omega
          clear hobi g4 hTg hq hq0 hrow
          cases he : nm.toList == s.toList
          · have HE := hide he
            clear hsc
            go_wp2_with fail
            go_roundw
            case rel => exact ⟨k + 1, by omega, by go_num, by rw [← Nat.add_assoc]; exact lookS_step HTG.out HLK2.out HE.out, HQ2.out⟩
            case measure => simp [intOf] <;> omega
          · have E := hide (show addrR os s = ((ofk : Int) + at_, true) by unfold addrR; rw [HT.out, lookS_found HTG.out HLK2.out he])
            have hwrp : IntKind.i64.wrap ((ofk : Int) + at_) = (ofk : Int) + at_ := by rw [IntKind.wrap_i64]; omega
            go_wp2_with fail
            have hxc := ext_cell
            refine wp_region_ext (by kernel_rfl) (by kernel_rfl) ?_
            repeat (go_big_quiet_step ((fail)))
            clear hxc
            refine wpQuiet_nil ?_
            intro wz hwwz
            have hqwz := q_of_ext hwwz
            clear hwwz
            obtain ⟨hcwz, hfwz, hzwz⟩ := hqwz.facts
            try simp at hzwz
            try have hs0wz : w.heap.size < wz.heap.size := by omega
            try have hs1wz : w.heap.size + 1 < wz.heap.size := by omega
            clear hcwz hfwz xi0 xi1 xi2 y1 y2 hsc hwrp
            go_wp2_with fail
            go_ret2
            exact ⟨by rw [E.out]; rfl, HQ0.out.trans hqwz⟩
        · have hd1 : decide ((k : Int) < (n1 : Int)) = false := by simp; omega
          have hd0 : decide (k < n1) = false := by simp; omega
          obtain rfl : k = n1 := by omega
          have hqn := HQ.out.trans hq
          have HC := hide (show cntS (os.take (i + 1)) = cn + k by rw [cntS_succ G1.out, HCN.out]; dsimp only; rw [HSL.out])
          clear hobi hq hq0
          go_wp2_with fail
          go_roundw
          case rel => exact ⟨i + 1, by omega, by go_num, by rw [HC.out]; exact HLK2.out, hqn⟩
          case measure => simp [intOf] <;> omega
    · have hd1 : decide ((i : Int) < (n : Int)) = false := by simp; omega
      have hd0 : decide (i < n) = false := by simp; omega
      have E := hide (show addrR os s = (0, false) by
        have := HLK.out
        rw [List.take_of_length_le (l := os) (by have := HL.out; omega), ← HTL.out, List.take_length] at this
        unfold addrR
        rw [HT.out, this])
      have hqn := hq1.trans HQ.out
      go_wp2_with fail
      go_ret2
      exact ⟨by rw [E.out]; rfl, hqn⟩
theorem listed_zero {os : List OV} (h : listedO os = 0) : os.length ≤ 8 ∧ ∀ o ∈ os, o.valid = 0 := by
  unfold listedO at h
  split at h
  · cases h
  · rename_i h8
    split at h
    · rename_i h1; exact absurd h h1
    · rename_i h1
      refine ⟨by omega, ?_⟩
      have h1 : firstErrO os = 0 := by omega
      have : ∀ l : List OV, firstErrO l = 0 → ∀ o ∈ l, o.valid = 0 := by
        intro l
        induction l with
        | nil => intro _ o ho; cases ho
        | cons p r ih =>
          intro hf o ho
          unfold firstErrO at hf
          split at hf
          · rename_i hp
            rcases List.mem_cons.1 ho with rfl | ho
            · exact hp
            · exact ih hf o ho
          · rename_i hp; exact absurd hf hp
      exact this os h1
theorem rStarts_any (A : Option Addr) (n c : Nat) (os : List OV) (w : World) (hO : ObsR w A n c os) : Calls Try.prog 13 #[.slice A n c] w (IPost w (listedO os) (startsR os)) := by
  have hl := hO.sl.len
  have HP := hide (rlisted_any A n c os w hO)
  have HL := hide hl
  have hst : (startsL os (n + 1)).length = n + 1 := by simp [startsL]
  have HST := hide hst
  have HO := hide hO
  clear hO hst
  by_cases h0 : listedO os = 0
  · have E := hide (show startsR os = startsL os (n + 1) by unfold startsR; rw [if_pos h0, HL.out])
    obtain ⟨h8, hval⟩ := listed_zero h0
    have HS := hide (fun W hQ => rstarts_any A n c os W (HO.out.up hQ) (by omega) (fun o ho => (valid_parts (HO.out.all o ho).s.len (hval o ho)).1))
    rw [h0] at HP
    have E0 := hide h0
    clear h0 h8 hval hl
    go_enter Try.func13, Try.ntmps13
    go_wp2_with fail
    refine HP.out.mono ?_
    rintro e w1 ⟨rfl, hq1⟩
    go_wp2_with fail
    refine (HS.out _ hq1).mono ?_
    rintro e w2 ⟨v2, rfl, hown2, hq2⟩
    go_wp2_with fail
    go_ret2
    exact ⟨_, by rw [E0.out]; rfl, by rw [E.out, HST.out]; exact own_base hown2 hq1.size, hq1.trans hq2⟩
  · have dz : ((listedO os : Int) != 0) = true := by simp; omega
    have E := hide (show startsR os = [] by unfold startsR; rw [if_neg h0])
    clear h0 hl
    go_enter Try.func13, Try.ntmps13
    go_wp2_with fail
    refine HP.out.mono ?_
    rintro e w1 ⟨rfl, hq1⟩
    go_wp2_with fail
    go_ret2
    exact ⟨_, rfl, by rw [E.out]; exact World.ownsRow_nil _ _ _ _, hq1⟩
theorem rFind_any (A : Option Addr) (n c : Nat) (os : List OV) (s : ByteArray) (w : World) (hO : ObsR w A n c os) :
    Calls Try.prog 15 #[.slice A n c, .string s] w fun e w' => e = .returned (.tuple #[.int .i64 (findR os s).1, .bool (findR os s).2, .int .i64 (listedO os : Nat)]) ∧ Q w w' := by
  have hl := hO.sl.len
  have HP := hide (rlisted_any A n c os w hO)
  have HO := hide hO
  clear hO
  by_cases h0 : listedO os = 0
  · have E := hide (show findR os s = addrR os s by unfold findR addrR; rw [if_pos h0]; rfl)
    obtain ⟨h8, hval⟩ := listed_zero h0
    have HS := hide (fun W hQ => address_any A n c os s W (HO.out.up hQ) (by omega) hval)
    rw [h0] at HP
    have E0 := hide h0
    obtain ⟨⟨ax, bx⟩, hab⟩ : ∃ r, addrR os s = r := ⟨_, rfl⟩
    rw [hab] at HS E
    clear h0 h8 hval hl hab
    go_enter Try.func15, Try.ntmps15
    go_wp2_with fail
    refine HP.out.mono ?_
    rintro e w1 ⟨rfl, hq1⟩
    go_wp2_with fail
    refine (HS.out _ hq1).mono ?_
    rintro e w2 ⟨rfl, hq2⟩
    go_wp2_with fail
    go_ret3
    exact ⟨by rw [E0.out, E.out]; rfl, hq1.trans hq2⟩
  · have dz : ((listedO os : Int) != 0) = true := by simp; omega
    have E := hide (show findR os s = (0, false) by unfold findR; rw [if_neg h0])
    clear h0 hl
    go_enter Try.func15, Try.ntmps15
    go_wp2_with fail
    refine HP.out.mono ?_
    rintro e w1 ⟨rfl, hq1⟩
    go_wp2_with fail
    go_ret3
    exact ⟨by rw [E.out]; rfl, hq1⟩
set_option maxHeartbeats 4000000 in
theorem rUsers_any (A : Option Addr) (n c : Nat) (os : List OV) (s : ByteArray) (w : World) (hO : ObsR w A n c os) : Calls Try.prog 17 #[.slice A n c, .string s] w (IPost w (listedO os) (usersR os s)) := by
  have hl := hO.sl.len
  have HP := hide (rlisted_any A n c os w hO)
  have HO := hide hO
  have HL := hide hl
  clear hO
  by_cases h0 : listedO os = 0
  · obtain ⟨h8, hval⟩ := listed_zero h0
    have hni : (n : Int) ≤ 8 := by omega
    have hn8 : n ≤ 8 := by omega
    have HV := hide hval
    have E := hide (show usersR os s = usersTo os s n by unfold usersR; rw [if_pos h0, HL.out])
    rw [h0] at HP
    have E0 := hide h0
    clear h0 h8 hval hl
    go_enter Try.func17, Try.ntmps17
    go_wp2_with fail
    refine HP.out.mono ?_
    rintro e w1 ⟨rfl, hq1⟩
    go_wp2_with fail
    go_loopw [7, 8] (fun v vi wr => ∃ k : Nat, k ≤ n ∧ vi = .int .i64 k ∧ wr.ownsRow w.heap.size 3 1 v (usersTo os s k).length ((usersTo os s k).map (Value.int .i64)) ∧ Q w wr) (fun _ vi _ => n - (intOf vi).toNat)
    case atStart => exact ⟨0, by omega, by go_num, World.ownsRow_nil _ _ _ _, hq1⟩
    case round =>
      obtain ⟨k, hk, rfl, hown, hq⟩ := hrel
      obtain ⟨wo, rfl⟩ : ∃ wo : World, wo = wr := ⟨_, rfl⟩
      have hsz := hq.size
      have hul := usersTo_len os s k
      have HOW := hide hown
      have HQ := hide hq
      clear hown hq
      by_cases hlt : k < n
      · have hd1 : decide ((k : Int) < (n : Int)) = true := by simp; omega
        have hd0 : decide (k < n) = true := by simp; omega
        have hlti : (k : Int) < (n : Int) := by omega
        obtain ⟨bb, oo, ob, eA, hbb, g1, _, _, _, hob⟩ := (HO.out.up HQ.out).at_ k hlt
        obtain ⟨⟨A0, n0, c0, bs⟩, ⟨A1, n1, c1, ss⟩, ⟨A2, n2, c2, ws⟩⟩ := ob
        subst eA
        have htl := hob.t.len
        dsimp only at htl
        have hn2 : n2 ≤ 16 := by
          have hv := HV.out _ (List.mem_of_getElem? g1)
          unfold OV.valid at hv
          by_cases hb : 512 < n0 ∨ 16 < ss.length ∨ 16 < ws.length
          · have := valid_big (n := n0) (ss := ss) (ws := ws) hb
            dsimp only at hv
            rw [this] at hv; cases hv
          · omega
        have hn2i : (n2 : Int) ≤ 16 := by omega
        have G1 := hide g1
        have HTL := hide htl
        have HUS := hide (usersTo_succ (s := s) g1)
        clear g1 hob htl
        go_wp2_with fail
        clear hd1 hd0
        go_loopw [7, 9] (fun v7 vi wr => ∃ j : Nat, j ≤ n2 ∧ vi = .int .i64 j ∧ (∀ a x, a < j → ws[a]? = some x → (x.2.2.toList == s.toList) = false) ∧ Q w wr ∧ wr.ownsRow w.heap.size 3 1 v7 (usersTo os s k).length ((usersTo os s k).map (.int .i64))) (fun _ vi _ => n2 - (intOf vi).toNat)
        case atStart => exact ⟨0, by omega, by go_num, fun a x hj => by omega, HQ.out, HOW.out⟩
        case round =>
          obtain ⟨j, hj, rfl, hall, hq0, hownr⟩ := hrel
          have HALL := hide hall
          have hsz2 := hq0.size
          clear hall
          obtain ⟨_, _, obi, eA3, hbi, gi, xi0, xi1, xi2, hobi⟩ := (HO.out.up hq0).at_ k hlt
          cases eA3
          rw [G1.out] at gi
          cases gi
          dsimp only at xi0 xi1 xi2
          have HOWR := hide hownr
          by_cases hjn : j < n2
          · have hd1 : decide ((j : Int) < (n2 : Int)) = true := by simp; omega
            have hd0 : decide (j < n2) = true := by simp; omega
            have hjn2 : (j : Int) < (n2 : Int) := by omega
            obtain ⟨b4, o4, at_, kd, nm, e4, hb4, g4, y1, y2, y3⟩ := hobi.t.wnt j hjn
            dsimp only at e4 y1 y2 y3 g4
            subst e4
            have G4 := hide g4
            have HQ0 := hide hq0
            clear hobi g4 hq0
            cases he : nm.toList == s.toList
            · have HE := hide he
              clear hownr
              go_wp2_with fail
              go_roundw
              case rel => exact ⟨j + 1, by omega, by go_num, fun a x ha hx => by
                by_cases e : a = j
                · subst e
                  rw [G4.out] at hx
                  cases hx
                  exact HE.out
                · exact HALL.out a x (by omega) hx, HQ0.out, HOWR.out⟩
              case measure => simp [intOf] <;> omega
            · have HWB := hide (show wantB (⟨A0, n0, c0, bs⟩, ⟨A1, n1, c1, ss⟩, ⟨some ⟨b4, o4, none⟩, n2, c2, ws⟩) s = true from List.any_eq_true.2 ⟨_, List.mem_of_getElem? G4.out, he⟩)
              go_wp2_with (at_builtin; refine wpList_app1 rfl El_int _ _ rfl rfl hownr (by simp) rfl rfl ?_ ?_ ?_ ?_; (focus (simp [Value.oneCell'])); (focus omega); (focus omega); intro v7 w7 hown7 hb7)
              go_roundw
              case rel => exact ⟨k + 1, by omega, by go_num, by rw [HUS.out, HWB.out, if_pos rfl, List.length_append, List.map_append]; exact hown7, HQ0.out.below.trans hb7⟩
              case measure => simp [intOf] <;> omega
          · have hd1 : decide ((j : Int) < (n2 : Int)) = false := by simp; omega
            have hd0 : decide (j < n2) = false := by simp; omega
            have HWB := hide (show wantB (⟨A0, n0, c0, bs⟩, ⟨A1, n1, c1, ss⟩, ⟨A2, n2, c2, ws⟩) s = false from by
              unfold wantB
              rw [List.any_eq_false]
              intro x hx
              obtain ⟨a, ha, rfl⟩ := List.getElem_of_mem hx
              dsimp only at ha
              have := HALL.out a _ (by have := HTL.out; omega) (List.getElem?_eq_getElem ha)
              rw [this]
              exact Bool.false_ne_true)
            have HR := hide hownr
            clear hobi hownr
            go_wp2_with fail
            go_roundw
            case rel => exact ⟨k + 1, by omega, by go_num, by rw [HUS.out, HWB.out, if_neg (by decide)]; exact HR.out, hq0⟩
            case measure => simp [intOf] <;> omega
      · have hd1 : decide ((k : Int) < (n : Int)) = false := by simp; omega
        have hd0 : decide (k < n) = false := by simp; omega
        obtain rfl : k = n := by omega
        have hq := HQ.out
        go_wp2_with fail
        go_ret2
        exact ⟨_, by rw [E0.out]; rfl, by rw [E.out]; exact HOW.out, hq⟩
  · have dz : ((listedO os : Int) != 0) = true := by simp; omega
    have E := hide (show usersR os s = [] by unfold usersR; rw [if_neg h0])
    clear h0 hl
    go_enter Try.func17, Try.ntmps17
    go_wp2_with fail
    refine HP.out.mono ?_
    rintro e w1 ⟨rfl, hq1⟩
    go_wp2_with fail
    go_ret2
    exact ⟨_, rfl, by rw [E.out]; exact World.ownsRow_nil _ _ _ _, hq1⟩
end Go.Proofs.Ytjdioilkhbpmoaa
