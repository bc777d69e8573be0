/- The walks of the reference's put, missing and Missing. Conditions: the lists read as such. -/
import Derived.Test.YtjdioilkhbpmoaaLinkQb
import Derived.Laws.Cover1
import Derived.Sort.Walk0
namespace Go.Proofs.Ytjdioilkhbpmoaa
open Go.RowKit LK
set_option linter.unusedVariables false
theorem insT_len (s : Tx) : ∀ l : List Tx, (insT s l).length ≤ l.length + 1
  | [] => by simp [insT]
  | x :: r => by
    have := insT_len s r
    unfold insT
    split
    · simp
    · split <;> simp <;> omega
theorem insT_at {s x : Tx} {l : List Tx} {i : Nat} (h : l[i]? = some x) : insT s (l.drop i) = if s < x then s :: l.drop i else if x = s then l.drop i else x :: insT s (l.drop (i + 1)) := by
  obtain ⟨hi, e⟩ := List.getElem?_eq_some_iff.1 h
  rw [List.drop_eq_getElem_cons hi, e, insT]
theorem drop_at {x : Tx} {l : List Tx} {i : Nat} (h : l[i]? = some x) : l.drop i = x :: l.drop (i + 1) := by
  obtain ⟨hi, e⟩ := List.getElem?_eq_some_iff.1 h
  rw [List.drop_eq_getElem_cons hi, e]
def tb (x : Tx) : ByteArray := ⟨x.toArray⟩
theorem tb_list (x : Tx) : (tb x).toList = x := by rw [Lib.toList_data]; rfl
theorem bl_list (s : ByteArray) : bl s = s.toList := by rw [Lib.toList_data]; rfl
set_option maxRecDepth 100000 in
set_option maxHeartbeats 4000000 in
theorem rput_any (A : Option Addr) (n c : Nat) (set : List Tx) (s : ByteArray) (w : World) (hR : Rd w w.heap.size A (set.map encStr)) (hl : set.length = n) (hn : n ≤ 1000) :
    Calls Try.prog 91 #[.slice A n c, .string s] w fun e w' => ∃ v, e = .returned v ∧ w'.ownsRow w.heap.size 9 1 v (insT (bl s) set).length ((insT (bl s) set).map encStr) ∧ Q w w' := by
  have HR := hide hR
  have HL := hide hl
  obtain ⟨R, hRR⟩ : ∃ R, insT (bl s) set = R := ⟨_, rfl⟩
  rw [hRR]
  have HRR := hide hRR
  have hni : (n : Int) ≤ 1000 := by omega
  clear hR hRR hl
  go_enter Try.func91, Try.ntmps91
  go_wp2_with fail
  go_loopw [5, 6, 7] (fun v5 vd vi wr => ∃ (i : Nat) (out : List Tx) (d : Bool), i ≤ n ∧ vd = .bool d ∧ vi = .int .i64 i ∧ R = out ++ (if d then set.drop i else insT (bl s) (set.drop i)) ∧ out.length ≤ i + (if d = true then 1 else 0) ∧ wr.ownsRow w.heap.size 9 1 v5 out.length (out.map encStr) ∧ Q w wr) (fun _ _ vi _ => n - (intOf vi).toNat)
  case atStart => exact ⟨0, [], false, by omega, rfl, by go_num, by rw [← HRR.out]; rfl, by simp, World.ownsRow_nil _ _ _ _, Q.refl _⟩
  case round =>
    obtain ⟨i, out, d, hi, rfl, rfl, hR, hol, hown, hq⟩ := hrel
    have HRD := hide hR
    have HQ := hide hq
    have HOW := hide hown
    have hsz := hq.size
    clear hR hown hq
    by_cases hlt : i < n
    · have hd1 : decide ((i : Int) < (n : Int)) = true := by simp; omega
      have hd0 : decide (i < n) = true := by simp; omega
      have hlti : (i : Int) < (n : Int) := by omega
      obtain ⟨b, o, rfl, hb, hc⟩ := HR.out.at_ (by rw [List.length_map]; have := HL.out; omega)
      obtain ⟨x, hx⟩ : ∃ x, set[i]? = some x := ⟨_, List.getElem?_eq_getElem (by have := HL.out; omega)⟩
      have hcw : w.cell? ⟨b, o + i, none⟩ = some (.string (tb x)) := by
        rw [hc i (by rw [List.length_map]; have := HL.out; omega)]
        simp only [List.getElem_map]
        obtain ⟨_, e⟩ := List.getElem?_eq_some_iff.1 hx
        rw [e]
        rfl
      have hcx := (HQ.out.facts.1 _ _ hb).trans hcw
      have HCW := hide hcw
      have HB := hide hb
      have hbw : b < wr.heap.size := by omega
      have HX := hide hx
      clear hc hx hb hcw
      cases d with
      | true =>
        simp only [if_true] at hol
        have HN := hide (show R = (out ++ [x]) ++ set.drop (i + 1) by rw [HRD.out, if_pos rfl, drop_at HX.out]; simp)
        go_wp2_with (at_builtin; refine wpList_app1 rfl El_text _ _ rfl rfl HOW.out rfl rfl rfl ?_ ?_ ?_ ?_; (focus (simp [Value.oneCell'])); (focus omega); (focus omega); intro v7 w7 hown7 hb7; have HO7 := hide hown7; have HB7 := hide (show Q w w7 from HQ.out.below.trans hb7); clear hown7 hb7)
        go_roundw
        case rel => exact ⟨i + 1, out ++ [x], true, by omega, rfl, by go_num, by rw [HN.out]; rfl, by simp; omega, by have h := HO7.out; simp at h ⊢; exact h, HB7.out⟩
        case measure => simp [intOf] <;> omega
      | false =>
        simp only [Bool.false_eq_true, if_false] at hol
        have hst := insT_at (s := bl s) HX.out
        by_cases h1 : bl s < x
        · have t1 : Op.bytesLess (tb x).toList s.toList = false := by rw [Go.Proofs.bytesLess_eq, tb_list, ← bl_list]; simp; exact List.le_of_lt h1
          have t2 : ((tb x).toList == s.toList) = false := by rw [tb_list, ← bl_list]; simp; intro e; exact tlt_irr _ (e ▸ h1)
          have HN := hide (show R = (out ++ [bl s] ++ [x]) ++ set.drop (i + 1) by rw [HRD.out]; simp only [Bool.false_eq_true, if_false]; rw [hst, if_pos h1, drop_at HX.out]; simp)
          clear hst h1
          go_wp2_with (at_builtin; first
            | (refine wpList_app1 rfl El_text _ _ rfl rfl HOW.out rfl rfl rfl ?_ ?_ ?_ ?_; (focus (simp [Value.oneCell'])); (focus omega); (focus omega); intro v6 w6 hown6 hb6; have HO6 := hide hown6; have HB6 := hide (show Q w w6 from HQ.out.below.trans hb6); have hc6 := (HB6.out.facts.1 _ _ HB.out).trans HCW.out; have hb6' : b < w6.heap.size := Nat.lt_of_lt_of_le HB.out HB6.out.size; clear hown6 hb6)
            | (refine wpList_app1 rfl El_text _ _ rfl rfl HO6.out rfl rfl rfl ?_ ?_ ?_ ?_; (focus (simp [Value.oneCell'])); (focus omega); (focus (exact HB6.out.size)); intro v7 w7 hown7 hb7; have HO7 := hide hown7; have HB7 := hide (show Q w w7 from HB6.out.below.trans hb7); clear hown7 hb7))
          go_roundw
          case rel => exact ⟨i + 1, out ++ [bl s] ++ [x], true, by omega, rfl, by go_num, by rw [HN.out]; rfl, by simp; omega, by have h := HO7.out; simp at h ⊢; exact h, HB7.out⟩
          case measure => simp [intOf] <;> omega
        · by_cases h2 : x = bl s
          · have t1 : Op.bytesLess (tb x).toList s.toList = false := by rw [Go.Proofs.bytesLess_eq, tb_list, ← bl_list, h2]; simp
            have t2 : ((tb x).toList == s.toList) = true := by rw [tb_list, ← bl_list, h2]; simp
            have HN := hide (show R = (out ++ [x]) ++ set.drop (i + 1) by rw [HRD.out]; simp only [Bool.false_eq_true, if_false]; rw [hst, if_neg h1, if_pos h2, drop_at HX.out]; simp)
            clear hst h1 h2
            go_wp2_with (at_builtin; refine wpList_app1 rfl El_text _ _ rfl rfl HOW.out rfl rfl rfl ?_ ?_ ?_ ?_; (focus (simp [Value.oneCell'])); (focus omega); (focus omega); intro v7 w7 hown7 hb7; have HO7 := hide hown7; have HB7 := hide (show Q w w7 from HQ.out.below.trans hb7); clear hown7 hb7)
            go_roundw
            case rel => exact ⟨i + 1, out ++ [x], true, by omega, rfl, by go_num, by rw [HN.out]; rfl, by simp; omega, by have h := HO7.out; simp at h ⊢; exact h, HB7.out⟩
            case measure => simp [intOf] <;> omega
          · have t1 : Op.bytesLess (tb x).toList s.toList = true := by rw [Go.Proofs.bytesLess_eq, tb_list, ← bl_list]; simp; exact tlt_of_not h1 h2
            have t2 : ((tb x).toList == s.toList) = false := by rw [tb_list, ← bl_list]; simpa using h2
            have HN := hide (show R = (out ++ [x]) ++ insT (bl s) (set.drop (i + 1)) by rw [HRD.out]; simp only [Bool.false_eq_true, if_false]; rw [hst, if_neg h1, if_neg h2]; simp)
            clear hst h1 h2
            go_wp2_with (at_builtin; refine wpList_app1 rfl El_text _ _ rfl rfl HOW.out rfl rfl rfl ?_ ?_ ?_ ?_; (focus (simp [Value.oneCell'])); (focus omega); (focus omega); intro v7 w7 hown7 hb7; have HO7 := hide hown7; have HB7 := hide (show Q w w7 from HQ.out.below.trans hb7); clear hown7 hb7)
            go_roundw
            case rel => exact ⟨i + 1, out ++ [x], false, by omega, rfl, by go_num, by rw [HN.out]; rfl, by simp; omega, by have h := HO7.out; simp at h ⊢; exact h, HB7.out⟩
            case measure => simp [intOf] <;> omega
    · have hd1 : decide ((i : Int) < (n : Int)) = false := by simp; omega
      have hd0 : decide (i < n) = false := by simp; omega
      obtain rfl : i = n := by omega
      have hdr : set.drop i = [] := List.drop_eq_nil_of_le (by have := HL.out; omega)
      cases d with
      | true =>
        simp only [if_true] at hol
        have HN := hide (show R = out by rw [HRD.out, if_pos rfl, hdr]; simp)
        clear hdr
        go_wp2_with fail
        go_ret
        exact ⟨_, rfl, by rw [HN.out]; exact HOW.out, HQ.out⟩
      | false =>
        simp only [Bool.false_eq_true, if_false] at hol
        have HN := hide (show R = out ++ [bl s] by rw [HRD.out]; simp only [Bool.false_eq_true, if_false]; rw [hdr]; rfl)
        clear hdr
        go_wp2_with (at_builtin; refine wpList_app1 rfl El_text _ _ rfl rfl HOW.out rfl rfl rfl ?_ ?_ ?_ ?_; (focus (simp [Value.oneCell'])); (focus omega); (focus omega); intro v7 w7 hown7 hb7; have HO7 := hide hown7; have HB7 := hide (show Q w w7 from HQ.out.below.trans hb7); clear hown7 hb7)
        go_ret
        exact ⟨_, rfl, by rw [HN.out]; have h := HO7.out; simp at h ⊢; exact h, HB7.out⟩
set_option maxRecDepth 100000 in
set_option maxHeartbeats 4000000 in
theorem rmissing_any (A : Option Addr) (n c : Nat) (os : List OV) (w : World) (hO : ObsR w A n c os) (hn : n ≤ 8) (hv : ∀ o ∈ os, o.valid = 0) :
    Calls Try.prog 70 #[.slice A n c] w fun e w' => ∃ v, e = .returned v ∧ w'.ownsRow w.heap.size 9 1 v (putT (missL (tabF 0 0 os) os)).length ((putT (missL (tabF 0 0 os) os)).map encStr) ∧ Q w w' := by
  have hl := hO.sl.len
  have HL := hide hl
  have HO := hide hO
  have HV := hide hv
  have hni : (n : Int) ≤ 8 := by omega
  have HAD := hide (fun wx (hq : Q w wx) s => address_any A n c os s wx (hO.up hq) hn hv)
  obtain ⟨T, hT⟩ : ∃ T, tabF 0 0 os = T := ⟨_, rfl⟩
  rw [hT]
  have HT := hide hT
  have HN := hide (show ∀ k, (missL T (os.take k)).length ≤ 128 from fun k => by
    have a := missL_len T (os.take k) (fun o ho => wants_le (hv o (List.mem_of_mem_take ho)))
    have b : (os.take k).length ≤ 8 := by rw [List.length_take]; omega
    omega)
  clear hO hl hv hT
  go_enter Try.func70, Try.ntmps70
  go_wp2_with fail
  go_loopw [3, 4] (fun v3 vi wr => ∃ k : Nat, k ≤ n ∧ vi = .int .i64 k ∧ Q w wr ∧ wr.ownsRow w.heap.size 9 1 v3 (putT (missL T (os.take k))).length ((putT (missL T (os.take k))).map encStr)) (fun _ vi _ => n - (intOf vi).toNat)
  case atStart => exact ⟨0, by omega, by go_num, Q.refl _, World.ownsRow_nil _ _ _ _⟩
  case round =>
    obtain ⟨k, hk, rfl, hq, hrow⟩ := hrel
    have hml := HN.out k
    obtain ⟨ml, hmle⟩ : ∃ ml, missL T (os.take k) = ml := ⟨_, rfl⟩
    rw [hmle] at hrow hml
    have HML := hide hmle
    have HQ := hide hq
    have hszw := hq.size
    have HROW := hide hrow
    clear hmle hq hrow
    by_cases hlt : k < n
    · have hd1 : decide ((k : Int) < (n : Int)) = true := by simp; omega
      have hd0 : decide (k < n) = true := by simp; omega
      have hlti : (k : Int) < (n : Int) := by omega
      obtain ⟨b1, o1, ob, rfl, hbw, g1, x1, x2, x3, hob⟩ := HO.out.at_ k hlt
      obtain ⟨⟨A0, n0, c0, bs⟩, ⟨A1, n1, c1, ss⟩, ⟨A2, n2, c2, ws⟩⟩ := ob
      have hwl := wants_le (HV.out _ (List.mem_of_getElem? g1))
      have htl := hob.t.len
      dsimp only at x1 x2 x3 hwl htl
      have hn2i : (n2 : Int) ≤ 16 := by omega
      have HOB := hide hob
      have HST := hide (missL_step (T := T) g1)
      have HTL := hide htl
      have X3 := hide x3
      have HBW := hide hbw
      clear hob g1 x1 x2 x3 hbw
      go_wp2_with fail
      clear hd1 hd0
      go_loopw [3, 5] (fun v3 vi wx => ∃ j : Nat, j ≤ n2 ∧ vi = .int .i64 j ∧ Q w wx ∧ wx.ownsRow w.heap.size 9 1 v3 (putT (ml ++ missW T (ws.take j))).length ((putT (ml ++ missW T (ws.take j))).map encStr)) (fun _ vi _ => n2 - (intOf vi).toNat)
      case atStart => exact ⟨0, by omega, by go_num, HQ.out, by have h := HROW.out; simpa [missW] using h⟩
      case round =>
        obtain ⟨j, hj, rfl, hqx, hrx⟩ := hrel
        obtain ⟨wx, rfl⟩ : ∃ wx : World, wx = wr := ⟨_, rfl⟩
        have hszx := hqx.size
        have x3 := (hqx.facts.1 _ _ HBW.out).trans X3.out
        have hb1 : b1 < wx.heap.size := by have := HBW.out; omega
        have hmwl := missW_len T (ws.take j)
        rw [List.length_take] at hmwl
        have hpl := putT_len (ml ++ missW T (ws.take j))
        rw [List.length_append] at hpl
        obtain ⟨L, hL⟩ : ∃ L, putT (ml ++ missW T (ws.take j)) = L := ⟨_, rfl⟩
        rw [hL] at hrx hpl
        obtain ⟨A6, c6, e6, hc60, hc6, _, hrd⟩ := own_form hrx
        subst e6
        unfold maxLen at hc6
        have HQX := hide hqx
        have HRX := hide hrx
        have HLL := hide hL
        clear hqx hrx hL
        by_cases hjn : j < n2
        · have hd1 : decide ((j : Int) < (n2 : Int)) = true := by simp; omega
          have hd0 : decide (j < n2) = true := by simp; omega
          have hjni : (j : Int) < (n2 : Int) := by omega
          obtain ⟨b4, o4, at_, kd, nm, e4, hb4, g4, y1, y2, y3⟩ := (HOB.out.t.up HQX.out).wnt j hjn
          dsimp only at e4 y1 y2 y3 g4
          subst e4
          have HMS := hide (missW_step (T := T) g4)
          have HC := hide (HAD.out wx HQX.out nm)
          have hex : addrR os nm = match lookS T nm with | some (_, b) => (b, true) | none => (0, false) := by unfold addrR; rw [HT.out]; rfl
          have HY3 := hide ((HOB.out.t).wnt j hjn)
          clear g4
          have HC3 := hide (HOB.out.t.up HQX.out)
          clear HY3
          cases hlk : lookS T nm with
          | none =>
            rw [hlk] at hex
            rw [hex] at HC
            have HML2 := hide (show putT (ml ++ missW T (ws.take (j + 1))) = insT (bl nm) L by rw [HMS.out]; dsimp only; rw [hlk, ← HLL.out, ← putT_snoc, List.append_assoc]; rfl)
            have HRD := hide hrd
            have HLn := hide (show L.length ≤ 1000 by omega)
            clear hlk hex hrd hc60 hc6 HMS hmwl hpl
            go_wp2_with fail
            refine HC.out.mono ?_
            rintro e w4 ⟨rfl, hq4⟩
            have HQ4 := hide (HQX.out.trans hq4)
            have x3 := (hq4.facts.1 _ _ hb1).trans x3
            have y3 := (hq4.facts.1 _ _ hb4).trans y3
            have hb1 : b1 < w4.heap.size := by have := hq4.size; omega
            have hb4 : b4 < w4.heap.size := by have := hq4.size; omega
            have HPT := hide (rput_any A6 L.length c6 L nm w4 (HRD.out.up hq4) rfl HLn.out)
            clear hq4
            go_wp2_with fail
            refine HPT.out.mono ?_
            rintro e w5 ⟨v5, rfl, hown5, hq5⟩
            have HQ5 := hide (HQ4.out.trans hq5)
            have HR5 := hide (own_base2 hown5 HQ4.out.size)
            clear hown5 hq5
            go_wp2_with fail
            go_roundw
            case rel => exact ⟨j + 1, by omega, by go_num, HQ5.out, by rw [HML2.out]; exact HR5.out⟩
            case measure => simp [intOf] <;> omega
          | some pq =>
            obtain ⟨p, q⟩ := pq
            rw [hlk] at hex
            rw [hex] at HC
            have HML2 := hide (show putT (ml ++ missW T (ws.take (j + 1))) = L by rw [HMS.out]; dsimp only; rw [hlk, ← HLL.out]; rfl)
            clear hlk hex hrd hc60 hc6 HMS hmwl hpl
            go_wp2_with fail
            refine HC.out.mono ?_
            rintro e w4 ⟨rfl, hq4⟩
            have HQ4 := hide (HQX.out.trans hq4)
            have HR4 := hide (own_q HRX.out hq4)
            clear hq4
            go_wp2_with fail
            go_roundw
            case rel => exact ⟨j + 1, by omega, by go_num, HQ4.out, by rw [HML2.out]; exact HR4.out⟩
            case measure => simp [intOf] <;> omega
        · have hd1 : decide ((j : Int) < (n2 : Int)) = false := by simp; omega
          have hd0 : decide (j < n2) = false := by simp; omega
          obtain rfl : j = n2 := by omega
          have HE2 := hide (show missL T (os.take (k + 1)) = ml ++ missW T (ws.take j) by rw [HST.out, HML.out, List.take_of_length_le (by have := HTL.out; omega)])
          clear hc60 hc6 hmwl hrd hpl
          go_wp2_with fail
          go_roundw
          case rel => exact ⟨k + 1, by omega, by go_num, HQX.out, by rw [HE2.out, HLL.out]; exact HRX.out⟩
          case measure => simp [intOf] <;> omega
    · have hd1 : decide ((k : Int) < (n : Int)) = false := by simp; omega
      have hd0 : decide (k < n) = false := by simp; omega
      obtain rfl : k = n := by omega
      have HE2 := hide (show missL T os = ml by rw [← HML.out, List.take_of_length_le (by rw [HL.out]; exact Nat.le_refl _)])
      go_wp2_with fail
      go_ret
      exact ⟨_, rfl, by rw [HE2.out]; exact HROW.out, HQ.out⟩
theorem rMissing_any (A : Option Addr) (n c : Nat) (os : List OV) (w : World) (hO : ObsR w A n c os) : Calls Try.prog 33 #[.slice A n c] w (SPost w (listedO os) (missR os)) := by
  have hl := hO.sl.len
  have HP := hide (rlisted_any A n c os w hO)
  have HL := hide hl
  have HO := hide hO
  clear hO
  by_cases h0 : listedO os = 0
  · have E := hide (show missR os = putT (missL (tabF 0 0 os) os) by unfold missR; rw [if_pos h0])
    obtain ⟨h8, hval⟩ := listed_zero2 h0
    have HS := hide (fun W hQ => rmissing_any A n c os W (HO.out.up hQ) (by omega) hval)
    rw [h0] at HP
    have E0 := hide h0
    clear h0 h8 hval hl
    go_enter Try.func33, Try.ntmps33
    go_wp2_with fail
    refine HP.out.mono ?_
    rintro e w1 ⟨rfl, hq1⟩
    go_wp2_with fail
    refine (HS.out _ hq1).mono ?_
    rintro e w2 ⟨v2, rfl, hown2, hq2⟩
    go_wp2_with fail
    go_ret2
    exact ⟨_, by rw [E0.out]; rfl, by rw [E.out]; exact own_base2 hown2 hq1.size, hq1.trans hq2⟩
  · have dz : ((listedO os : Int) != 0) = true := by simp; omega
    have E := hide (show missR os = [] by unfold missR; rw [if_neg h0])
    clear h0 hl
    go_enter Try.func33, Try.ntmps33
    go_wp2_with fail
    refine HP.out.mono ?_
    rintro e w1 ⟨rfl, hq1⟩
    go_wp2_with fail
    go_ret2
    exact ⟨_, rfl, by rw [E.out]; exact World.ownsRow_nil _ _ _ _, hq1⟩
end Go.Proofs.Ytjdioilkhbpmoaa
