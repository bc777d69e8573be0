/- The walk of the program's Missing. Conditions: the objects read as a list. -/
import Derived.Test.YtjdioilkhbpmoaaLinkQa
import Derived.Test.YtjdioilkhbpmoaaLinkSh
import Derived.Test.YtjdioilkhbpmoaaLinkDf
namespace Go.Proofs.Ytjdioilkhbpmoaa
open Go.RowKit LK
set_option linter.unusedVariables false
def SPost (w : World) (er : Nat) (xs : List Tx) (e : Ending) (w' : World) : Prop := ∃ v, e = .returned (.tuple #[v, .int .i64 (er : Nat)]) ∧ w'.ownsRow w.heap.size 9 1 v xs.length (xs.map encStr) ∧ Q w w'
def missR (os : List OV) : List Tx := if listedO os = 0 then putT (missL (tabF 0 0 os) os) else []
theorem missL_len (T : Tab) : ∀ os : List OV, (∀ o ∈ os, o.2.2.xs.length ≤ 16) → (missL T os).length ≤ 16 * os.length
  | [], _ => by simp [missL]
  | o :: r, h => by
    have ih := missL_len T r (fun x hx => h x (List.mem_cons_of_mem _ hx))
    have h0 := h o (List.mem_cons_self ..)
    have h1 := missW_len T o.2.2.xs
    have e : missL T (o :: r) = missW T o.2.2.xs ++ missL T r := by simp [missL]
    rw [e, List.length_append, List.length_cons]
    omega
theorem own_cut {w : World} {base e g n cap : Nat} {xs : List Value} (h : w.ownsRow base e 1 (.slice (some ⟨g, 0, none⟩) n cap) n xs) (m : Nat) (hm : m ≤ n) : w.ownsRow base e 1 (.slice (some ⟨g, 0, none⟩) m cap) m (xs.take m) := by
  have h0 := h.1
  rcases h.2 with ⟨e0, _⟩ | ⟨g', cap', cur, e0, hg, hh, hn, hc, hs, ht⟩
  · cases e0
  · cases e0
    refine ⟨by rw [List.length_take]; omega, .inr ⟨_, _, cur, rfl, hg, hh, by omega, hc, hs, ?_⟩⟩
    rw [← ht, List.take_take]
    congr 1
    omega
/-- the library's sort, then its compact, at a row of the call's own -/
theorem sorted_own {w : World} {base g cap : Nat} {ss : List Tx} (h : w.ownsRow base 9 1 (.slice (some ⟨g, 0, none⟩) ss.length cap) ss.length (ss.map encStr)) (hl : ss.length ≤ 1000000) :
    Calls Try.prog 72 #[.slice (some ⟨g, 0, none⟩) ss.length cap] w fun e w' => e = .returned (.tuple #[]) ∧ w.grownBy w' (some g) ∧ w'.ownsRow base 9 1 (.slice (some ⟨g, 0, none⟩) ss.length cap) ss.length ((ss.mergeSort fun x y => decide (x ≤ y)).map encStr) := by
  rcases h.2 with ⟨e0, _⟩ | ⟨g', cap', cur, e0, hg, hh, hn, hc, hs, ht⟩
  · cases e0
  · cases e0
    rw [Nat.mul_one] at ht
    refine (Try.slices_Sort_string g 0 cap ss w (holds_of_block hh ht) (Array.getElem?_eq_some_iff.1 hh).1 (by omega)).mono ?_
    rintro e w' ⟨rfl, q, os, rfl⟩
    exact ⟨rfl, grownBy_sorted _, ownsRow_sorted (by simp) hg hh hn hc hs⟩
theorem compact_own {w : World} {base g cap : Nat} {zs : List Tx} (h : w.ownsRow base 9 1 (.slice (some ⟨g, 0, none⟩) zs.length cap) zs.length (zs.map encStr)) (hl : zs.length ≤ 1000000) :
    Calls Try.prog 73 #[.slice (some ⟨g, 0, none⟩) zs.length cap] w fun e w' => e = .returned (.slice (some ⟨g, 0, none⟩) (Lib.compact zs).length cap) ∧ w.grownBy w' (some g) ∧ w'.ownsRow base 9 1 (.slice (some ⟨g, 0, none⟩) (Lib.compact zs).length cap) (Lib.compact zs).length ((Lib.compact zs).map encStr) := by
  have hle := Lib.compact_length_le zs
  rcases h.2 with ⟨e0, _⟩ | ⟨g', cap', cur, e0, hg, hh, hn, hc, hs, ht⟩
  · cases e0
  · cases e0
    rw [Nat.mul_one] at ht
    refine (Try.slices_Compact_string g 0 cap zs w (holds_of_block hh ht) (by omega) hn).mono ?_
    rintro e w' ⟨rfl, q, rfl⟩
    have e0 := Sort.grow_empty (Sort.putRow encStr (Sort.ahead w q) g 0 (Lib.compact zs ++ List.replicate (zs.length - (Lib.compact zs).length) []).toArray)
    rw [← e0]
    refine ⟨rfl, grownBy_sorted _, ?_⟩
    have h2 := ownsRow_sorted (n := q) (os := #[]) (ss := zs) (ts := Lib.compact zs ++ List.replicate (zs.length - (Lib.compact zs).length) []) (by simp; omega) hg hh hn hc hs
    have h3 := own_cut h2 (Lib.compact zs).length hle
    rw [List.map_append, List.take_left' (by simp)] at h3
    exact h3
set_option maxRecDepth 100000 in
set_option maxHeartbeats 8000000 in
theorem Missing_any (A : Option Addr) (n c : Nat) (os : List OV) (w : World) (hO : ObsR w A n c os) : Calls Try.prog 32 #[.slice A n c] w (SPost w (listedO os) (missR os)) := by
  have hl := hO.sl.len
  have HP := hide (open_any A n c os w hO)
  have HL := hide hl
  have HO := hide hO
  clear hO hl
  go_enter Try.func32, Try.ntmps32
  go_wp2_with fail
  refine HP.out.mono ?_
  rintro e w1 ⟨hq1, hcase⟩
  rcases hcase with ⟨hne, rfl⟩ | ⟨h0, As, cs, mb, rfl, hown, hmp⟩
  · have dz : ((listedO os : Int) != 0) = true := by simp; omega
    have E := hide (show missR os = [] by unfold missR; rw [if_neg hne])
    clear hne
    go_wp2_with fail
    go_ret2
    exact ⟨_, rfl, by rw [E.out]; exact World.ownsRow_nil _ _ _ _, hq1.alloc _⟩
  · obtain ⟨As', cs', e', h1, hc, _, hr⟩ := own_form hown
    cases e'
    have dz : ((listedO os : Int) != 0) = false := by rw [h0]; rfl
    obtain ⟨T, hT⟩ : ∃ T, tabF 0 0 os = T := ⟨_, rfl⟩
    obtain ⟨w2, hw2⟩ : ∃ w2, w1.alloc (.cells #[.slice A n c, .slice As (n + 1) cs, .map (some mb)] 77) = w2 := ⟨_, rfl⟩
    have hq2 : Q w1 w2 := by rw [← hw2]; exact (Q.refl w1).alloc _
    obtain ⟨h8, hv⟩ := listed_zero2 h0
    have hb2 : w2.heap[w1.heap.size]? = some (.cells #[.slice A n c, .slice As (n + 1) cs, .map (some mb)] 77 (0, 0)) := by rw [← hw2]; exact heap_alloc_new w1 _
    have hs2 : w1.heap.size < w2.heap.size := by rw [← hw2]; simp
    have K2 := hide (cell_blkJ (j := 2) hb2 rfl)
    have HW2 := hide hw2
    have H0 := hide h0
    have HV := hide hv
    have HE := hide (show missR os = putT (missL T os) by unfold missR; rw [if_pos h0, hT])
    rw [hT] at hmp
    have HM := hide (hmp.up hq2)
    have HQ2 := hide (hq1.trans hq2)
    have HN := hide (show ∀ k, (missL T (os.take k)).length ≤ 128 from fun k => by
      have a := missL_len T (os.take k) (fun o ho => wants_le (hv o (List.mem_of_mem_take ho)))
      have b : (os.take k).length ≤ 8 := by rw [List.length_take]; omega
      omega)
    have hn8 : n ≤ 8 := by have := HL.out; omega
    have hni : (n : Int) ≤ 8 := by omega
    clear hw2 hv h8 hown hmp hr hb2 hT hc h1 hq1 hq2
    go_wp2_with fail
    rw [HW2.out]
    clear dz h0
    go_loopw [6, 23] (fun v6 vi wr => ∃ k : Nat, k ≤ n ∧ vi = .int .i64 k ∧ Q w2 wr ∧ wr.ownsRow w2.heap.size 9 1 v6 (missL T (os.take k)).length ((missL T (os.take k)).map encStr)) (fun _ vi _ => n - (intOf vi).toNat)
    case atStart => exact ⟨0, by omega, by go_num, Q.refl _, World.ownsRow_nil _ _ _ _⟩
    case round =>
      obtain ⟨k, hk, rfl, hq, hrow⟩ := hrel
      have hml := HN.out k
      obtain ⟨ml, hmle⟩ : ∃ ml, missL T (os.take k) = ml := ⟨_, rfl⟩
      rw [hmle] at hrow hml
      have HML := hide hmle
      have HQ := hide hq
      have HW := hide (HQ2.out.trans hq)
      have hszw := hq.size
      clear hmle hq
      by_cases hlt : k < n
      · have hd1 : decide ((k : Int) < (n : Int)) = true := by simp; omega
        have hd0 : decide (k < n) = true := by simp; omega
        have hlti : (k : Int) < (n : Int) := by omega
        obtain ⟨b1, o1, ob, rfl, hbw, g1, x1, x2, x3, hob⟩ := HO.out.at_ k hlt
        obtain ⟨⟨A0, n0, c0, bs⟩, ⟨A1, n1, c1, ss⟩, ⟨A2, n2, c2, ws⟩⟩ := ob
        have hwl := wants_le (HV.out _ (List.mem_of_getElem? g1))
        have htl := hob.t.len
        dsimp only at x1 x2 x3 hwl htl
        have x1 := (HW.out.facts.1 _ _ hbw).trans x1
        have x2 := (HW.out.facts.1 _ _ hbw).trans x2
        have x3 := (HW.out.facts.1 _ _ hbw).trans x3
        have hb1 : b1 < wr.heap.size := by have := HW.out.size; omega
        have hn2i : (n2 : Int) ≤ 16 := by omega
        have HOB := hide hob
        have HST := hide (missL_step (T := T) g1)
        have HTL := hide htl
        have HROW := hide (hrow.alloc (.cells #[.slice A0 n0 c0, .slice A1 n1 c1, .slice A2 n2 c2] 41))
        have HQA := hide (HQ.out.alloc (.cells #[.slice A0 n0 c0, .slice A1 n1 c1, .slice A2 n2 c2] 41))
        clear hob g1 hrow
        go_wp2_with fail
        clear hd1 hd0
        go_loopw [6, 30] (fun v6 vi wx => ∃ j : Nat, j ≤ n2 ∧ vi = .int .i64 j ∧ Q w2 wx ∧ wx.ownsRow w2.heap.size 9 1 v6 (ml ++ missW T (ws.take j)).length ((ml ++ missW T (ws.take j)).map encStr)) (fun _ vi _ => n2 - (intOf vi).toNat)
        case atStart => exact ⟨0, by omega, by go_num, HQA.out, by have h := HROW.out; simpa [missW] using h⟩
        case round =>
          clear x1 x2 x3 hb1
          obtain ⟨j, hj, rfl, hqx, hrx⟩ := hrel
          obtain ⟨wx, rfl⟩ : ∃ wx : World, wx = wr := ⟨_, rfl⟩
          have hszx := hqx.size
          have kx2 : wx.cell? ⟨w1.heap.size, 2, none⟩ = some (.map (some mb)) := (hqx.facts.1 _ _ hs2).trans K2.out
          have hx1 : w1.heap.size < wx.heap.size := by omega
          have hmwl := missW_len T (ws.take j)
          rw [List.length_take] at hmwl
          obtain ⟨A6, c6, e6, hc60, hc6, _⟩ := own_form hrx
          subst e6
          unfold maxLen at hc6
          have HQX := hide hqx
          have HRX := hide hrx
          clear hqx hrx
          by_cases hjn : j < n2
          · have hd1 : decide ((j : Int) < (n2 : Int)) = true := by simp; omega
            have hd0 : decide (j < n2) = true := by simp; omega
            have hjni : (j : Int) < (n2 : Int) := by omega
            obtain ⟨b4, o4, at_, kd, nm, e4, hb4, g4, y1, y2, y3⟩ := (HOB.out.t.up (HQ2.out.trans HQX.out)).wnt j hjn
            dsimp only at e4 y1 y2 y3 g4
            subst e4
            have HMS := hide (missW_step (T := T) g4)
            have hnm : nm.size ≤ 9223372036854775807 := by have := HOB.out.tok _ (List.mem_of_getElem? g4); dsimp only at this; omega
            have HM8 := hide ((HM.out.up HQX.out).up ((Q.refl wx).alloc (.cells #[.int .i64 at_, .int .i64 kd, .string nm] 74)))
            clear g4
            cases hlk : lookS T nm with
            | none =>
              have HK := hide hlk
              have HML2 := hide (show ml ++ missW T (ws.take (j + 1)) = ml ++ missW T (ws.take j) ++ [bl nm] by rw [HMS.out]; dsimp only; rw [hlk, List.append_assoc]; rfl)
              obtain ⟨L, hL⟩ : ∃ L, ml ++ missW T (ws.take j) = L := ⟨_, rfl⟩
              rw [hL] at HRX HML2
              have hLl : L.length ≤ 144 := by rw [← hL, List.length_append]; omega
              have HRB := hide ((HRX.out.alloc (.cells #[.int .i64 at_, .int .i64 kd, .string nm] 74)).alloc (.cells #[.int .i64 0, .int .i64 0] 83))
              have HQB := hide ((HQX.out.alloc (.cells #[.int .i64 at_, .int .i64 kd, .string nm] 74)).alloc (.cells #[.int .i64 0, .int .i64 0] 83))
              have hrl : (ml ++ missW T (ws.take j)).length = L.length := by rw [hL]
              rw [hrl] at *
              clear hlk hL hrl hc60 hc6 HMS hmwl
              go_wp2_with (first | (at_lookup; refine wpList_lookN rfl _ _ rfl rfl HM8.out nm rfl hnm HK.out ?_) | (at_builtin; refine wpList_app1g rfl El_text _ _ rfl rfl HRB.out (by simp) rfl rfl ?_ ?_ ?_ ?_; (focus (simp [Value.oneCell'])); (focus omega); (focus (simp; omega)); intro v9 w9 hown9 hg9; have HQ9 := hide (q_grown HQB.out hg9 (fun k e => (HRB.out.lt k e).1)); have HR9 := hide hown9; clear hown9 hg9))
              go_roundw
              case rel => exact ⟨j + 1, by omega, by go_num, HQ9.out, by rw [HML2.out, List.map_append, List.length_append]; exact HR9.out⟩
              case measure => simp [intOf] <;> omega
            | some pq =>
              obtain ⟨p, q⟩ := pq
              have HK := hide hlk
              have HML2 := hide (show ml ++ missW T (ws.take (j + 1)) = ml ++ missW T (ws.take j) by rw [HMS.out]; dsimp only; rw [hlk]; rfl)
              have HRB := hide ((HRX.out.alloc (.cells #[.int .i64 at_, .int .i64 kd, .string nm] 74)).alloc (.cells #[.int .i64 p, .int .i64 q] 83))
              have HQB := hide ((HQX.out.alloc (.cells #[.int .i64 at_, .int .i64 kd, .string nm] 74)).alloc (.cells #[.int .i64 p, .int .i64 q] 83))
              clear hlk hc60 hc6 HMS hmwl
              go_wp2_with (at_lookup; refine wpList_lookF rfl _ _ rfl rfl HM8.out nm rfl hnm HK.out ?_)
              go_roundw
              case rel => exact ⟨j + 1, by omega, by go_num, HQB.out, by rw [HML2.out]; have h := HRB.out; simp only [List.length_append] at h ⊢; exact h⟩
              case measure => simp [intOf] <;> omega
          · have hd1 : decide ((j : Int) < (n2 : Int)) = false := by simp; omega
            have hd0 : decide (j < n2) = false := by simp; omega
            obtain rfl : j = n2 := by omega
            have HE2 := hide (show missL T (os.take (k + 1)) = ml ++ missW T (ws.take j) by rw [HST.out, HML.out, List.take_of_length_le (by have := HTL.out; omega)])
            clear hc60 hc6 hmwl
            go_wp2_with fail
            go_roundw
            case rel => exact ⟨k + 1, by omega, by go_num, HQX.out, by rw [HE2.out]; have h := HRX.out; simp only [List.length_append] at h ⊢; exact h⟩
            case measure => simp [intOf] <;> omega
      · have hd1 : decide ((k : Int) < (n : Int)) = false := by simp; omega
        have hd0 : decide (k < n) = false := by simp; omega
        obtain rfl : k = n := by omega
        have HE2 := hide (show missR os = sortT ml by rw [HE.out, sortT_eq, ← HML.out, List.take_of_length_le (by rw [HL.out]; exact Nat.le_refl _)])
        clear HE HML hlt
        rcases hrow.2 with ⟨rfl, hl0⟩ | ⟨g, cap, cur, rfl, hg, hh, hn, hc, hs, ht⟩
        · have hml0 : ml.length = 0 := by simpa using hl0
          obtain rfl := List.eq_nil_of_length_eq_zero hml0
          have C1 := hide (fun W => Try.slices_Sort_string_none none 0 W)
          have C2 := hide (fun W => Try.slices_Compact_string_empty none 0 W)
          have HE3 := hide (show missR os = [] by rw [HE2.out, sortT_eq]; rfl)
          clear hrow
          go_wp2_with fail
          refine (C1.out _).mono ?_
          rintro e w3 ⟨rfl, rfl⟩
          go_wp2_with fail
          refine (C2.out _).mono ?_
          rintro e w4 ⟨rfl, rfl⟩
          go_wp2_with fail
          go_ret2
          exact ⟨_, by rw [H0.out]; rfl, by rw [HE3.out]; exact World.ownsRow_nil _ _ _ _, HW.out⟩
        · have C1 := hide (sorted_own hrow (by omega))
          have HRow := hide hrow
          have hgw := hg
          clear hrow hg hh hn hc hs ht
          go_wp2_with fail
          refine C1.out.mono ?_
          rintro e w3 ⟨rfl, hg3, hown3⟩
          have HQ3 := hide (q_grown HQ.out hg3 (fun k e => by cases e; exact hgw))
          have hml2 : (ml.mergeSort fun x y => decide (x ≤ y)).length = ml.length := by simp
          rw [← hml2] at hown3 
          have C2 := hide (compact_own hown3 (by omega))
          rw [hml2] at C2
          have HCE := hide (show Lib.compact (ml.mergeSort fun x y => decide (x ≤ y)) = sortT ml from rfl)
          rw [HCE.out] at C2
          clear hg3 hown3 hml2
          go_wp2_with fail
          refine C2.out.mono ?_
          rintro e w4 ⟨rfl, hg4, hown4⟩
          have HQ4 := hide (q_grown HQ3.out hg4 (fun k e => by cases e; exact hgw))
          have HR4 := hide hown4
          clear hg4 hown4
          go_wp2_with fail
          go_ret2
          exact ⟨_, by rw [H0.out]; rfl, by rw [HE2.out]; exact own_base2 HR4.out HQ2.out.size, HQ2.out.trans HQ4.out⟩
end Go.Proofs.Ytjdioilkhbpmoaa
