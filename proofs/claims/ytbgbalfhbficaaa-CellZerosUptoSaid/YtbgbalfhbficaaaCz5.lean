/- The reference's within, greatest, partsAre, is. The reference's Validate of a layout. The program's sum, bits, cells of a layout. The program's isRight of a layout. Conditions: as each theorem says. -/
import Derived.Test.YtbgbalfhbficaaaCz4
namespace Go.Proofs.Ytbgbalfhbficaaa
set_option maxRecDepth 100000
set_option maxHeartbeats 2000000
open Go.RowKit
set_option linter.unusedVariables false
set_option linter.unusedSimpArgs false
theorem within_any (n lo hi : Int) (w : World) : Calls Try.prog 123 #[.int .i64 n, .int .i64 lo, .int .i64 hi] w (R1 w (.bool (decide (lo ≤ n) && decide (n ≤ hi)))) := by
 unfold R1
 by_cases h1 : lo ≤ n
 ·have d1 : decide (lo ≤ n) = true := by simp [h1]
  have d2 : decide (n ≥ lo) = true := d1
  go_enter Try.func123, Try.ntmps123
  go_wp2_with fail
  go_ret
  exact ⟨by rw [d1]; rfl, Q.refl _⟩
 ·have d1 : decide (lo ≤ n) = false := by simp [h1]
  have d2 : decide (n ≥ lo) = false := d1
  clear h1
  go_enter Try.func123, Try.ntmps123
  go_wp2_with fail
  go_ret
  exact ⟨by rw [d1]; rfl, Q.refl _⟩
theorem greatest_any (k : Int) (w : World) : Calls Try.prog 107 #[.int .i64 k] w (R1 w (.int .i64 (mostL k))) := by
 unfold R1
 by_cases h2 : k = 2
 ·subst h2
  go_enter Try.func107, Try.ntmps107
  go_wp2_with fail
  go_ret
  exact ⟨rfl, Q.refl _⟩
 by_cases h5 : k = 5
 ·subst h5
  go_enter Try.func107, Try.ntmps107
  go_wp2_with fail
  go_ret
  exact ⟨rfl, Q.refl _⟩
 by_cases h7 : k = 7
 ·subst h7
  go_enter Try.func107, Try.ntmps107
  go_wp2_with fail
  go_ret
  exact ⟨rfl, Q.refl _⟩
 have d2 : (k == 2) = false := by simp [h2]
 have d5 : (k == 5) = false := by simp [h5]
 have d7 : (k == 7) = false := by simp [h7]
 have HV := hide (show mostL k = 9223372036854775807 by unfold mostL; rw [if_neg h2, if_neg h5, if_neg h7])
 clear h2 h5 h7
 go_enter Try.func107, Try.ntmps107
 go_wp2_with fail
 go_ret
 exact ⟨by rw [HV.out]; rfl, Q.refl _⟩
theorem eqI (m c : Nat) : ((m : Int) == (c : Int)) = decide (m = c) := by
 by_cases h : m = c
 ·simp [h]
 ·have : ¬ (m : Int) = (c : Int) := by omega
  simp [h, this]
theorem geI (m c : Nat) : decide ((c : Int) ≤ (m : Int)) = decide (c ≤ m) := by
 by_cases h : c ≤ m
 ·simp [h]
 ·simp [h]
theorem partsAre_any {w : World} {l : Lay} (h : LayR w l) : ∀ W, Q w W → Calls Try.prog 124 #[l.v] W (R1 W (.bool (numL l.k l.parts.length))) := by
 cases h with
 | @mk k n f A len cap ps hk hn hsl hnil hcap hall =>
  intro W hqW
  unfold R1
  have HSL := hide hsl
  have HQW := hide hqW
  have HPL := hide hsl.len
  have hlb : (len : Int) ≤ 140737488351232 := by have := hsl.cap; omega
  show Calls _ _ #[.agg #[.int .i64 k, .int .i64 n, .bool f, .slice A len cap]] W _
  obtain ⟨w1, hw1⟩ : ∃ w1, W.alloc (.cells #[.int .i64 k, .int .i64 n, .bool f, .slice A len cap] 24) = w1 := ⟨_, rfl⟩
  obtain ⟨hq1, hs1, hc⟩ := box1 hw1
  have hlt : W.heap.size < w1.heap.size := by omega
  have K0 := hide (show w1.cell? ⟨W.heap.size, 0, none⟩ = some (.int .i64 k) from hc 0 _ rfl)
  have K1 := hide (show w1.cell? ⟨W.heap.size, 1, none⟩ = some (.int .i64 n) from hc 1 _ rfl)
  have K2 := hide (show w1.cell? ⟨W.heap.size, 2, none⟩ = some (.bool f) from hc 2 _ rfl)
  have K3 := hide (show w1.cell? ⟨W.heap.size, 3, none⟩ = some (.slice A len cap) from hc 3 _ rfl)
  have HW1 := hide hw1
  have HQ1 := hide hq1
  clear hk hn hsl hnil hcap hall  hqW hw1 hc hq1 hs1
  go_enter Try.func124, Try.ntmps124
  go_upto_region 1 with fail
  rw [HW1.out]
  have k0 := K0.out
  have k3 := K3.out
  by_cases h4 : k = 4
  ·subst h4
   have HV := hide (show numL 4 ps.length = decide (ps.length = 1) from by unfold numL; simp)
   go_wp2_with fail
   go_ret
   exact ⟨by show _ = Ending.returned (.bool (numL 4 ps.length)); rw [HV.out, HPL.out]; first | rfl | (rw [← eqI]; rfl) | (rw [← geI]; rfl), HQ1.out⟩
  by_cases h5 : k = 5
  ·subst h5
   have HV := hide (show numL 5 ps.length = decide (ps.length = 1) from by unfold numL; simp)
   go_wp2_with fail
   go_ret
   exact ⟨by show _ = Ending.returned (.bool (numL 5 ps.length)); rw [HV.out, HPL.out]; first | rfl | (rw [← eqI]; rfl) | (rw [← geI]; rfl), HQ1.out⟩
  by_cases h6 : k = 6
  ·subst h6
   have HV := hide (show numL 6 ps.length = true from by unfold numL; simp)
   go_wp2_with fail
   go_ret
   exact ⟨by show _ = Ending.returned (.bool (numL 6 ps.length)); rw [HV.out]; first | rfl | (rw [← eqI]; rfl) | (rw [← geI]; rfl), HQ1.out⟩
  by_cases h9 : k = 9
  ·subst h9
   have HV := hide (show numL 9 ps.length = true from by unfold numL; simp)
   go_wp2_with fail
   go_ret
   exact ⟨by show _ = Ending.returned (.bool (numL 9 ps.length)); rw [HV.out]; first | rfl | (rw [← eqI]; rfl) | (rw [← geI]; rfl), HQ1.out⟩
  by_cases h8 : k = 8
  ·subst h8
   have HV := hide (show numL 8 ps.length = decide (1 ≤ ps.length) from by unfold numL; simp)
   go_wp2_with fail
   go_ret
   exact ⟨by show _ = Ending.returned (.bool (numL 8 ps.length)); rw [HV.out, HPL.out]; first | rfl | (rw [← eqI]; rfl) | (rw [← geI]; rfl), HQ1.out⟩
  have d4 : (k == 4) = false := by simp [h4]
  have d5 : (k == 5) = false := by simp [h5]
  have d6 : (k == 6) = false := by simp [h6]
  have d9 : (k == 9) = false := by simp [h9]
  have d8 : (k == 8) = false := by simp [h8]
  have HV := hide (show numL k ps.length = decide (ps.length = 0) from by unfold numL; simp [h4, h5, h6, h9, h8])
  clear h4 h5 h6 h9 h8
  go_wp2_with fail
  go_ret
  exact ⟨by show _ = Ending.returned (.bool (numL k ps.length)); rw [HV.out, HPL.out]; first | rfl | (rw [← eqI]; rfl), HQ1.out⟩
def pk12 (p : Lay) : Bool := decide (p.k = 1) || decide (p.k = 2)
theorem all_takeL {f : Lay → Bool} {ps : List Lay} {j : Nat} {p : Lay} (h : ps[j]? = some p) : (ps.take (j + 1)).all f = ((ps.take j).all f && f p) := by
 rw [List.take_add_one, h, List.all_append]
 simp
theorem all_badL {f : Lay → Bool} {ps : List Lay} {j : Nat} {p : Lay} (h : ps[j]? = some p) (hf : f p = false) : ps.all f = false := by
 rw [List.all_eq_false]
 exact ⟨p, List.mem_of_getElem? h, by simp [hf]⟩
def restL (k n : Int) (ps : List Lay) : Bool := if k = 2 ∨ k = 7 then decide (1 ≤ n) else if k = 5 then decide (0 ≤ n) else if k = 9 then ps.all pk12 && decide (n = 0) else decide (n = 0)
theorem right_parts (k n : Int) (f : Bool) (A : Option Addr) (len cap : Nat) (ps : List Lay) : rightL (.mk k n f A len cap ps) = ((decide (0 ≤ k) && decide (k ≤ 9)) && (numL k ps.length && (!(f && decide (k ≠ 2)) && restL k n ps))) := by
 rw [Bool.and_assoc]
 rfl
theorem is_any {w : World} {l : Lay} (h : LayR w l) : ∀ W, Q w W → Calls Try.prog 108 #[l.v] W (R1 W (.bool (rightL l))) := by
 cases h with
 | @mk k n f A len cap ps hk hn hsl hnil hcap hall =>
  intro W hqW
  have HPA := hide (fun W (hW : Q w W) => show Calls _ _ #[.agg #[.int .i64 k, .int .i64 n, .bool f, .slice A len cap]] W _ from partsAre_any (l := .mk k n f A len cap ps) (.mk hk hn hsl hnil hcap hall) W hW)
  have HR := hide (right_parts k n f A len cap ps)
  rw [HR.out]
  unfold R1
  have HSL := hide hsl
  have HQW := hide hqW
  have HPL := hide hsl.len
  have hlb : (len : Int) ≤ 140737488351232 := by have := hsl.cap; omega
  show Calls _ _ #[.agg #[.int .i64 k, .int .i64 n, .bool f, .slice A len cap]] W _
  obtain ⟨w1, hw1⟩ : ∃ w1, W.alloc (.cells #[.int .i64 k, .int .i64 n, .bool f, .slice A len cap] 24) = w1 := ⟨_, rfl⟩
  obtain ⟨hq1, hs1, hc⟩ := box1 hw1
  have hlt : W.heap.size < w1.heap.size := by omega
  have K0 := hide (show w1.cell? ⟨W.heap.size, 0, none⟩ = some (.int .i64 k) from hc 0 _ rfl)
  have K1 := hide (show w1.cell? ⟨W.heap.size, 1, none⟩ = some (.int .i64 n) from hc 1 _ rfl)
  have K2 := hide (show w1.cell? ⟨W.heap.size, 2, none⟩ = some (.bool f) from hc 2 _ rfl)
  have K3 := hide (show w1.cell? ⟨W.heap.size, 3, none⟩ = some (.slice A len cap) from hc 3 _ rfl)
  have HW1 := hide hw1
  have HQ1 := hide hq1
  clear hk hn hsl hnil hcap hall  hqW hw1 hc hq1 hs1
  go_enter Try.func108, Try.ntmps108
  go_upto_region 1 with fail
  rw [HW1.out]
  have KA : Hid (∀ W', Q w1 W' → W'.cell? ⟨W.heap.size, 0, none⟩ = some (.int .i64 k) ∧ W'.cell? ⟨W.heap.size, 1, none⟩ = some (.int .i64 n) ∧ W'.cell? ⟨W.heap.size, 2, none⟩ = some (.bool f) ∧ W'.cell? ⟨W.heap.size, 3, none⟩ = some (.slice A len cap)) := hide fun W' h => ⟨(h.facts.1 _ 0 hlt).trans K0.out, (h.facts.1 _ 1 hlt).trans K1.out, (h.facts.1 _ 2 hlt).trans K2.out, (h.facts.1 _ 3 hlt).trans K3.out⟩
  obtain ⟨ik, hik⟩ : ∃ ik, (decide (0 ≤ k) && decide (k ≤ 9)) = ik := ⟨_, rfl⟩
  obtain ⟨nu, hnu⟩ : ∃ nu, numL k ps.length = nu := ⟨_, rfl⟩
  have HWI := hide (within_any k 0 9 w1)
  unfold R1 at HWI HPA
  have hpa : (Lay.mk k n f A len cap ps).k = k ∧ (Lay.mk k n f A len cap ps).parts = ps := ⟨rfl, rfl⟩
  rw [hpa.1, hpa.2, hnu] at HPA
  rw [hik] at HWI
  have HIK := hide hik
  have HNU := hide hnu
  clear hik hnu hpa
  have k0 := K0.out
  go_wp2_with fail
  refine HWI.out.mono ?_
  rintro e w2 ⟨rfl, hq2⟩
  have HQ2 := hide hq2
  clear k0 hq2
  cases ik with
  | false =>
   go_wp2_with fail
   go_ret
   exact ⟨by rw [HIK.out]; rfl, HQ1.out.trans HQ2.out⟩
  | true =>
   obtain ⟨k0, k1, k2, k3⟩ := KA.out w2 HQ2.out
   go_wp2_with fail
   refine (HPA.out w2 (HQW.out.trans (HQ1.out.trans HQ2.out))).mono ?_
   rintro e w3 ⟨rfl, hq3⟩
   have HQ3 := hide (HQ2.out.trans hq3)
   clear k0 k1 k2 k3 hq3
   cases nu with
   | false =>
    go_wp2_with fail
    go_ret
    exact ⟨by rw [HIK.out, HNU.out]; rfl, HQ1.out.trans HQ3.out⟩
   | true =>
    obtain ⟨k0, k1, k2, k3⟩ := KA.out w3 HQ3.out
    by_cases hfl : f = true ∧ k ≠ 2
    ·obtain ⟨rfl, hk2⟩ := hfl
     have d2 : (k != 2) = true := by simp [hk2]
     have HK2 := hide hk2
     clear hk2
     go_wp2_with fail
     go_ret
     exact ⟨by rw [HIK.out, HNU.out, show decide (k ≠ 2) = true by simp [HK2.out]]; rfl, HQ1.out.trans HQ3.out⟩
    ·have HFL := hide (show (!(f && decide (k ≠ 2))) = true by
      cases f with
      | false => rfl
      | true =>
       have : k = 2 := Classical.byContradiction fun h => hfl ⟨rfl, h⟩
       subst this
       rfl)
     have HE : Hid ((decide (0 ≤ k) && decide (k ≤ 9) && (numL k ps.length && (!(f && decide (k ≠ 2)) && restL k n ps))) = restL k n ps) := hide (by rw [HIK.out, HNU.out, HFL.out]; rfl)
     have hgo : f = false ∨ k = 2 := by
      cases f with
      | false => exact .inl rfl
      | true => exact .inr (Classical.byContradiction fun h => hfl ⟨rfl, h⟩)
     have HHQ := hide (HQ1.out.trans HQ3.out)
     clear hfl
     by_cases h2 : k = 2
     ·subst h2
      have HV := hide (show restL 2 n ps = decide (1 ≤ n) from by unfold restL; simp)
      have d1 : decide (n ≥ 1) = decide (1 ≤ n) := rfl
      cases f <;>
      ·go_wp2_with fail
       go_ret
       exact ⟨by rw [HE.out, HV.out]; rfl, HHQ.out⟩
     ·obtain rfl : f = false := by rcases hgo with h | h; exact h; exact absurd h h2
      have d2 : (k == 2) = false := by simp [h2]
      clear hgo
      by_cases h7 : k = 7
      ·subst h7
       have HV := hide (show restL 7 n ps = decide (1 ≤ n) from by unfold restL; simp)
       go_wp2_with fail
       go_ret
       exact ⟨by rw [HE.out, HV.out]; rfl, HHQ.out⟩
      by_cases h5 : k = 5
      ·subst h5
       have HV := hide (show restL 5 n ps = decide (0 ≤ n) from by unfold restL; simp)
       go_wp2_with fail
       go_ret
       exact ⟨by rw [HE.out, HV.out]; rfl, HHQ.out⟩
      by_cases h9 : k = 9
      ·subst h9
       have HV := hide (show restL 9 n ps = (ps.all pk12 && decide (n = 0)) from by unfold restL; simp)
       go_wp2_with fail
       clear k0 k1 k2 k3
       go_loopw [3] (fun vi wr => ∃ j : Nat, j ≤ len ∧ vi = .int .i64 j ∧ (ps.take j).all pk12 = true ∧ Q w3 wr) (fun vi _ => len - (intOf vi).toNat)
       case atStart => exact ⟨0, by omega, by go_num, by simp, Q.refl _⟩
       case round =>
        obtain ⟨j, hj, rfl, hall, hq⟩ := hrel
        have HALL := hide hall
        have HQ := hide hq
        obtain ⟨k0, k1, k2, k3⟩ := KA.out wr (HQ3.out.trans hq)
        clear hall
        by_cases hlt9 : j < len
        ·have hd1 : decide ((j : Int) < (len : Int)) = true := by simp; omega
         have hd0 : decide (j < len) = true := by simp; omega
         have hlti : (j : Int) < (len : Int) := by omega
         obtain ⟨b, o, m', x', y', B, l', d', qs, e, hb, hx, z0, z1, z2, z3⟩ := lay_at (HSL.out.up (HQW.out.trans (HQ1.out.trans (HQ3.out.trans hq)))) hlt9
         cases e
         have HX := hide hx
         clear hx hq
         by_cases hm1 : m' = 1
         ·subst hm1
          go_wp2_with fail
          go_roundw
          case rel => exact ⟨j + 1, by omega, by go_num, by rw [all_takeL HX.out, HALL.out]; rfl, HQ.out⟩
          case measure => simp [intOf] <;> omega
         ·have e1 : (m' != 1) = true := by simp [hm1]
          by_cases hm2 : m' = 2
          ·subst hm2
           go_wp2_with fail
           go_roundw
           case rel => exact ⟨j + 1, by omega, by go_num, by rw [all_takeL HX.out, HALL.out]; rfl, HQ.out⟩
           case measure => simp [intOf] <;> omega
          ·have e2 : (m' != 2) = true := by simp [hm2]
           have HP := hide (show pk12 (.mk m' x' y' B l' d' qs) = false by unfold pk12 Lay.k; simp [hm1, hm2])
           clear hm1 hm2
           go_wp2_with fail
           go_ret
           exact ⟨by rw [HE.out, HV.out, all_badL HX.out HP.out]; rfl, HHQ.out.trans HQ.out⟩
        ·have hd1 : decide ((j : Int) < (len : Int)) = false := by simp; omega
         have hd0 : decide (j < len) = false := by simp; omega
         obtain rfl : j = len := by omega
         have HA : Hid (ps.all pk12 = true) := hide (by
          have h9 := HALL.out
          rwa [List.take_of_length_le (by have := HPL.out; omega)] at h9)
         have HN0 := hide (show (n == 0) = decide (n = 0) by by_cases h : n = 0 <;> simp [h])
         clear hq
         go_wp2_with fail
         go_ret
         exact ⟨by rw [HE.out, HV.out, HA.out, ← HN0.out]; rfl, HHQ.out.trans HQ.out⟩
      have d7 : (k == 7) = false := by simp [h7]
      have d5 : (k == 5) = false := by simp [h5]
      have d9 : (k == 9) = false := by simp [h9]
      have HV := hide (show restL k n ps = decide (n = 0) from by unfold restL; simp [h2, h7, h5, h9])
      have HN0 := hide (show (n == 0) = decide (n = 0) by by_cases h : n = 0 <;> simp [h])
      clear h2 h7 h5 h9
      go_wp2_with fail
      go_ret
      exact ⟨by rw [HE.out, HV.out, ← HN0.out]; rfl, HHQ.out⟩
theorem flat_all {w : World} {l : Lay} (h : LayR w l) : ∀ x ∈ l.flat, LayR w x := by
 induction h with
 | @mk k n f A len cap ps h1 h2 h3 h4 h5 h6 ih =>
  intro x hx
  rw [flat_mk] at hx
  rcases List.mem_cons.1 hx with rfl | hx
  ·exact .mk h1 h2 h3 h4 h5 h6
  ·obtain ⟨p, hp, hx⟩ := List.mem_flatMap.1 hx
   exact ih p hp x hx
theorem any_takeL {f : Lay → Bool} {ps : List Lay} {j : Nat} {p : Lay} (h : ps[j]? = some p) : (ps.take (j + 1)).any f = ((ps.take j).any f || f p) := by
 rw [List.take_add_one, h, List.any_append]
 simp
theorem any_hitL {f : Lay → Bool} {ps : List Lay} {j : Nat} {p : Lay} (h : ps[j]? = some p) (hf : f p = true) : ps.any f = true := by
 rw [List.any_eq_true]
 exact ⟨p, List.mem_of_getElem? h, hf⟩
theorem Validate05_any {w : World} {l : Lay} (h : LayR w l) : l.count ≤ 1048576 → ∀ W, Q w W → Calls Try.prog 72 #[l.v] W (R1 W (.int .i64 (validL l))) := by
 cases h with
 | @mk k n f A len cap ps hk hn hsl hnil hcap hall =>
  intro hcnt
  intro W hqW
  have HLR := hide (show LayR w (.mk k n f A len cap ps) from .mk hk hn hsl hnil hcap hall)
  have HCT := hide hcnt
  obtain ⟨l0, hl0⟩ : ∃ l0, Lay.mk k n f A len cap ps = l0 := ⟨_, rfl⟩
  have hv : l0.v = .agg #[.int .i64 k, .int .i64 n, .bool f, .slice A len cap] := by rw [← hl0]; rfl
  rw [hl0] at HLR HCT ⊢
  have HLY := hide (fun W (hW : Q w W) => Layouts_any HLR.out HCT.out W hW)
  have HDE := hide (fun W (hW : Q w W) => Deep_any HLR.out HCT.out W hW)
  have HCE := hide (fun W (hW : Q w W) => cells_any HLR.out W hW)
  have HFA := hide (flat_all HLR.out)
  unfold R1 at HDE HCE
  rw [hv] at HLY HDE HCE
  have HCP := hide (count_pos l0)
  clear hcnt
  unfold R1
  have HSL := hide hsl
  have HQW := hide hqW
  have HPL := hide hsl.len
  have hlb : (len : Int) ≤ 140737488351232 := by have := hsl.cap; omega
  rw [hv]
  clear hv hl0
  show Calls _ _ #[.agg #[.int .i64 k, .int .i64 n, .bool f, .slice A len cap]] W _
  obtain ⟨w1, hw1⟩ : ∃ w1, W.alloc (.cells #[.int .i64 k, .int .i64 n, .bool f, .slice A len cap] 24) = w1 := ⟨_, rfl⟩
  obtain ⟨hq1, hs1, hc⟩ := box1 hw1
  have hlt : W.heap.size < w1.heap.size := by omega
  have K0 := hide (show w1.cell? ⟨W.heap.size, 0, none⟩ = some (.int .i64 k) from hc 0 _ rfl)
  have K1 := hide (show w1.cell? ⟨W.heap.size, 1, none⟩ = some (.int .i64 n) from hc 1 _ rfl)
  have K2 := hide (show w1.cell? ⟨W.heap.size, 2, none⟩ = some (.bool f) from hc 2 _ rfl)
  have K3 := hide (show w1.cell? ⟨W.heap.size, 3, none⟩ = some (.slice A len cap) from hc 3 _ rfl)
  have HW1 := hide hw1
  have HQ1 := hide hq1
  clear hk hn hsl hnil hcap hall  hqW hw1 hc hq1 hs1
  go_enter Try.func72, Try.ntmps72
  go_upto_region 1 with fail
  rw [HW1.out]
  have KA : Hid (∀ W', Q w1 W' → W'.cell? ⟨W.heap.size, 0, none⟩ = some (.int .i64 k) ∧ W'.cell? ⟨W.heap.size, 1, none⟩ = some (.int .i64 n) ∧ W'.cell? ⟨W.heap.size, 2, none⟩ = some (.bool f) ∧ W'.cell? ⟨W.heap.size, 3, none⟩ = some (.slice A len cap)) := hide fun W' h => ⟨(h.facts.1 _ 0 hlt).trans K0.out, (h.facts.1 _ 1 hlt).trans K1.out, (h.facts.1 _ 2 hlt).trans K2.out, (h.facts.1 _ 3 hlt).trans K3.out⟩
  have k0 := K0.out
  have k1 := K1.out
  have k2 := K2.out
  have k3 := K3.out
  go_wp2_with fail
  refine (HLY.out w1 (HQW.out.trans HQ1.out)).mono ?_
  rintro e w2 ⟨g, cg, rfl, hown, hq2⟩
  have HSL2 := hide (Sl.own hown len_encL (by decide))
  obtain ⟨ct, hct⟩ : ∃ ct, l0.count = ct := ⟨_, rfl⟩
  obtain ⟨dp, hdp⟩ : ∃ dp, l0.deep = dp := ⟨_, rfl⟩
  obtain ⟨ce, hce⟩ : ∃ ce, l0.cells = ce := ⟨_, rfl⟩
  have hfl : l0.flat.length = ct := hct
  rw [hct] at HSL2 HCT HCP ⊢
  rw [hdp] at HDE
  rw [hce] at HCE
  have HVL : Hid (validL l0 = if 60 < ct ∨ 5 < dp ∨ 4096 < ce then 3 else if l0.flat.any bigL = true then 3 else if l0.flat.all rightL = true then 0 else 1) := hide (by unfold validL; rw [hct, hdp, hce])
  have HFL := hide hfl
  have HQ2 := hide hq2
  have hctb : (ct : Int) ≤ 1048576 := by have := HCT.out; omega
  clear hown hct hdp hce hfl hq2 k0 k1 k2 k3
  by_cases h60 : 60 < ct
  ·have d60 : decide ((60 : Int) < (ct : Int)) = true := by simp; omega
   have HV := hide (show validL l0 = 3 by rw [HVL.out, if_pos (.inl h60)])
   clear h60
   go_wp2_with fail
   go_ret
   exact ⟨by rw [HV.out]; rfl, HQ1.out.trans HQ2.out⟩
  have d60 : decide ((60 : Int) < (ct : Int)) = false := by simp; omega
  obtain ⟨k0, k1, k2, k3⟩ := KA.out w2 HQ2.out
  go_wp2_with fail
  refine (HDE.out w2 (HQW.out.trans (HQ1.out.trans HQ2.out))).mono ?_
  rintro e w3 ⟨rfl, hq3⟩
  have HQ3 := hide (HQ2.out.trans hq3)
  have HQ23 := hide hq3
  clear hq3 k0 k1 k2 k3
  by_cases h5 : 5 < dp
  ·have d5 : decide ((5 : Int) < (dp : Int)) = true := by simp; omega
   have HV := hide (show validL l0 = 3 by rw [HVL.out, if_pos (.inr (.inl h5))])
   clear h5
   go_wp2_with fail
   go_ret
   exact ⟨by rw [HV.out]; rfl, HQ1.out.trans HQ3.out⟩
  have d5 : decide ((5 : Int) < (dp : Int)) = false := by simp; omega
  obtain ⟨k0, k1, k2, k3⟩ := KA.out w3 HQ3.out
  go_wp2_with fail
  refine (HCE.out w3 (HQW.out.trans (HQ1.out.trans HQ3.out))).mono ?_
  rintro e w4 ⟨rfl, hq4⟩
  have HQ4 := hide (HQ3.out.trans hq4)
  have HQ24 := hide (HQ23.out.trans hq4)
  clear hq4 k0 k1 k2 k3
  by_cases hce : 4096 < ce
  ·have d4 : decide ((4096 : Int) < ce) = true := by simp; omega
   have HV := hide (show validL l0 = 3 by rw [HVL.out, if_pos (.inr (.inr hce))])
   clear hce
   go_wp2_with fail
   go_ret
   exact ⟨by rw [HV.out]; rfl, HQ1.out.trans HQ4.out⟩
  have d4 : decide ((4096 : Int) < ce) = false := by simp; omega
  have HVM := hide (show validL l0 = if l0.flat.any bigL = true then 3 else if l0.flat.all rightL = true then 0 else 1 by rw [HVL.out, if_neg (by omega)])
  clear h60 h5 hce
  go_wp2_with fail
  clear d60 d5 d4
  go_loopw [4] (fun vi wr => ∃ j : Nat, j ≤ ct ∧ vi = .int .i64 j ∧ (l0.flat.take j).any bigL = false ∧ Q w4 wr) (fun vi _ => ct - (intOf vi).toNat)
  case atStart => exact ⟨0, by omega, by go_num, by simp, Q.refl _⟩
  case round =>
   obtain ⟨j, hj, rfl, hany, hq⟩ := hrel
   obtain ⟨wr0, rfl⟩ : ∃ wr0 : World, wr0 = wr := ⟨_, rfl⟩
   have HANY := hide hany
   have HQ := hide hq
   clear hany
   by_cases hlt9 : j < ct
   ·have hd1 : decide ((j : Int) < (ct : Int)) = true := by simp; omega
    have hd0 : decide (j < ct) = true := by simp; omega
    have hlti : (j : Int) < (ct : Int) := by omega
    obtain ⟨b, o, m', x', y', B, l', d', qs, e, hb, hx, z0, z1, z2, z3⟩ := lay_at (HSL2.out.up (HQ24.out.trans hq)) hlt9
    cases e
    simp only [Nat.zero_add] at z0 z1 z2 z3
    obtain ⟨p, hpe⟩ : ∃ p, Lay.mk m' x' y' B l' d' qs = p := ⟨_, rfl⟩
    have hpv : p.v = .agg #[.int .i64 m', .int .i64 x', .bool y', .slice B l' d'] := by rw [← hpe]; rfl
    rw [hpe] at hx
    have hlp := HFA.out p (List.mem_of_getElem? hx)
    have hlen : qs.length = l' := by rw [← hpe] at hlp; cases hlp with | mk _ _ h _ _ _ => exact h.len
    have hbg : bigL p = (decide (12 < l') || (decide (mostL m' < x') || (decide (m' = 9) && decide (64 < packR p)))) := by rw [← hpe, ← hlen]; rfl
    have hlb' : (l' : Int) ≤ 140737488351232 := by rw [← hpe] at hlp; cases hlp with | mk _ _ h _ hc _ => have := h.cap; omega
    obtain ⟨wa, hwa⟩ : ∃ wa, wr0.alloc (.cells #[.int .i64 m', .int .i64 x', .bool y', .slice B l' d'] 24) = wa := ⟨_, rfl⟩
    obtain ⟨hqa, hsa, hca⟩ := box1 hwa
    have hla : wr0.heap.size < wa.heap.size := by omega
    have t0 := hca 0 _ rfl
    have t1 := hca 1 _ rfl
    have t2 := hca 2 _ rfl
    have t3 := hca 3 _ rfl
    have HPK := hide (fun W' (hW : Q wa W') => packed_any hlp W' (HQW.out.trans (HQ1.out.trans (HQ4.out.trans (hq.trans (hqa.trans hW))))))
    have HGR := hide (fun W' => greatest_any m' W')
    unfold R1 at HPK HGR
    rw [hpv] at HPK
    obtain ⟨pk, hpk⟩ : ∃ pk, packR p = pk := ⟨_, rfl⟩
    obtain ⟨mo, hmo⟩ : ∃ mo, mostL m' = mo := ⟨_, rfl⟩
    rw [hpk] at HPK hbg
    rw [hmo] at HGR hbg
    have HBG := hide hbg
    have HX := hide hx
    have HWA := hide hwa
    have HQA := hide (hq.trans hqa)
    clear hpe hpv hx hlp hlen hbg hwa hqa hca hpk hmo hq hsa
    go_upto_region 8 with fail
    rw [HWA.out]
    clear z0 z1 z2 z3
    by_cases c1 : 12 < l'
    ·have e1 : decide ((12 : Int) < (l' : Int)) = true := by simp; omega
     have HB := hide (show bigL p = true by rw [HBG.out, show decide (12 < l') = true by simp [c1]]; rfl)
     clear c1
     have hxc := ext_cell
     refine wp_region_ext (by kernel_rfl) (by kernel_rfl) ?_
     repeat (go_big_quiet_step ((fail)))
     clear hxc
     refine wpQuiet_nil ?_
     intro wz hwwz
     have hqwz := q_of_ext hwwz
     clear hwwz
     obtain ⟨hcwz, hfwz, hzwz⟩ := hqwz.facts
     try simp at hzwz
     try have hs0wz : w.heap.size < wz.heap.size := by omega
     try have hs1wz : w.heap.size + 1 < wz.heap.size := by omega
     clear hcwz hfwz t0 t1 t2 t3
     go_wp2_with fail
     go_ret
     exact ⟨by rw [HVM.out, if_pos (any_hitL HX.out HB.out)]; rfl, HQ1.out.trans (HQ4.out.trans (HQA.out.trans hqwz))⟩
    have e1 : decide ((12 : Int) < (l' : Int)) = false := by simp; omega
    by_cases c2 : mo < x'
    ·have e2 : decide (mo < x') = true := by simp [c2]
     have HB := hide (show bigL p = true by rw [HBG.out, e2]; simp)
     clear c1 c2
     have hxc := ext_cell
     refine wp_region_ext (by kernel_rfl) (by kernel_rfl) ?_
     repeat (go_big_quiet_step (((go_at_call 107; exact ext_call (HGR.out _)))))
     clear hxc
     refine wpQuiet_nil ?_
     intro wz hwwz
     have hqwz := q_of_ext hwwz
     clear hwwz
     obtain ⟨hcwz, hfwz, hzwz⟩ := hqwz.facts
     try simp at hzwz
     try have hs0wz : w.heap.size < wz.heap.size := by omega
     try have hs1wz : w.heap.size + 1 < wz.heap.size := by omega
     clear hcwz hfwz t0 t1 t2 t3
     go_wp2_with fail
     go_ret
     exact ⟨by rw [HVM.out, if_pos (any_hitL HX.out HB.out)]; rfl, HQ1.out.trans (HQ4.out.trans (HQA.out.trans hqwz))⟩
    have e2 : decide (mo < x') = false := by simp [c2]
    by_cases c3 : m' = 9
    ·subst c3
     by_cases c4 : 64 < pk
     ·have e4 : decide ((64 : Int) < pk) = true := by simp [c4]
      have HB := hide (show bigL p = true by rw [HBG.out, e2, e4]; simp)
      clear c1 c2 c4
      have hxc := ext_cell
      refine wp_region_ext (by kernel_rfl) (by kernel_rfl) ?_
      repeat (go_big_quiet_step ((first | (go_at_call 107; exact ext_call (HGR.out _)) | (go_at_call 80; exact ext_call (HPK.out _ (q_ext _ _))))))
      clear hxc
      refine wpQuiet_nil ?_
      intro wz hwwz
      have hqwz := q_of_ext hwwz
      clear hwwz
      obtain ⟨hcwz, hfwz, hzwz⟩ := hqwz.facts
      try simp at hzwz
      try have hs0wz : w.heap.size < wz.heap.size := by omega
      try have hs1wz : w.heap.size + 1 < wz.heap.size := by omega
      clear hcwz hfwz t0 t1 t2 t3
      go_wp2_with fail
      go_ret
      exact ⟨by rw [HVM.out, if_pos (any_hitL HX.out HB.out)]; rfl, HQ1.out.trans (HQ4.out.trans (HQA.out.trans hqwz))⟩
     ·have e4 : decide ((64 : Int) < pk) = false := by simp [c4]
      have HB := hide (show bigL p = false by rw [HBG.out, e2, e4, show decide (12 < l') = false by simp [c1]]; rfl)
      clear c1 c2 c4
      have hxc := ext_cell
      refine wp_region_ext (by kernel_rfl) (by kernel_rfl) ?_
      repeat (go_big_quiet_step ((first | (go_at_call 107; exact ext_call (HGR.out _)) | (go_at_call 80; exact ext_call (HPK.out _ (q_ext _ _))))))
      clear hxc
      refine wpQuiet_nil ?_
      intro wz hwwz
      have hqwz := q_of_ext hwwz
      clear hwwz
      obtain ⟨hcwz, hfwz, hzwz⟩ := hqwz.facts
      try simp at hzwz
      try have hs0wz : w.heap.size < wz.heap.size := by omega
      try have hs1wz : w.heap.size + 1 < wz.heap.size := by omega
      clear hcwz hfwz t0 t1 t2 t3
      go_wp2_with fail
      go_roundw
      case rel => exact ⟨j + 1, by omega, by go_num, by rw [any_takeL HX.out, HANY.out, HB.out]; rfl, HQA.out.trans hqwz⟩
      case measure => simp [intOf] <;> omega
    ·have e3 : (m' == 9) = false := by simp [c3]
     have HB := hide (show bigL p = false by rw [HBG.out, e2, show decide (12 < l') = false by simp [c1], show decide (m' = 9) = false by simp [c3]]; rfl)
     clear c1 c2 c3
     have hxc := ext_cell
     refine wp_region_ext (by kernel_rfl) (by kernel_rfl) ?_
     repeat (go_big_quiet_step (((go_at_call 107; exact ext_call (HGR.out _)))))
     clear hxc
     refine wpQuiet_nil ?_
     intro wz hwwz
     have hqwz := q_of_ext hwwz
     clear hwwz
     obtain ⟨hcwz, hfwz, hzwz⟩ := hqwz.facts
     try simp at hzwz
     try have hs0wz : w.heap.size < wz.heap.size := by omega
     try have hs1wz : w.heap.size + 1 < wz.heap.size := by omega
     clear hcwz hfwz t0 t1 t2 t3
     go_wp2_with fail
     go_roundw
     case rel => exact ⟨j + 1, by omega, by go_num, by rw [any_takeL HX.out, HANY.out, HB.out]; rfl, HQA.out.trans hqwz⟩
     case measure => simp [intOf] <;> omega
   ·have hd1 : decide ((j : Int) < (ct : Int)) = false := by simp; omega
    have hd0 : decide (j < ct) = false := by simp; omega
    obtain rfl : j = ct := by omega
    have hna : l0.flat.any bigL = false := by
     have h9 := HANY.out
     rwa [List.take_of_length_le (by have := HFL.out; omega)] at h9
    have HVT := hide (show validL l0 = if l0.flat.all rightL = true then 0 else 1 by rw [HVM.out, if_neg (show ¬ l0.flat.any bigL = true by rw [hna]; decide)])
    clear hna hq
    go_wp2_with fail
    go_loopw [6] (fun vi wr => ∃ i : Nat, i ≤ j ∧ vi = .int .i64 i ∧ (l0.flat.take i).all rightL = true ∧ Q w4 wr) (fun vi _ => j - (intOf vi).toNat)
    case atStart => exact ⟨0, by omega, by go_num, by simp, HQ.out⟩
    case round =>
     obtain ⟨i, hi, rfl, hall, hq⟩ := hrel
     have HALL := hide hall
     have HQI := hide hq
     clear hall
     by_cases hli : i < j
     ·have hdi : decide ((i : Int) < (j : Int)) = true := by simp; omega
      have hlii : (i : Int) < (j : Int) := by omega
      obtain ⟨b, o, m', x', y', B, l', d', qs, e, hb, hx, z0, z1, z2, z3⟩ := lay_at (HSL2.out.up (HQ24.out.trans hq)) hli
      cases e
      simp only [Nat.zero_add] at z0 z1 z2 z3
      obtain ⟨p, hpe⟩ : ∃ p, Lay.mk m' x' y' B l' d' qs = p := ⟨_, rfl⟩
      have hpv : p.v = .agg #[.int .i64 m', .int .i64 x', .bool y', .slice B l' d'] := by rw [← hpe]; rfl
      rw [hpe] at hx
      have HIS := hide (is_any (HFA.out p (List.mem_of_getElem? hx)) wr (HQW.out.trans (HQ1.out.trans (HQ4.out.trans hq))))
      unfold R1 at HIS
      rw [hpv] at HIS
      obtain ⟨rb, hrb⟩ : ∃ rb, rightL p = rb := ⟨_, rfl⟩
      rw [hrb] at HIS
      have HRB := hide hrb
      have HX := hide hx
      clear hpe hpv hx hrb hq
      go_wp2_with fail
      refine HIS.out.mono ?_
      rintro e w6 ⟨rfl, hq6⟩
      have HQ6 := hide (HQI.out.trans hq6)
      clear hq6 z0 z1 z2 z3
      cases rb with
      | true =>
       go_wp2_with fail
       go_roundw
       case rel => exact ⟨i + 1, by omega, by go_num, by rw [all_takeL HX.out, HALL.out, HRB.out]; rfl, HQ6.out⟩
       case measure => simp [intOf] <;> omega
      | false =>
       go_wp2_with fail
       go_ret
       exact ⟨by rw [HVT.out, if_neg (show ¬ l0.flat.all rightL = true by rw [all_badL HX.out HRB.out]; decide)]; rfl, HQ1.out.trans (HQ4.out.trans HQ6.out)⟩
     ·have hdi : decide ((i : Int) < (j : Int)) = false := by simp; omega
      have HA := hide (show l0.flat.all rightL = true by
       have h9 := HALL.out
       rwa [List.take_of_length_le (by have := HFL.out; omega)] at h9)
      clear hq
      go_wp2_with fail
      go_ret
      exact ⟨by rw [HVT.out, if_pos HA.out]; rfl, HQ1.out.trans (HQ4.out.trans HQI.out)⟩
theorem sum2g (g : Nat) (a b : Int) (w : World) (hg : g < w.heap.size) (h0 : w.cell? ⟨g, 0, none⟩ = some (.int .i64 a)) (h1 : w.cell? ⟨g, 1, none⟩ = some (.int .i64 b)) (ha : 0 ≤ a) (hb : 0 ≤ b) :
  Calls Try.prog 66 #[.slice (some ⟨g, 0, none⟩) 2 2] w (R1 w (.int .i64 (min (a + b) 1099511627776))) := by
 have H0 := hide h0
 have H1 := hide h1
 obtain ⟨x, hx⟩ : ∃ x, min a 1099511627776 = x := ⟨_, rfl⟩
 obtain ⟨y, hy⟩ : ∃ y, min b 1099511627776 = y := ⟨_, rfl⟩
 have hx0 : 0 ≤ x := by omega
 have hx1 : x ≤ 1099511627776 := by omega
 have hy0 : 0 ≤ y := by omega
 have hy1 : y ≤ 1099511627776 := by omega
 have HX := hide hx
 have HY := hide hy
 have HAB := hide (show min (a + b) 1099511627776 = min (x + y) 1099511627776 by omega)
 clear h0 h1
 unfold R1
 go_enter Try.func66, Try.ntmps66
 go_wp2_with fail
 go_loopw [3, 8] (fun v3 vi wr => ∃ k : Nat, k ≤ 2 ∧ vi = .int .i64 k ∧ v3 = .int .i64 (if k = 0 then 0 else if k = 1 then x else min (x + y) 1099511627776) ∧ Q w wr) (fun _ vi _ => 2 - (intOf vi).toNat)
 case atStart => exact ⟨0, by omega, by go_num, rfl, Q.refl _⟩
 case round =>
  obtain ⟨k, hk, rfl, rfl, hq⟩ := hrel
  have HQ := hide hq
  have h0 := (hq.facts.1 _ 0 hg).trans H0.out
  have h1 := (hq.facts.1 _ 1 hg).trans H1.out
  clear hq
  match k, hk with
  | 0, _ =>
   have e1 : min 1099511627776 x = x := by omega
   go_wp2_with fail
   all_goals
    go_roundw
    case rel => exact ⟨1, by omega, by go_num, by first | rfl | (congr 1; simp; omega) | (simp; omega), HQ.out⟩
    case measure => simp [intOf]
  | 1, _ =>
   have hw : IntKind.i64.wrap (x + y) = x + y := by rw [IntKind.wrap_i64]; omega
   go_wp2_with fail
   all_goals
    go_roundw
    case rel => exact ⟨2, by omega, by go_num, by first | rfl | (congr 1; simp; omega) | (simp; omega), HQ.out⟩
    case measure => simp [intOf]
  | 2, _ =>
   go_wp2_with fail
   go_ret
   exact ⟨by rw [HAB.out]; rfl, HQ.out⟩
theorem bitsP_any {w : World} {l : Lay} (h : LayR w l) : ∀ W, Q w W → Calls Try.prog 99 #[l.v] W (R1 W (.int .i64 (bitsL l))) := by
 cases h with
 | @mk k n f A len cap ps hk hn hsl hnil hcap hall =>
  intro W hqW
  unfold R1
  have HSL := hide hsl
  have HQW := hide hqW
  have HPL := hide hsl.len
  have hlb : (len : Int) ≤ 140737488351232 := by have := hsl.cap; omega
  show Calls _ _ #[.agg #[.int .i64 k, .int .i64 n, .bool f, .slice A len cap]] W _
  obtain ⟨w1, hw1⟩ : ∃ w1, W.alloc (.cells #[.int .i64 k, .int .i64 n, .bool f, .slice A len cap] 24) = w1 := ⟨_, rfl⟩
  obtain ⟨hq1, hs1, hc⟩ := box1 hw1
  have hlt : W.heap.size < w1.heap.size := by omega
  have K0 := hide (show w1.cell? ⟨W.heap.size, 0, none⟩ = some (.int .i64 k) from hc 0 _ rfl)
  have K1 := hide (show w1.cell? ⟨W.heap.size, 1, none⟩ = some (.int .i64 n) from hc 1 _ rfl)
  have K2 := hide (show w1.cell? ⟨W.heap.size, 2, none⟩ = some (.bool f) from hc 2 _ rfl)
  have K3 := hide (show w1.cell? ⟨W.heap.size, 3, none⟩ = some (.slice A len cap) from hc 3 _ rfl)
  have HW1 := hide hw1
  have HQ1 := hide hq1
  clear hk hn hsl hnil hcap hall  hqW hw1 hc hq1 hs1
  go_enter Try.func99, Try.ntmps99
  go_upto_region 1 with fail
  rw [HW1.out]
  have k0 := K0.out
  have k1 := K1.out
  by_cases h1 : k = 1
  ·subst h1
   go_wp2_with fail
   go_ret
   exact ⟨rfl, HQ1.out⟩
  ·have d1 : (k == 1) = false := by simp [h1]
   by_cases h2 : k = 2
   ·subst h2
    go_wp2_with fail
    go_ret
    exact ⟨by first | rfl | (show Ending.returned (.int .i64 _) = Ending.returned (.int .i64 (max n 0)); congr 2; omega), HQ1.out⟩
   ·have d2 : (k == 2) = false := by simp [h2]
    have HV := hide (show bitsL (.mk k n f A len cap ps) = 0 from by show (if k = 1 then (1 : Int) else if k = 2 then max n 0 else 0) = 0; rw [if_neg h1, if_neg h2])
    clear h1 h2
    go_wp2_with fail
    go_ret
    exact ⟨by rw [HV.out]; rfl, HQ1.out⟩
def Lay.cellsP : Lay → Int
 | .mk k n _ _ _ _ ps =>
  let m := (ps.attach.map fun p => Lay.cellsP p.1).foldl (fun s c => min (s + c) 1099511627776) 0
  if k = 5 then min (1 + max 0 n * m) 1099511627776 else min (1 + m) 1099511627776
termination_by c => SizeOf.sizeOf c
decreasing_by
 have := List.sizeOf_lt_of_mem p.2
 simp
 omega
theorem cellsP_mk (k n : Int) (f : Bool) (A : Option Addr) (len cap : Nat) (ps : List Lay) : (Lay.mk k n f A len cap ps).cellsP = if k = 5 then min (1 + max 0 n * ((ps.map Lay.cellsP).foldl (fun s c => min (s + c) 1099511627776) 0)) 1099511627776 else min (1 + (ps.map Lay.cellsP).foldl (fun s c => min (s + c) 1099511627776) 0) 1099511627776 := by
 rw [Lay.cellsP, attach_map']
theorem foldl_far : ∀ {l : List Int} {a : Int}, 0 ≤ a → a ≤ 1099511627776 → (∀ x ∈ l, 0 ≤ x) → 0 ≤ l.foldl (fun s c => min (s + c) 1099511627776) a ∧ l.foldl (fun s c => min (s + c) 1099511627776) a ≤ 1099511627776
 | [], a, h, h2, _ => ⟨h, h2⟩
 | x :: r, a, h, h2, hx => by
  rw [List.foldl_cons]
  have := hx x (List.mem_cons_self ..)
  exact foldl_far (by omega) (by omega) fun y hy => hx y (List.mem_cons_of_mem _ hy)
theorem cellsP_bd {w : World} {l : Lay} (h : LayR w l) : 0 ≤ l.cellsP ∧ l.cellsP ≤ 1099511627776 := by
 induction h with
 | @mk k n f A len cap ps _ _ _ _ _ _ ih =>
  rw [cellsP_mk]
  obtain ⟨h0, h1⟩ := foldl_far (l := ps.map Lay.cellsP) (a := 0) (by omega) (by omega) fun x hx => by
   obtain ⟨p, hp, rfl⟩ := List.mem_map.1 hx
   exact (ih p hp).1
  split
  ·have h3 : 0 ≤ max 0 n * ((ps.map Lay.cellsP).foldl (fun s c => min (s + c) 1099511627776) 0) := Int.mul_nonneg (by omega) h0
   omega
  ·omega
theorem part_flat {l p x : Lay} (hp : p ∈ l.parts) (hx : x ∈ p.flat) : x ∈ l.flat := by
 cases l with
 | mk k n f A len cap ps =>
  rw [flat_mk]
  exact List.mem_cons_of_mem _ (List.mem_flatMap.2 ⟨p, hp, hx⟩)
theorem self_flat (l : Lay) : l ∈ l.flat := by
 cases l
 rw [flat_mk]
 exact List.mem_cons_self ..
theorem cellsP_any {w : World} {l : Lay} (h : LayR w l) : (∀ x ∈ l.flat, x.k = 5 → x.n ≤ 1000) → ∀ W, Q w W → Calls Try.prog 63 #[l.v] W (R1 W (.int .i64 l.cellsP)) := by
 induction h with
 | @mk k n f A len cap ps hk hn hsl hnil hcap hall ih =>
  intro hcnt
  intro W hqW
  have HIH := hide (fun p (hp : p ∈ ps) => ih p hp (fun x hx => hcnt x (part_flat (l := .mk k n f A len cap ps) hp hx)))
  have HN5 := hide (show k = 5 → n ≤ 1000 from hcnt (.mk k n f A len cap ps) (self_flat _))
  have HBD := hide (fun (qs : List Lay) (hqs : ∀ p ∈ qs, p ∈ ps) => foldl_far (l := qs.map Lay.cellsP) (a := 0) (by omega) (by omega) fun x hx => by
   obtain ⟨q, hq9, rfl⟩ := List.mem_map.1 hx
   exact (cellsP_bd (hall q (hqs q hq9))).1)
  have HBP := hide (fun p (hp : p ∈ ps) => cellsP_bd (hall p hp))
  have HCM := hide (cellsP_mk k n f A len cap ps)
  rw [HCM.out]
  clear hcnt
  unfold R1
  have HSL := hide hsl
  have HQW := hide hqW
  have HPL := hide hsl.len
  have hlb : (len : Int) ≤ 140737488351232 := by have := hsl.cap; omega
  show Calls _ _ #[.agg #[.int .i64 k, .int .i64 n, .bool f, .slice A len cap]] W _
  obtain ⟨w1, hw1⟩ : ∃ w1, W.alloc (.cells #[.int .i64 k, .int .i64 n, .bool f, .slice A len cap] 24) = w1 := ⟨_, rfl⟩
  obtain ⟨hq1, hs1, hc⟩ := box1 hw1
  have hlt : W.heap.size < w1.heap.size := by omega
  have K0 := hide (show w1.cell? ⟨W.heap.size, 0, none⟩ = some (.int .i64 k) from hc 0 _ rfl)
  have K1 := hide (show w1.cell? ⟨W.heap.size, 1, none⟩ = some (.int .i64 n) from hc 1 _ rfl)
  have K2 := hide (show w1.cell? ⟨W.heap.size, 2, none⟩ = some (.bool f) from hc 2 _ rfl)
  have K3 := hide (show w1.cell? ⟨W.heap.size, 3, none⟩ = some (.slice A len cap) from hc 3 _ rfl)
  have HW1 := hide hw1
  have HQ1 := hide hq1
  clear hk hn hsl hnil hcap hall ih hqW hw1 hc hq1 hs1
  go_enter Try.func63, Try.ntmps63
  go_upto_region 1 with fail
  rw [HW1.out]
  have k3 := K3.out
  go_wp2_with fail
  clear k3
  go_loopw [3, 9] (fun v3 vi wr => ∃ j : Nat, j ≤ len ∧ vi = .int .i64 j ∧ v3 = .int .i64 (((ps.take j).map Lay.cellsP).foldl (fun s c => min (s + c) 1099511627776) (0 : Int)) ∧ Q w1 wr) (fun _ vi _ => len - (intOf vi).toNat)
  case atStart => exact ⟨0, by omega, by go_num, by simp, Q.refl _⟩
  case round =>
   obtain ⟨j, hj, rfl, rfl, hq⟩ := hrel
   have k3 := (hq.facts.1 _ 3 hlt).trans K3.out
   have HQ := hide hq
   by_cases hlt9 : j < len
   ·have hd1 : decide ((j : Int) < (len : Int)) = true := by simp; omega
    have hd0 : decide (j < len) = true := by simp; omega
    have hlti : (j : Int) < (len : Int) := by omega
    obtain ⟨b, o, m', x', y', B, l', d', qs, e, hb, hx, z0, z1, z2, z3⟩ := lay_at (HSL.out.up (HQW.out.trans (HQ1.out.trans hq))) hlt9
    cases e
    obtain ⟨p, hpe⟩ : ∃ p, Lay.mk m' x' y' B l' d' qs = p := ⟨_, rfl⟩
    have hpv : p.v = .agg #[.int .i64 m', .int .i64 x', .bool y', .slice B l' d'] := by rw [← hpe]; rfl
    rw [hpe] at hx
    have HPM := hide (List.mem_of_getElem? hx)
    have HX := hide hx
    obtain ⟨wa, hwa⟩ : ∃ wa, wr.alloc (.cells #[.int .i64 m', .int .i64 x', .bool y', .slice B l' d'] 24) = wa := ⟨_, rfl⟩
    obtain ⟨hqa, hsa, hca⟩ := box1 hwa
    have t0 := hca 0 _ rfl
    have t1 := hca 1 _ rfl
    have t2 := hca 2 _ rfl
    have t3 := hca 3 _ rfl
    have HC := hide (HIH.out p (List.mem_of_getElem? hx) wa (HQW.out.trans (HQ1.out.trans (hq.trans hqa))))
    rw [hpv] at HC
    clear hx hpe hpv
    obtain ⟨hb0, hb1⟩ := HBD.out (ps.take j) (fun q hq9 => List.mem_of_mem_take hq9)
    obtain ⟨hc0, hc1⟩ := HBP.out p HPM.out
    have hst := fold_takeM Lay.cellsP (fun (s : Int) c => min (s + c) 1099511627776) (0 : Int) HX.out
    try dsimp only at hst
    obtain ⟨acc, hacc⟩ : ∃ acc, ((ps.take j).map Lay.cellsP).foldl (fun s c => min (s + c) 1099511627776) (0 : Int) = acc := ⟨_, rfl⟩
    obtain ⟨cp, hcp⟩ : ∃ cp, p.cellsP = cp := ⟨_, rfl⟩
    rw [hacc] at hb0 hb1 hst ⊢
    rw [hcp] at hc0 hc1 hst HC
    have HST := hide hst
    have HWA := hide hwa
    have HQA := hide (hq.trans hqa)
    clear hacc hcp hst hwa hca hqa hq
    go_upto_region 5 with fail
    rw [HWA.out]
    clear z0 z1 z2 z3 k3
    go_wp2_with fail
    refine HC.out.mono ?_
    rintro e w5 ⟨rfl, hq5⟩
    obtain ⟨w6, hw6⟩ : ∃ w6, w5.alloc (.cells #[.int .i64 acc, .int .i64 cp] 3) = w6 := ⟨_, rfl⟩
    obtain ⟨hq6, hs6, hc6⟩ := box1 hw6
    have HS6 := hide (sum2g w5.heap.size acc cp w6 (by omega) (hc6 0 _ rfl) (hc6 1 _ rfl) hb0 hc0)
    unfold R1 at HS6
    have HQ6 := hide (HQA.out.trans (hq5.trans hq6))
    have HW6 := hide hw6
    clear hq5 hq6 hw6 hc6 hs6 t0 t1 t2 t3
    go_wp2_with fail
    rw [HW6.out]
    refine HS6.out.mono ?_
    rintro e w7 ⟨rfl, hq7⟩
    have HQ7 := hide (HQ6.out.trans hq7)
    clear hq7
    go_wp2_with fail
    go_roundw
    case rel => exact ⟨j + 1, by omega, by go_num, by first | (rw [HST.out]; done) | (rw [HST.out]; congr 1; done) | (rw [HST.out]; congr 1; omega), HQ7.out⟩
    case measure => simp [intOf] <;> omega
   ·have hd1 : decide ((j : Int) < (len : Int)) = false := by simp; omega
    have hd0 : decide (j < len) = false := by simp; omega
    obtain rfl : j = len := by omega
    have he : ps.take j = ps := List.take_of_length_le (by have := HPL.out; omega)
    rw [he]
    obtain ⟨hb0, hb1⟩ := HBD.out ps (fun q hq9 => hq9)
    obtain ⟨acc, hacc⟩ : ∃ acc, (ps.map Lay.cellsP).foldl (fun s c => min (s + c) 1099511627776) (0 : Int) = acc := ⟨_, rfl⟩
    rw [hacc] at hb0 hb1
    have HAC := hide hacc
    rw [hacc]
    have k0 := (hq.facts.1 _ 0 hlt).trans K0.out
    have k1 := (hq.facts.1 _ 1 hlt).trans K1.out
    clear hacc he hq
    by_cases h5 : k = 5
    ·subst h5
     obtain ⟨mx, hmx⟩ : ∃ mx, max 0 n = mx := ⟨_, rfl⟩
     have hm0 : 0 ≤ mx := by omega
     have hm1 : mx ≤ 1000 := by have := HN5.out rfl; omega
     obtain ⟨pr, hpr⟩ : ∃ pr, mx * acc = pr := ⟨_, rfl⟩
     have hp0 : 0 ≤ pr := by rw [← hpr]; exact Int.mul_nonneg hm0 hb0
     have hp1 : pr ≤ 1099511627776000 := by
      rw [← hpr]
      calc mx * acc ≤ 1000 * acc := Int.mul_le_mul_of_nonneg_right hm1 hb0
       _ ≤ 1000 * 1099511627776 := Int.mul_le_mul_of_nonneg_left hb1 (by omega)
       _ = 1099511627776000 := by decide
     obtain ⟨w6, hw6⟩ : ∃ w6, wr.alloc (.cells #[.int .i64 1, .int .i64 pr] 3) = w6 := ⟨_, rfl⟩
     obtain ⟨hq6, hs6, hc6⟩ := box1 hw6
     have HS6 := hide (sum2g wr.heap.size 1 pr w6 (by omega) (hc6 0 _ rfl) (hc6 1 _ rfl) (by omega) hp0)
     unfold R1 at HS6
     have HQ6 := hide hq6
     have HW6 := hide hw6
     clear hq6 hw6 hc6 hs6
     go_wp2_with fail
     rw [HW6.out]
     refine HS6.out.mono ?_
     rintro e w7 ⟨rfl, hq7⟩
     go_wp2_with fail
     go_ret
     exact ⟨by first | (rw [HAC.out]; done) | (rw [HAC.out]; rfl) | (rw [HAC.out, hpr]; rfl) | (rw [HAC.out, if_pos rfl, hmx, hpr]; rfl), HQ1.out.trans (HQ.out.trans (HQ6.out.trans hq7))⟩
    ·have d5 : (k == 5) = false := by simp [h5]
     obtain ⟨w6, hw6⟩ : ∃ w6, wr.alloc (.cells #[.int .i64 1, .int .i64 acc] 3) = w6 := ⟨_, rfl⟩
     obtain ⟨hq6, hs6, hc6⟩ := box1 hw6
     have HS6 := hide (sum2g wr.heap.size 1 acc w6 (by omega) (hc6 0 _ rfl) (hc6 1 _ rfl) (by omega) hb0)
     unfold R1 at HS6
     have HQ6 := hide hq6
     have HW6 := hide hw6
     clear hq6 hw6 hc6 hs6
     go_wp2_with fail
     rw [HW6.out]
     refine HS6.out.mono ?_
     rintro e w7 ⟨rfl, hq7⟩
     go_wp2_with fail
     go_ret
     exact ⟨by first | (rw [HAC.out]; done) | (rw [HAC.out]; rfl) | (rw [HAC.out, if_neg h5]; rfl), HQ1.out.trans (HQ.out.trans (HQ6.out.trans hq7))⟩
def rAll (l : Lay) : Bool := l.flat.all rightL
theorem rAll_mk (k n : Int) (f : Bool) (A : Option Addr) (len cap : Nat) (ps : List Lay) : rAll (.mk k n f A len cap ps) = (rightL (.mk k n f A len cap ps) && ps.all rAll) := by
 unfold rAll
 rw [flat_mk, List.all_cons, List.all_flatMap]
theorem index1 {A : Option Addr} {n c : Nat} {ps : List Lay} {w : World} (hs : Sl 4 encL w A n c ps) (hc : n ≤ 140737488351232) (t : Lay → Bool) (hf : ∀ W, Q w W → ∀ p ∈ ps, Calls Try.prog 101 #[p.v] W (R1 W (.bool (t p)))) :
  Calls Try.prog 121 #[.slice A n c, .func (.func 101) #[] #[]] w fun e w' => (∃ r : Int, e = .returned (.int .i64 r) ∧ decide (0 ≤ r) = ps.any t) ∧ Q w w' := by
 have hni : (n : Int) ≤ 140737488351232 := by have := hs.cap; omega
 have HS := hide hs
 have HF := hide hf
 have HPL := hide hs.len
 clear hs hc hf
 go_enter Try.func121, Try.ntmps121
 go_wp2_with fail
 go_loopw [8] (fun vi wr => ∃ j : Nat, j ≤ n ∧ vi = .int .i64 j ∧ (ps.take j).any t = false ∧ Q w wr) (fun vi _ => n - (intOf vi).toNat)
 case atStart => exact ⟨0, by omega, by go_num, by simp, Q.refl _⟩
 case round =>
  obtain ⟨j, hj, rfl, hany, hq⟩ := hrel
  have HANY := hide hany
  have HQ := hide hq
  clear hany
  by_cases hlt9 : j < n
  ·have hd1 : decide ((j : Int) < (n : Int)) = true := by simp; omega
   have hd0 : decide (j < n) = true := by simp; omega
   have hlti : (j : Int) < (n : Int) := by omega
   obtain ⟨b, o, m', x', y', B, l', d', qs, e, hb, hx, z0, z1, z2, z3⟩ := lay_at (HS.out.up hq) hlt9
   cases e
   obtain ⟨p, hpe⟩ : ∃ p, Lay.mk m' x' y' B l' d' qs = p := ⟨_, rfl⟩
   have hpv : p.v = .agg #[.int .i64 m', .int .i64 x', .bool y', .slice B l' d'] := by rw [← hpe]; rfl
   rw [hpe] at hx
   have HC := hide (HF.out wr hq p (List.mem_of_getElem? hx))
   unfold R1 at HC
   rw [hpv] at HC
   obtain ⟨r, hr⟩ : ∃ r, t p = r := ⟨_, rfl⟩
   rw [hr] at HC
   have HR := hide hr
   have HX := hide hx
   clear hpe hpv hx hr hq
   go_wp2_with fail
   refine HC.out.mono ?_
   rintro e w5 ⟨rfl, hq5⟩
   have HQ5 := hide (HQ.out.trans hq5)
   clear hq5 z0 z1 z2 z3
   cases r with
   | true =>
    go_wp2_with fail
    go_ret
    exact ⟨⟨(j : Int), rfl, by rw [any_hitL HX.out HR.out]; simp⟩, HQ5.out⟩
   | false =>
    go_wp2_with fail
    go_roundw
    case rel => exact ⟨j + 1, by omega, by go_num, by rw [any_takeL HX.out, HANY.out, HR.out]; rfl, HQ5.out⟩
    case measure => simp [intOf] <;> omega
  ·have hd1 : decide ((j : Int) < (n : Int)) = false := by simp; omega
   have hd0 : decide (j < n) = false := by simp; omega
   obtain rfl : j = n := by omega
   have HA := hide (show ps.any t = false by
    have h9 := HANY.out
    rwa [List.take_of_length_le (by have := HPL.out; omega)] at h9)
   clear hq
   go_wp2_with fail
   go_ret
   exact ⟨⟨-1, rfl, by rw [HA.out]; rfl⟩, HQ.out⟩
theorem contains1 {A : Option Addr} {n c : Nat} {ps : List Lay} {w : World} (hs : Sl 4 encL w A n c ps) (hc : n ≤ 140737488351232) (t : Lay → Bool) (hf : ∀ W, Q w W → ∀ p ∈ ps, Calls Try.prog 101 #[p.v] W (R1 W (.bool (t p)))) :
  Calls Try.prog 100 #[.slice A n c, .func (.func 101) #[] #[]] w (R1 w (.bool (ps.any t))) := by
 have HC := hide (index1 hs hc t hf)
 unfold R1
 go_enter Try.func100, Try.ntmps100
 go_wp2_with fail
 refine HC.out.mono ?_
 rintro e w1 ⟨⟨r, rfl, hr⟩, hq1⟩
 have HR := hide hr
 clear hr
 go_wp2_with fail
 go_ret
 exact ⟨by rw [← HR.out]; rfl, hq1⟩
theorem index2 {A : Option Addr} {n c : Nat} {ps : List Lay} {w : World} (hs : Sl 4 encL w A n c ps) (hc : n ≤ 140737488351232) (t : Lay → Bool) (hf : ∀ W, Q w W → ∀ p ∈ ps, Calls Try.prog 102 #[p.v] W (R1 W (.bool (t p)))) :
  Calls Try.prog 121 #[.slice A n c, .func (.func 102) #[] #[]] w fun e w' => (∃ r : Int, e = .returned (.int .i64 r) ∧ decide (0 ≤ r) = ps.any t) ∧ Q w w' := by
 have hni : (n : Int) ≤ 140737488351232 := by have := hs.cap; omega
 have HS := hide hs
 have HF := hide hf
 have HPL := hide hs.len
 clear hs hc hf
 go_enter Try.func121, Try.ntmps121
 go_wp2_with fail
 go_loopw [8] (fun vi wr => ∃ j : Nat, j ≤ n ∧ vi = .int .i64 j ∧ (ps.take j).any t = false ∧ Q w wr) (fun vi _ => n - (intOf vi).toNat)
 case atStart => exact ⟨0, by omega, by go_num, by simp, Q.refl _⟩
 case round =>
  obtain ⟨j, hj, rfl, hany, hq⟩ := hrel
  have HANY := hide hany
  have HQ := hide hq
  clear hany
  by_cases hlt9 : j < n
  ·have hd1 : decide ((j : Int) < (n : Int)) = true := by simp; omega
   have hd0 : decide (j < n) = true := by simp; omega
   have hlti : (j : Int) < (n : Int) := by omega
   obtain ⟨b, o, m', x', y', B, l', d', qs, e, hb, hx, z0, z1, z2, z3⟩ := lay_at (HS.out.up hq) hlt9
   cases e
   obtain ⟨p, hpe⟩ : ∃ p, Lay.mk m' x' y' B l' d' qs = p := ⟨_, rfl⟩
   have hpv : p.v = .agg #[.int .i64 m', .int .i64 x', .bool y', .slice B l' d'] := by rw [← hpe]; rfl
   rw [hpe] at hx
   have HC := hide (HF.out wr hq p (List.mem_of_getElem? hx))
   unfold R1 at HC
   rw [hpv] at HC
   obtain ⟨r, hr⟩ : ∃ r, t p = r := ⟨_, rfl⟩
   rw [hr] at HC
   have HR := hide hr
   have HX := hide hx
   clear hpe hpv hx hr hq
   go_wp2_with fail
   refine HC.out.mono ?_
   rintro e w5 ⟨rfl, hq5⟩
   have HQ5 := hide (HQ.out.trans hq5)
   clear hq5 z0 z1 z2 z3
   cases r with
   | true =>
    go_wp2_with fail
    go_ret
    exact ⟨⟨(j : Int), rfl, by rw [any_hitL HX.out HR.out]; simp⟩, HQ5.out⟩
   | false =>
    go_wp2_with fail
    go_roundw
    case rel => exact ⟨j + 1, by omega, by go_num, by rw [any_takeL HX.out, HANY.out, HR.out]; rfl, HQ5.out⟩
    case measure => simp [intOf] <;> omega
  ·have hd1 : decide ((j : Int) < (n : Int)) = false := by simp; omega
   have hd0 : decide (j < n) = false := by simp; omega
   obtain rfl : j = n := by omega
   have HA := hide (show ps.any t = false by
    have h9 := HANY.out
    rwa [List.take_of_length_le (by have := HPL.out; omega)] at h9)
   clear hq
   go_wp2_with fail
   go_ret
   exact ⟨⟨-1, rfl, by rw [HA.out]; rfl⟩, HQ.out⟩
theorem contains2 {A : Option Addr} {n c : Nat} {ps : List Lay} {w : World} (hs : Sl 4 encL w A n c ps) (hc : n ≤ 140737488351232) (t : Lay → Bool) (hf : ∀ W, Q w W → ∀ p ∈ ps, Calls Try.prog 102 #[p.v] W (R1 W (.bool (t p)))) :
  Calls Try.prog 100 #[.slice A n c, .func (.func 102) #[] #[]] w (R1 w (.bool (ps.any t))) := by
 have HC := hide (index2 hs hc t hf)
 unfold R1
 go_enter Try.func100, Try.ntmps100
 go_wp2_with fail
 refine HC.out.mono ?_
 rintro e w1 ⟨⟨r, rfl, hr⟩, hq1⟩
 have HR := hide hr
 clear hr
 go_wp2_with fail
 go_ret
 exact ⟨by rw [← HR.out]; rfl, hq1⟩
theorem notPk_any {w : World} {l : Lay} (h : LayR w l) : ∀ W, Q w W → Calls Try.prog 101 #[l.v] W (R1 W (.bool (!pk12 l))) := by
 cases h with
 | @mk k n f A len cap ps hk hn hsl hnil hcap hall =>
  intro W hqW
  unfold R1
  have HSL := hide hsl
  have HQW := hide hqW
  have HPL := hide hsl.len
  have hlb : (len : Int) ≤ 140737488351232 := by have := hsl.cap; omega
  show Calls _ _ #[.agg #[.int .i64 k, .int .i64 n, .bool f, .slice A len cap]] W _
  obtain ⟨w1, hw1⟩ : ∃ w1, W.alloc (.cells #[.int .i64 k, .int .i64 n, .bool f, .slice A len cap] 24) = w1 := ⟨_, rfl⟩
  obtain ⟨hq1, hs1, hc⟩ := box1 hw1
  have hlt : W.heap.size < w1.heap.size := by omega
  have K0 := hide (show w1.cell? ⟨W.heap.size, 0, none⟩ = some (.int .i64 k) from hc 0 _ rfl)
  have K1 := hide (show w1.cell? ⟨W.heap.size, 1, none⟩ = some (.int .i64 n) from hc 1 _ rfl)
  have K2 := hide (show w1.cell? ⟨W.heap.size, 2, none⟩ = some (.bool f) from hc 2 _ rfl)
  have K3 := hide (show w1.cell? ⟨W.heap.size, 3, none⟩ = some (.slice A len cap) from hc 3 _ rfl)
  have HW1 := hide hw1
  have HQ1 := hide hq1
  clear hk hn hsl hnil hcap hall  hqW hw1 hc hq1 hs1
  go_enter Try.func101, Try.ntmps101
  go_upto_region 1 with fail
  rw [HW1.out]
  have k0 := K0.out
  by_cases h1 : k = 1
  ·subst h1
   go_wp2_with fail
   go_ret
   exact ⟨rfl, HQ1.out⟩
  have e1 : (k != 1) = true := by simp [h1]
  by_cases h2 : k = 2
  ·subst h2
   go_wp2_with fail
   go_ret
   exact ⟨rfl, HQ1.out⟩
  have e2 : (k != 2) = true := by simp [h2]
  have HP := hide (show pk12 (.mk k n f A len cap ps) = false by unfold pk12 Lay.k; simp [h1, h2])
  clear h1 h2
  go_wp2_with fail
  go_ret
  exact ⟨by rw [HP.out]; rfl, HQ1.out⟩
theorem isRight_any {w : World} {l : Lay} (h : LayR w l) : ∀ W, Q w W → Calls Try.prog 64 #[l.v] W (R1 W (.bool (rAll l))) := by
 induction h with
 | @mk k n f A len cap ps hk hn hsl hnil hcap hall ih =>
  intro W hqW
  have HIH := hide ih
  have HALLR := hide hall
  have HSLC := hide hcap
  have HRM := hide (rAll_mk k n f A len cap ps)
  have HRP := hide (right_parts k n f A len cap ps)
  rw [HRM.out]
  unfold R1
  have HSL := hide hsl
  have HQW := hide hqW
  have HPL := hide hsl.len
  have hlb : (len : Int) ≤ 140737488351232 := by have := hsl.cap; omega
  show Calls _ _ #[.agg #[.int .i64 k, .int .i64 n, .bool f, .slice A len cap]] W _
  obtain ⟨w1, hw1⟩ : ∃ w1, W.alloc (.cells #[.int .i64 k, .int .i64 n, .bool f, .slice A len cap] 24) = w1 := ⟨_, rfl⟩
  obtain ⟨hq1, hs1, hc⟩ := box1 hw1
  have hlt : W.heap.size < w1.heap.size := by omega
  have K0 := hide (show w1.cell? ⟨W.heap.size, 0, none⟩ = some (.int .i64 k) from hc 0 _ rfl)
  have K1 := hide (show w1.cell? ⟨W.heap.size, 1, none⟩ = some (.int .i64 n) from hc 1 _ rfl)
  have K2 := hide (show w1.cell? ⟨W.heap.size, 2, none⟩ = some (.bool f) from hc 2 _ rfl)
  have K3 := hide (show w1.cell? ⟨W.heap.size, 3, none⟩ = some (.slice A len cap) from hc 3 _ rfl)
  have HW1 := hide hw1
  have HQ1 := hide hq1
  clear hk hn hsl hnil hcap hall ih hqW hw1 hc hq1 hs1
  have HNR : Hid (∀ W', Q W W' → ∀ p ∈ ps, Calls Try.prog 102 #[p.v] W' (R1 W' (.bool (!rAll p)))) := hide fun W' hW' p hp => by
   have hlp := (HALLR.out p hp).up (HQW.out.trans hW')
   have HIP := hide (fun W2 (h2 : Q W' W2) => HIH.out p hp W2 (HQW.out.trans (hW'.trans h2)))
   unfold R1 at HIP ⊢
   obtain ⟨rp, hrp⟩ : ∃ rp, rAll p = rp := ⟨_, rfl⟩
   rw [hrp] at HIP ⊢
   obtain ⟨m', x', y', B, l', d', qs⟩ := p
   unfold Lay.v at HIP ⊢
   dsimp only at HIP ⊢
   obtain ⟨wb, hwb⟩ : ∃ wb, W'.alloc (.cells #[.int .i64 m', .int .i64 x', .bool y', .slice B l' d'] 24) = wb := ⟨_, rfl⟩
   obtain ⟨hqb, hsb, hcb⟩ := box1 hwb
   have t0 := hcb 0 _ rfl
   have t1 := hcb 1 _ rfl
   have t2 := hcb 2 _ rfl
   have t3 := hcb 3 _ rfl
   have HIB := hide (HIP.out wb hqb)
   have HWB := hide hwb
   have HQB := hide hqb
   clear hlp hrp hwb hqb hcb HW1 K0 K1 K2 K3 HIH HALLR HSL HRM HRP hlt HQ1 HIP hlb HPL
   go_enter Try.func102, Try.ntmps102
   go_upto_region 1 with fail
   rw [HWB.out]
   go_wp2_with fail
   refine HIB.out.mono ?_
   rintro e wc ⟨rfl, hqc⟩
   clear t0 t1 t2 t3
   cases rp <;>
   ·go_wp2_with fail
    go_ret
    exact ⟨rfl, HQB.out.trans hqc⟩
  go_enter Try.func64, Try.ntmps64
  go_upto_region 1 with fail
  rw [HW1.out]
  have hsz0 := HQ1.out.size
  have hC2 := fun W' (hW' : Q W W') => contains2 (HSL.out.up (HQW.out.trans hW')) HSLC.out (fun p => !rAll p) (fun W2 h2 p hp => HNR.out W2 (hW'.trans h2) p hp)
  have HC2 : Hid (∀ W', Q W W' → Calls Try.prog 100 #[.slice A len cap, .func (.func 102) #[] #[]] W' fun e w' => e = .returned (.bool (!ps.all rAll)) ∧ Q W' w') := hide fun W' hW' => by
   have h9 := hC2 W' hW'
   have e9 : (ps.any fun p => !rAll p) = !ps.all rAll := by rw [List.not_all_eq_any_not]
   rw [e9] at h9
   exact h9
  have HC1 : Hid (∀ W', Q W W' → Calls Try.prog 100 #[.slice A len cap, .func (.func 101) #[] #[]] W' fun e w' => e = .returned (.bool (!ps.all pk12)) ∧ Q W' w') := hide fun W' hW' => by
   have h9 := contains1 (HSL.out.up (HQW.out.trans hW')) HSLC.out (fun p => !pk12 p) (fun W2 h2 p hp => notPk_any (HALLR.out p hp) W2 (HQW.out.trans (hW'.trans h2)))
   have e9 : (ps.any fun p => !pk12 p) = !ps.all pk12 := by rw [List.not_all_eq_any_not]
   rw [e9] at h9
   exact h9
  obtain ⟨al, hal⟩ : ∃ al, ps.all rAll = al := ⟨_, rfl⟩
  obtain ⟨pk, hpk⟩ : ∃ pk, ps.all pk12 = pk := ⟨_, rfl⟩
  rw [hal] at HC2
  rw [hpk] at HC1
  have HAL := hide hal
  have HPK := hide hpk
  clear hC2 hal hpk
  have k1 := K1.out
  have k2 := K2.out
  have hxc := ext_cell
  refine wp_region_ext (by kernel_rfl) (by kernel_rfl) ?_
  repeat (go_big_quiet_step ((fail)))
  clear hxc
  refine wpQuiet_nil ?_
  intro wz hwwz
  have hqwz := q_of_ext hwwz
  clear hwwz
  obtain ⟨hcwz, hfwz, hzwz⟩ := hqwz.facts
  try simp at hzwz
  try have hs0wz : w.heap.size < wz.heap.size := by omega
  try have hs1wz : w.heap.size + 1 < wz.heap.size := by omega
  have k0 := (hqwz.facts.1 _ 0 hlt).trans K0.out
  have k1' := (hqwz.facts.1 _ 1 hlt).trans K1.out
  have k2' := (hqwz.facts.1 _ 2 hlt).trans K2.out
  have k3 := (hqwz.facts.1 _ 3 hlt).trans K3.out
  have hsz := hqwz.size
  have HQZ := hide (HQ1.out.trans hqwz)
  have dn0 : (n == 0) = decide (n = 0) := by by_cases h : n = 0 <;> simp [h]
  clear hqwz hcwz hfwz k1 k2
  by_cases h0 : k = 0
  ·subst h0
   by_cases hn : n = 0
   ·have dn : (n == 0) = true := by simp [hn]
    obtain ⟨hlp⟩ : Nonempty (ps.length = len) := ⟨HPL.out⟩
    by_cases hl : len = 0
    ·subst hl
     cases f with
     | true =>
      have HB := hide (HRP.out.trans (show _ = false by simp [numL, restL, hn, hlp]))
      go_wp2_with fail
      go_ret
      exact ⟨by rw [HB.out]; rfl, HQZ.out⟩
     | false =>
      have HB := hide (HRP.out.trans (show _ = true by simp [numL, restL, hn, hlp]))
      go_wp2_with fail
      refine (HC2.out wz (HQZ.out)).mono ?_
      rintro e w5 ⟨rfl, hq5⟩
      clear k0 k1' k2' k3
      go_wp2_with fail
      go_ret
      exact ⟨by rw [HB.out, HAL.out]; cases al <;> rfl, (HQZ.out).trans hq5⟩
    ·have dl : ((len : Int) != 0) = true := by simp; omega
     have HB := hide (HRP.out.trans (show _ = false by simp [numL, restL, hn, hlp, hl]))
     go_wp2_with fail
     go_ret
     exact ⟨by rw [HB.out]; rfl, HQZ.out⟩
   ·have dn : (n == 0) = false := by simp [hn]
    have HB := hide (HRP.out.trans (show _ = false by simp [numL, restL, hn]))
    go_wp2_with fail
    go_ret
    exact ⟨by rw [HB.out]; rfl, HQZ.out⟩
  have d0 : (k == 0) = false := by simp [h0]
  by_cases h1 : k = 1
  ·subst h1
   by_cases hn : n = 0
   ·have dn : (n == 0) = true := by simp [hn]
    obtain ⟨hlp⟩ : Nonempty (ps.length = len) := ⟨HPL.out⟩
    by_cases hl : len = 0
    ·subst hl
     cases f with
     | true =>
      have HB := hide (HRP.out.trans (show _ = false by simp [numL, restL, hn, hlp]))
      go_wp2_with fail
      go_ret
      exact ⟨by rw [HB.out]; rfl, HQZ.out⟩
     | false =>
      have HB := hide (HRP.out.trans (show _ = true by simp [numL, restL, hn, hlp]))
      go_wp2_with fail
      refine (HC2.out wz (HQZ.out)).mono ?_
      rintro e w5 ⟨rfl, hq5⟩
      clear k0 k1' k2' k3
      go_wp2_with fail
      go_ret
      exact ⟨by rw [HB.out, HAL.out]; cases al <;> rfl, (HQZ.out).trans hq5⟩
    ·have dl : ((len : Int) != 0) = true := by simp; omega
     have HB := hide (HRP.out.trans (show _ = false by simp [numL, restL, hn, hlp, hl]))
     go_wp2_with fail
     go_ret
     exact ⟨by rw [HB.out]; rfl, HQZ.out⟩
   ·have dn : (n == 0) = false := by simp [hn]
    have HB := hide (HRP.out.trans (show _ = false by simp [numL, restL, hn]))
    go_wp2_with fail
    go_ret
    exact ⟨by rw [HB.out]; rfl, HQZ.out⟩
  have d1 : (k == 1) = false := by simp [h1]
  by_cases h3 : k = 3
  ·subst h3
   by_cases hn : n = 0
   ·have dn : (n == 0) = true := by simp [hn]
    obtain ⟨hlp⟩ : Nonempty (ps.length = len) := ⟨HPL.out⟩
    by_cases hl : len = 0
    ·subst hl
     cases f with
     | true =>
      have HB := hide (HRP.out.trans (show _ = false by simp [numL, restL, hn, hlp]))
      go_wp2_with fail
      go_ret
      exact ⟨by rw [HB.out]; rfl, HQZ.out⟩
     | false =>
      have HB := hide (HRP.out.trans (show _ = true by simp [numL, restL, hn, hlp]))
      go_wp2_with fail
      refine (HC2.out wz (HQZ.out)).mono ?_
      rintro e w5 ⟨rfl, hq5⟩
      clear k0 k1' k2' k3
      go_wp2_with fail
      go_ret
      exact ⟨by rw [HB.out, HAL.out]; cases al <;> rfl, (HQZ.out).trans hq5⟩
    ·have dl : ((len : Int) != 0) = true := by simp; omega
     have HB := hide (HRP.out.trans (show _ = false by simp [numL, restL, hn, hlp, hl]))
     go_wp2_with fail
     go_ret
     exact ⟨by rw [HB.out]; rfl, HQZ.out⟩
   ·have dn : (n == 0) = false := by simp [hn]
    have HB := hide (HRP.out.trans (show _ = false by simp [numL, restL, hn]))
    go_wp2_with fail
    go_ret
    exact ⟨by rw [HB.out]; rfl, HQZ.out⟩
  have d3 : (k == 3) = false := by simp [h3]
  by_cases h2 : k = 2
  ·subst h2
   by_cases hn : 1 ≤ n
   ·have dn : decide (1 ≤ n) = true := by simp [hn]
    have dn2 : decide (n ≥ 1) = true := dn
    obtain ⟨hlp⟩ : Nonempty (ps.length = len) := ⟨HPL.out⟩
    by_cases hl : len = 0
    ·subst hl
     cases f <;>
     ·have HB := hide (HRP.out.trans (show _ = true by simp [numL, restL, hn, hlp]))
      go_wp2_with fail
      refine (HC2.out wz (HQZ.out)).mono ?_
      rintro e w5 ⟨rfl, hq5⟩
      clear k0 k1' k2' k3
      go_wp2_with fail
      go_ret
      exact ⟨by rw [HB.out, HAL.out]; cases al <;> rfl, (HQZ.out).trans hq5⟩
    ·have dl : ((len : Int) != 0) = true := by simp; omega
     have HB := hide (HRP.out.trans (show _ = false by simp [numL, restL, hn, hlp, hl]))
     go_wp2_with fail
     go_ret
     exact ⟨by rw [HB.out]; rfl, HQZ.out⟩
   ·have dn : decide (1 ≤ n) = false := by simp [hn]
    have dn2 : decide (n ≥ 1) = false := dn
    have HB := hide (HRP.out.trans (show _ = false by simp [numL, restL, hn]))
    go_wp2_with fail
    go_ret
    exact ⟨by rw [HB.out]; rfl, HQZ.out⟩
  have d2 : (k == 2) = false := by simp [h2]
  by_cases h7 : k = 7
  ·subst h7
   by_cases hn : 1 ≤ n
   ·have dn : decide (1 ≤ n) = true := by simp [hn]
    have dn2 : decide (n ≥ 1) = true := dn
    obtain ⟨hlp⟩ : Nonempty (ps.length = len) := ⟨HPL.out⟩
    by_cases hl : len = 0
    ·subst hl
     cases f with
     | true =>
      have HB := hide (HRP.out.trans (show _ = false by simp [numL, restL, hn, hlp]))
      go_wp2_with fail
      go_ret
      exact ⟨by rw [HB.out]; rfl, HQZ.out⟩
     | false =>
      have HB := hide (HRP.out.trans (show _ = true by simp [numL, restL, hn, hlp]))
      go_wp2_with fail
      refine (HC2.out wz (HQZ.out)).mono ?_
      rintro e w5 ⟨rfl, hq5⟩
      clear k0 k1' k2' k3
      go_wp2_with fail
      go_ret
      exact ⟨by rw [HB.out, HAL.out]; cases al <;> rfl, (HQZ.out).trans hq5⟩
    ·have dl : ((len : Int) != 0) = true := by simp; omega
     have HB := hide (HRP.out.trans (show _ = false by simp [numL, restL, hn, hlp, hl]))
     go_wp2_with fail
     go_ret
     exact ⟨by rw [HB.out]; rfl, HQZ.out⟩
   ·have dn : decide (1 ≤ n) = false := by simp [hn]
    have dn2 : decide (n ≥ 1) = false := dn
    have HB := hide (HRP.out.trans (show _ = false by simp [numL, restL, hn]))
    go_wp2_with fail
    go_ret
    exact ⟨by rw [HB.out]; rfl, HQZ.out⟩
  have d7 : (k == 7) = false := by simp [h7]
  by_cases h5 : k = 5
  ·subst h5
   by_cases hn : 0 ≤ n
   ·have dn : decide (0 ≤ n) = true := by simp [hn]
    have dn2 : decide (n ≥ 0) = true := dn
    obtain ⟨hlp⟩ : Nonempty (ps.length = len) := ⟨HPL.out⟩
    by_cases hl : len = 1
    ·subst hl
     cases f with
     | true =>
      have HB := hide (HRP.out.trans (show _ = false by simp [numL, restL, hn, hlp]))
      go_wp2_with fail
      go_ret
      exact ⟨by rw [HB.out]; rfl, HQZ.out⟩
     | false =>
      have HB := hide (HRP.out.trans (show _ = true by simp [numL, restL, hn, hlp]))
      go_wp2_with fail
      refine (HC2.out wz (HQZ.out)).mono ?_
      rintro e w5 ⟨rfl, hq5⟩
      clear k0 k1' k2' k3
      go_wp2_with fail
      go_ret
      exact ⟨by rw [HB.out, HAL.out]; cases al <;> rfl, (HQZ.out).trans hq5⟩
    ·have dl : ((len : Int) != 1) = true := by simp; omega
     have HB := hide (HRP.out.trans (show _ = false by simp [numL, restL, hn, hlp, hl]))
     go_wp2_with fail
     go_ret
     exact ⟨by rw [HB.out]; rfl, HQZ.out⟩
   ·have dn : decide (0 ≤ n) = false := by simp [hn]
    have dn2 : decide (n ≥ 0) = false := dn
    have HB := hide (HRP.out.trans (show _ = false by simp [numL, restL, hn]))
    go_wp2_with fail
    go_ret
    exact ⟨by rw [HB.out]; rfl, HQZ.out⟩
  have d5 : (k == 5) = false := by simp [h5]
  by_cases h4 : k = 4
  ·subst h4
   by_cases hn : n = 0
   ·have dn : (n == 0) = true := by simp [hn]
    obtain ⟨hlp⟩ : Nonempty (ps.length = len) := ⟨HPL.out⟩
    by_cases hl : len = 1
    ·subst hl
     cases f with
     | true =>
      have HB := hide (HRP.out.trans (show _ = false by simp [numL, restL, hn, hlp]))
      go_wp2_with fail
      go_ret
      exact ⟨by rw [HB.out]; rfl, HQZ.out⟩
     | false =>
      have HB := hide (HRP.out.trans (show _ = true by simp [numL, restL, hn, hlp]))
      go_wp2_with fail
      refine (HC2.out wz (HQZ.out)).mono ?_
      rintro e w5 ⟨rfl, hq5⟩
      clear k0 k1' k2' k3
      go_wp2_with fail
      go_ret
      exact ⟨by rw [HB.out, HAL.out]; cases al <;> rfl, (HQZ.out).trans hq5⟩
    ·have dl : ((len : Int) != 1) = true := by simp; omega
     have HB := hide (HRP.out.trans (show _ = false by simp [numL, restL, hn, hlp, hl]))
     go_wp2_with fail
     go_ret
     exact ⟨by rw [HB.out]; rfl, HQZ.out⟩
   ·have dn : (n == 0) = false := by simp [hn]
    have HB := hide (HRP.out.trans (show _ = false by simp [numL, restL, hn]))
    go_wp2_with fail
    go_ret
    exact ⟨by rw [HB.out]; rfl, HQZ.out⟩
  have d4 : (k == 4) = false := by simp [h4]
  by_cases h8 : k = 8
  ·subst h8
   by_cases hn : n = 0
   ·have dn : (n == 0) = true := by simp [hn]
    obtain ⟨hlp⟩ : Nonempty (ps.length = len) := ⟨HPL.out⟩
    by_cases hl : 1 ≤ len
    ·have dg : decide ((1 : Int) ≤ (len : Int)) = true := by simp; omega
     have dg2 : decide ((len : Int) ≥ 1) = true := dg
     have dl : ((len : Int) != (len : Int)) = false := by simp
     cases f with
     | true =>
      have HB := hide (HRP.out.trans (show _ = false by simp [numL, restL, hn, hlp, hl]))
      go_wp2_with fail
      go_ret
      exact ⟨by rw [HB.out]; rfl, HQZ.out⟩
     | false =>
      have HB := hide (HRP.out.trans (show _ = true by simp [numL, restL, hn, hlp, hl]))
      go_wp2_with fail
      refine (HC2.out wz (HQZ.out)).mono ?_
      rintro e w5 ⟨rfl, hq5⟩
      clear k0 k1' k2' k3
      go_wp2_with fail
      go_ret
      exact ⟨by rw [HB.out, HAL.out]; cases al <;> rfl, (HQZ.out).trans hq5⟩
    ·have dg : decide ((1 : Int) ≤ (len : Int)) = false := by simp; omega
     have dg2 : decide ((len : Int) ≥ 1) = false := dg
     have HB := hide (HRP.out.trans (show _ = false by simp [numL, restL, hn, hlp, hl]))
     go_wp2_with fail
     go_ret
     exact ⟨by rw [HB.out]; rfl, HQZ.out⟩
   ·have dn : (n == 0) = false := by simp [hn]
    have HB := hide (HRP.out.trans (show _ = false by simp [numL, restL, hn]))
    go_wp2_with fail
    go_ret
    exact ⟨by rw [HB.out]; rfl, HQZ.out⟩
  have d8 : (k == 8) = false := by simp [h8]
  by_cases h6 : k = 6
  ·subst h6
   by_cases hn : n = 0
   ·have dn : (n == 0) = true := by simp [hn]
    obtain ⟨hlp⟩ : Nonempty (ps.length = len) := ⟨HPL.out⟩
    have dl : ((len : Int) != (len : Int)) = false := by simp
    cases f with
    | true =>
     have HB := hide (HRP.out.trans (show _ = false by simp [numL, restL, hn, hlp]))
     go_wp2_with fail
     go_ret
     exact ⟨by rw [HB.out]; rfl, HQZ.out⟩
    | false =>
     have HB := hide (HRP.out.trans (show _ = true by simp [numL, restL, hn, hlp]))
     go_wp2_with fail
     refine (HC2.out wz (HQZ.out)).mono ?_
     rintro e w5 ⟨rfl, hq5⟩
     clear k0 k1' k2' k3
     go_wp2_with fail
     go_ret
     exact ⟨by rw [HB.out, HAL.out]; cases al <;> rfl, (HQZ.out).trans hq5⟩
   ·have dn : (n == 0) = false := by simp [hn]
    have HB := hide (HRP.out.trans (show _ = false by simp [numL, restL, hn]))
    go_wp2_with fail
    go_ret
    exact ⟨by rw [HB.out]; rfl, HQZ.out⟩
  have d6 : (k == 6) = false := by simp [h6]
  by_cases h9 : k = 9
  ·subst h9
   by_cases hn : n = 0
   ·have dn : (n == 0) = true := by simp [hn]
    obtain ⟨hlp⟩ : Nonempty (ps.length = len) := ⟨HPL.out⟩
    have dl : ((len : Int) != (len : Int)) = false := by simp
    cases f with
    | true =>
     have HB := hide (HRP.out.trans (show _ = false by simp [numL, restL, hn, hlp]))
     go_wp2_with fail
     go_ret
     exact ⟨by rw [HB.out]; rfl, HQZ.out⟩
    | false =>
     cases pk with
     | false =>
      have HB := hide (HRP.out.trans (show _ = false by simp [numL, restL, hn, hlp, HPK.out]))
      go_wp2_with fail
      refine (HC1.out wz HQZ.out).mono ?_
      rintro e w5 ⟨rfl, hq5⟩
      go_wp2_with fail
      go_ret
      exact ⟨by rw [HB.out]; rfl, HQZ.out.trans hq5⟩
     | true =>
      have HB := hide (HRP.out.trans (show _ = true by simp [numL, restL, hn, hlp, HPK.out]))
      go_wp2_with fail
      refine (HC1.out wz HQZ.out).mono ?_
      rintro e w5 ⟨rfl, hq5⟩
      have k3' := (hq5.facts.1 _ 3 (Nat.lt_of_lt_of_le hlt hsz)).trans k3
      have HQ5 := hide (HQZ.out.trans hq5)
      clear k3
      go_wp2_with fail
      refine (HC2.out w5 HQ5.out).mono ?_
      rintro e w6 ⟨rfl, hq6⟩
      clear k0 k1' k2' k3'
      go_wp2_with fail
      go_ret
      exact ⟨by rw [HB.out, HAL.out]; cases al <;> rfl, HQ5.out.trans hq6⟩
   ·have dn : (n == 0) = false := by simp [hn]
    have HB := hide (HRP.out.trans (show _ = false by simp [numL, restL, hn]))
    go_wp2_with fail
    go_ret
    exact ⟨by rw [HB.out]; rfl, HQZ.out⟩
  have d9 : (k == 9) = false := by simp [h9]
  have HB := hide (show rightL (.mk k n f A len cap ps) = false by
   rw [HRP.out]
   have : (decide (0 ≤ k) && decide (k ≤ 9)) = false := by
    by_cases h : 0 ≤ k
    ·have : ¬ k ≤ 9 := by omega
     simp [this]
    ·simp [h]
   rw [this]
   rfl)
  clear h0 h1 h3 h2 h7 h5 h4 h8 h6 h9
  go_wp2_with fail
  go_ret
  exact ⟨by rw [HB.out]; rfl, HQZ.out⟩
end Go.Proofs.Ytbgbalfhbficaaa
