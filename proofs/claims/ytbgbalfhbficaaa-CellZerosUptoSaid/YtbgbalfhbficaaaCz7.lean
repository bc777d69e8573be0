/- up, whole of both. The program's packed; roomOf at the kinds without parts. roomOf at the kinds of one part. placed of the program. Conditions: as each theorem says. -/
import Derived.Test.YtbgbalfhbficaaaCz6
namespace Go.Proofs.Ytbgbalfhbficaaa
set_option maxRecDepth 100000
set_option maxHeartbeats 2000000
open Go.RowKit
set_option linter.unusedVariables false
set_option linter.unusedSimpArgs false
theorem up_any (n a : Int) (ha : isA a) (hn : 0 ≤ n) (hb : n ≤ 2199023255552) (w : World) : Calls Try.prog 65 #[.int .i64 n, .int .i64 a] w (R1 w (.int .i64 (upI n a))) := by
 unfold R1
 unfold isA at ha
 have hq : ∀ c : Int, 0 ≤ n + c - 1 → (c = 1 ∨ c = 2 ∨ c = 4 ∨ c = 8) → (n + c - 1).tdiv c = (n + c - 1) / c := fun c h1 h2 => Int.tdiv_eq_ediv_of_nonneg h1
 rcases ha with rfl | rfl | rfl | rfl
 all_goals
  unfold upI
  go_enter Try.func65, Try.ntmps65
  go_wp2_with fail
  go_ret
  refine ⟨congrArg Ending.returned (congrArg (Value.int .i64) ?_), Q.refl _⟩
  first
   | rfl
   | omega
   | (rw [Int.tdiv_eq_ediv_of_nonneg (by omega)]; omega)
   | (rw [Int.tdiv_one]; omega)
theorem whole0_any (n : Int) (h0 : 0 ≤ n) (h1 : n ≤ 64) (w : World) : Calls Try.prog 88 #[.int .i64 n] w (R1 w (.int .i64 (if n = 0 then 0 else whB n))) := by
 unfold R1
 by_cases hz : n = 0
 ·subst hz
  go_enter Try.func88, Try.ntmps88
  go_wp2_with fail
  go_ret
  exact ⟨rfl, Q.refl _⟩
 have dz : (n == 0) = false := by simp [hz]
 have HZ := hide hz
 clear hz
 go_enter Try.func88, Try.ntmps88
 go_wp2_with fail
 go_loopw [3] (fun v3 wr => ∃ s : Int, (s = 1 ∨ s = 2 ∨ s = 4 ∨ s = 8) ∧ (s = 1 ∨ 4 * s < n) ∧ v3 = .int .i64 s ∧ Q w wr) (fun v3 _ => 8 - (intOf v3).toNat)
 case atStart => exact ⟨1, .inl rfl, .inl rfl, rfl, Q.refl _⟩
 case round =>
  obtain ⟨s, hs, hsn, rfl, hq⟩ := hrel
  have HQ := hide hq
  clear hq
  by_cases hc : 8 * s < n
  ·have d1 : decide (8 * s < n) = true := by simp [hc]
   rcases hs with rfl | rfl | rfl | rfl
   ·go_wp2_with fail
    go_roundw
    case rel => exact ⟨2, by simp, .inr (by omega), rfl, HQ.out⟩
    case measure => simp [intOf]
   ·go_wp2_with fail
    go_roundw
    case rel => exact ⟨4, by simp, .inr (by omega), rfl, HQ.out⟩
    case measure => simp [intOf]
   ·go_wp2_with fail
    go_roundw
    case rel => exact ⟨8, by simp, .inr (by omega), rfl, HQ.out⟩
    case measure => simp [intOf]
   ·omega
  ·have d1 : decide (8 * s < n) = false := by simp [hc]
   have HV := hide (show (if n = 0 then (0 : Int) else whB n) = s by
    rw [if_neg HZ.out]
    unfold whB
    rcases hs with rfl | rfl | rfl | rfl
    ·rw [if_pos (by omega)]
    ·rw [if_neg (by omega), if_pos (by omega)]
    ·rw [if_neg (by omega), if_neg (by omega), if_pos (by omega)]
    ·rw [if_neg (by omega), if_neg (by omega), if_neg (by omega)])
   have HV2 := hide (show whB n = s by have h9 := HV.out; rwa [if_neg HZ.out] at h9)
   rcases hs with rfl | rfl | rfl | rfl
   all_goals
    go_wp2_with fail
    go_ret
    exact ⟨by first | (rw [HV.out]; rfl) | (rw [HV2.out]; rfl), HQ.out⟩
theorem up05_any (n a : Int) (ha : isA a) (hn : 0 ≤ n) (hb : n ≤ 2199023255552) (w : World) : Calls Try.prog 78 #[.int .i64 n, .int .i64 a] w (R1 w (.int .i64 (upI n a))) := by
 unfold R1
 obtain ⟨u1, u2, u3⟩ := ha.up hn
 have HM : Hid (∀ m : Int, n ≤ m → m ≤ upI n a → ((m.tmod a = 0) ↔ m = upI n a)) := hide fun m h1 h2 => by
  have e : m.tmod a = m % a := Int.tmod_eq_emod_of_nonneg (by omega)
  rw [e]
  unfold isA at ha
  unfold upI at h2 u1 u2 ⊢
  rcases ha with rfl | rfl | rfl | rfl <;> omega
 have ha0 : (a == 0) = false := by unfold isA at ha; rcases ha with rfl | rfl | rfl | rfl <;> rfl
 have ha1 : ¬ a = 0 := by unfold isA at ha; omega
 have ha8 : a ≤ 8 := by unfold isA at ha; omega
 obtain ⟨U, hU⟩ : ∃ U, upI n a = U := ⟨_, rfl⟩
 rw [hU] at HM u1 u2 u3 ⊢
 have hub : U ≤ 2199023255559 := by omega
 have HU0 := hide u1
 clear ha hU
 go_enter Try.func78, Try.ntmps78
 go_wp2_with fail
 go_loopw [0] (fun v0 wr => ∃ m : Int, n ≤ m ∧ m ≤ U ∧ v0 = .int .i64 m ∧ Q w wr) (fun v0 _ => (U - intOf v0).toNat)
 case atStart => exact ⟨n, by omega, by omega, rfl, Q.refl _⟩
 case round =>
  obtain ⟨m, hm1, hm2, rfl, hq⟩ := hrel
  have HQ := hide hq
  have hiff := HM.out m hm1 hm2
  obtain ⟨t, ht⟩ : ∃ t, m.tmod a = t := ⟨_, rfl⟩
  rw [ht] at hiff
  have HIF := hide hiff
  clear hq hiff
  by_cases h0 : t = 0
  ·have hmU := HIF.out.1 h0
   have d0 : (t != 0) = false := by simp [h0]
   have HMU := hide hmU
   clear h0 hmU
   go_wp2_with fail
   go_ret
   exact ⟨by rw [← HMU.out]; rfl, HQ.out⟩
  ·have hmU : m ≠ U := fun h => h0 (HIF.out.2 h)
   have d0 : (t != 0) = true := by simp [h0]
   clear h0
   go_wp2_with fail
   go_roundw
   case rel => exact ⟨m + 1, by omega, by omega, by go_num, HQ.out⟩
   case measure => simp [intOf] <;> omega
theorem whole05_any (n wd : Int) (hw : wd = 2 ∨ wd = 4 ∨ wd = 8) (h1 : n ≤ 64) (h0 : 1 ≤ n) (w : World) : Calls Try.prog 77 #[.int .i64 n, .int .i64 wd] w (R1 w (.agg #[.int .i64 (whB n), .int .i64 (min (whB n) wd)])) := by
 unfold R1
 obtain ⟨w1, hw1⟩ : ∃ w1, w.alloc (.cells #[.int .i64 0, .int .i64 0] 86) = w1 := ⟨_, rfl⟩
 obtain ⟨hq1, hs1, hc⟩ := box1 hw1
 have hlt : w.heap.size < w1.heap.size := by omega
 have kb : w1.heap[w.heap.size]? = some (.cells #[.int .i64 0, .int .i64 0] 86 (0, 0)) := by rw [← hw1]; exact heap_alloc_new w _
 have Z0 := hide (show w1.cell? ⟨w.heap.size, 0, none⟩ = some (.int .i64 0) from hc 0 _ rfl)
 have Z1 := hide (show w1.cell? ⟨w.heap.size, 1, none⟩ = some (.int .i64 0) from hc 1 _ rfl)
 have Y0 := hide (frz_new (j := 0) kb)
 have Y1 := hide (frz_new (j := 1) kb)
 have HW1 := hide hw1
 have HQ1 := hide hq1
 clear hw1 hq1 hc kb
 go_enter Try.func77, Try.ntmps77
 go_upto_region 1 with fail
 rw [HW1.out]
 go_wp2_with fail
 go_loopw [5] (fun v5 wr => ∃ s : Int, (s = 1 ∨ s = 2 ∨ s = 4 ∨ s = 8) ∧ (s = 1 ∨ 4 * s < n) ∧ v5 = .int .i64 s ∧ Q w1 wr) (fun v5 _ => 8 - (intOf v5).toNat)
 case atStart => exact ⟨1, .inl rfl, .inl rfl, rfl, Q.refl _⟩
 case round =>
  obtain ⟨s, hs, hsn, rfl, hq⟩ := hrel
  have HQ := hide hq
  by_cases hc : 8 * s < n
  ·have d1 : decide (8 * s < n) = true := by simp [hc]
   clear hq
   rcases hs with rfl | rfl | rfl | rfl
   ·go_wp2_with fail
    go_roundw
    case rel => exact ⟨2, by simp, .inr (by omega), rfl, HQ.out⟩
    case measure => simp [intOf]
   ·go_wp2_with fail
    go_roundw
    case rel => exact ⟨4, by simp, .inr (by omega), rfl, HQ.out⟩
    case measure => simp [intOf]
   ·go_wp2_with fail
    go_roundw
    case rel => exact ⟨8, by simp, .inr (by omega), rfl, HQ.out⟩
    case measure => simp [intOf]
   ·omega
  ·have d1 : decide (8 * s < n) = false := by simp [hc]
   have HV := hide (show whB n = s by
    unfold whB
    rcases hs with rfl | rfl | rfl | rfl
    ·rw [if_pos (by omega)]
    ·rw [if_neg (by omega), if_pos (by omega)]
    ·rw [if_neg (by omega), if_neg (by omega), if_pos (by omega)]
    ·rw [if_neg (by omega), if_neg (by omega), if_neg (by omega)])
   have z0 := (hq.facts.1 _ 0 hlt).trans Z0.out
   have z1 := (hq.facts.1 _ 1 hlt).trans Z1.out
   have y0 := (hq.facts.2.1 _ 0 hlt).trans Y0.out
   have y1 := (hq.facts.2.1 _ 1 hlt).trans Y1.out
   obtain ⟨mn, hmn⟩ : ∃ mn, min s wd = mn := ⟨_, rfl⟩
   have hmn2 : (if wd < s then wd else s) = mn := by rw [← hmn]; split <;> omega
   obtain ⟨s0, s1⟩ := set2c (v0 := .int .i64 s) (v1 := .int .i64 mn) z0 z1
   have S0 := hide s0
   have S1 := hide s1
   have HMN := hide hmn
   have HQS := hide (((HQ1.out.trans HQ.out).set (p := ⟨w.heap.size, 0, none⟩) (by simp) (.int .i64 s)).set (p := ⟨w.heap.size, 1, none⟩) (by simp) (.int .i64 mn))
   have hsb0 : 1 ≤ s := by omega
   have hsb1 : s ≤ 8 := by omega
   have hwr : IntKind.i64.wrap (8 * s) = 8 * s := by rw [IntKind.wrap_i64]; omega
   have hcn : ¬ 8 * s < n := hc
   clear hq s0 s1 hs hsn hc
   go_wp2_with fail
   have s0 := S0.out
   have s1 := S1.out
   refine bodyPost_ret (v := .agg #[.int .i64 s, .int .i64 mn]) (by simp [results, Try.results77, go_sem, s0, s1]) rfl ?_
   exact ⟨by rw [HV.out, HMN.out], HQS.out⟩
abbrev tgW (wd : Int) (b : Bool) : Value := .agg #[.int .i64 wd, .bool b]
abbrev rmV (r : Rm) : Value := .agg #[.int .i64 r.1, .int .i64 r.2]
def packS (l : Lay) : Int := l.parts.foldl (fun s p => s + bitsL p) 0
theorem fold_one : ∀ (ps : List Lay) (a b : Int), ((a = b ∧ 0 ≤ a ∧ a ≤ 64) ∨ 64 < a) → ((ps.foldl (fun s p => min (s + min (bitsL p) 1000) 100000) a = ps.foldl (fun s p => s + bitsL p) b) ∨ 64 < ps.foldl (fun s p => min (s + min (bitsL p) 1000) 100000) a)
 | [], a, b, h => by
  rcases h with ⟨h1, h2, h3⟩ | h
  ·exact .inl h1
  ·exact .inr h
 | p :: r, a, b, h => by
  rw [List.foldl_cons, List.foldl_cons]
  have h0 := bits_nn p
  refine fold_one r _ _ ?_
  rcases h with ⟨rfl, h2, h3⟩ | h1
  ·by_cases hc : a + bitsL p ≤ 64
   ·exact .inl ⟨by omega, by omega, by omega⟩
   ·exact .inr (by omega)
  ·exact .inr (by omega)
theorem packS_eq {l : Lay} (h : packR l ≤ 64) : packS l = packR l := by
 rcases fold_one l.parts 0 0 (.inl ⟨rfl, by omega, by omega⟩) with h1 | h1
 ·exact h1.symm
 ·have : 64 < packR l := h1
  omega
theorem packS_bd : ∀ (ps : List Lay) (a : Int), (∀ p ∈ ps, bitsL p ≤ 64) → 0 ≤ a → a ≤ ps.foldl (fun s p => s + bitsL p) a ∧ ps.foldl (fun s p => s + bitsL p) a ≤ a + 64 * ps.length
 | [], a, _, h => by simp
 | p :: r, a, h, h0 => by
  have h1 := bits_nn p
  have h2 := h p (List.mem_cons_self ..)
  rw [List.foldl_cons]
  have ih := packS_bd r (a + bitsL p) (fun q hq => h q (List.mem_cons_of_mem _ hq)) (by omega)
  simp only [List.length_cons]
  omega
theorem bits64 {l : Lay} (h : bigL l = false) : bitsL l ≤ 64 := by
 unfold bigL at h
 simp only [Bool.or_eq_false_iff, decide_eq_false_iff_not] at h
 have h2 := h.2.1
 unfold bitsL
 by_cases h1 : l.k = 1
 ·rw [if_pos h1]; omega
 ·rw [if_neg h1]
  by_cases h3 : l.k = 2
  ·rw [if_pos h3]
   rw [h3] at h2
   unfold mostL at h2
   rw [if_pos rfl] at h2
   omega
  ·rw [if_neg h3]; omega
theorem VL.len {k n : Int} {f : Bool} {A : Option Addr} {len cap : Nat} {ps : List Lay} (h : VL (.mk k n f A len cap ps)) : ps.length ≤ 12 ∧ (k = 2 → n ≤ 64) ∧ (k = 5 → n ≤ 1000) ∧ (k = 7 → n ≤ 65536) ∧ (k = 9 → packR (.mk k n f A len cap ps) ≤ 64) := by
 have h1 := h.self.2
 unfold bigL at h1
 simp only [Bool.or_eq_false_iff, decide_eq_false_iff_not, Bool.and_eq_false_iff] at h1
 have h2 : ¬ 12 < ps.length := h1.1
 have h3 : ¬ mostL k < n := h1.2.1
 unfold mostL at h3
 refine ⟨by omega, fun e => ?_, fun e => ?_, fun e => ?_, fun e => ?_⟩
 ·subst e; rw [if_pos rfl] at h3; omega
 ·subst e; rw [if_neg (by decide), if_pos rfl] at h3; omega
 ·subst e; rw [if_neg (by decide), if_neg (by decide), if_pos rfl] at h3; omega
 ·rcases h1.2.2 with h4 | h4
  ·exact absurd e h4
  ·omega
namespace Ri
theorem run_minD {P : Program} {o : Oper} {A : Act} {w : World} {x y : Operand} {t t' : TypeId} {p u : Int} (ho : o.op = .call { callee := .builtin .min, args := #[x, y], argTypes := #[t, t'] }) (hx : A.eval x = .int .i64 p) (hy : A.eval y = .int .i64 u) : (execOp A.eval o).run P w = .ok (.value (.int .i64 (min p u))) w := by
 rw [run_minC ho hx hy]
 have e : min p u = if u < p then u else p := by split <;> omega
 rw [e]
end Ri
theorem packedP_any {w : World} {l : Lay} (h : LayR w l) : VL l → ∀ W, Q w W → Calls Try.prog 89 #[l.v] W (R1 W (.int .i64 (packS l))) := by
 cases h with
 | @mk k n f A len cap ps hk hn hsl hnil hcap hall =>
  intro hcnt
  intro W hqW
  have hlen := hcnt.len.1
  have hbt : ∀ p ∈ ps, bitsL p ≤ 64 := fun p hp => bits64 (hcnt.part (l := .mk k n f A len cap ps) hp).self.2
  have HBT := hide (fun (qs : List Lay) (hqs : ∀ p ∈ qs, p ∈ ps) => packS_bd qs 0 (fun p hp => hbt p (hqs p hp)) (by omega))
  have HBI := hide (fun p (hp : p ∈ ps) W (hW : Q w W) => bitsP_any (hall p hp) W hW)
  have HPK := hide (show packS (.mk k n f A len cap ps) = ps.foldl (fun s p => s + bitsL p) 0 from rfl)
  have HB64 := hide hbt
  rw [HPK.out]
  clear hcnt hbt
  unfold R1
  have HSL := hide hsl
  have HQW := hide hqW
  have HPL := hide hsl.len
  have hlb : (len : Int) ≤ 140737488351232 := by have := hsl.cap; omega
  show Calls _ _ #[.agg #[.int .i64 k, .int .i64 n, .bool f, .slice A len cap]] W _
  obtain ⟨w1, hw1⟩ : ∃ w1, W.alloc (.cells #[.int .i64 k, .int .i64 n, .bool f, .slice A len cap] 24) = w1 := ⟨_, rfl⟩
  obtain ⟨hq1, hs1, hc⟩ := box1 hw1
  have hlt : W.heap.size < w1.heap.size := by omega
  have K0 := hide (show w1.cell? ⟨W.heap.size, 0, none⟩ = some (.int .i64 k) from hc 0 _ rfl)
  have K1 := hide (show w1.cell? ⟨W.heap.size, 1, none⟩ = some (.int .i64 n) from hc 1 _ rfl)
  have K2 := hide (show w1.cell? ⟨W.heap.size, 2, none⟩ = some (.bool f) from hc 2 _ rfl)
  have K3 := hide (show w1.cell? ⟨W.heap.size, 3, none⟩ = some (.slice A len cap) from hc 3 _ rfl)
  have HW1 := hide hw1
  have HQ1 := hide hq1
  clear hk hn hsl hnil hcap hall  hqW hw1 hc hq1 hs1
  go_enter Try.func89, Try.ntmps89
  go_upto_region 1 with fail
  rw [HW1.out]
  have k3 := K3.out
  have hlen2 : len ≤ 12 := by have := HPL.out; omega
  go_wp2_with fail
  clear k3
  go_loopw [3, 9] (fun v3 vi wr => ∃ j : Nat, j ≤ len ∧ vi = .int .i64 j ∧ v3 = .int .i64 ((ps.take j).foldl (fun s p => s + bitsL p) (0 : Int)) ∧ Q w1 wr) (fun _ vi _ => len - (intOf vi).toNat)
  case atStart => exact ⟨0, by omega, by go_num, by simp, Q.refl _⟩
  case round =>
   obtain ⟨j, hj, rfl, rfl, hq⟩ := hrel
   have k3 := (hq.facts.1 _ 3 hlt).trans K3.out
   have HQ := hide hq
   by_cases hlt9 : j < len
   ·have hd1 : decide ((j : Int) < (len : Int)) = true := by simp; omega
    have hd0 : decide (j < len) = true := by simp; omega
    have hlti : (j : Int) < (len : Int) := by omega
    obtain ⟨b, o, m', x', y', B, l', d', qs, e, hb, hx, z0, z1, z2, z3⟩ := lay_at (HSL.out.up (HQW.out.trans (HQ1.out.trans hq))) hlt9
    cases e
    obtain ⟨p, hpe⟩ : ∃ p, Lay.mk m' x' y' B l' d' qs = p := ⟨_, rfl⟩
    have hpv : p.v = .agg #[.int .i64 m', .int .i64 x', .bool y', .slice B l' d'] := by rw [← hpe]; rfl
    rw [hpe] at hx
    have HPM := hide (List.mem_of_getElem? hx)
    have HX := hide hx
    obtain ⟨wa, hwa⟩ : ∃ wa, wr.alloc (.cells #[.int .i64 m', .int .i64 x', .bool y', .slice B l' d'] 24) = wa := ⟨_, rfl⟩
    obtain ⟨hqa, hsa, hca⟩ := box1 hwa
    have t0 := hca 0 _ rfl
    have t1 := hca 1 _ rfl
    have t2 := hca 2 _ rfl
    have t3 := hca 3 _ rfl
    have HC := hide (HBI.out p (List.mem_of_getElem? hx) wa (HQW.out.trans (HQ1.out.trans (hq.trans hqa))))
    unfold R1 at HC
    rw [hpv] at HC
    clear hx hpe hpv
    obtain ⟨hb0, hb1⟩ := HBT.out (ps.take j) (fun q hq9 => List.mem_of_mem_take hq9)
    have htl : (ps.take j).length ≤ 12 := by rw [List.length_take]; omega
    have hnn := bits_nn p
    have hb9 := HB64.out p HPM.out
    have hst := fold_take (fun (s : Int) p => s + bitsL p) (0 : Int) HX.out
    try dsimp only at hst
    obtain ⟨acc, hacc⟩ : ∃ acc, (ps.take j).foldl (fun s p => s + bitsL p) (0 : Int) = acc := ⟨_, rfl⟩
    obtain ⟨bp, hbp⟩ : ∃ bp, bitsL p = bp := ⟨_, rfl⟩
    rw [hacc] at hb0 hb1 hst ⊢
    rw [hbp] at hnn hb9 hst HC
    have hac : acc ≤ 768 := by omega
    have HST := hide hst
    have HWA := hide hwa
    have HQA := hide (hq.trans hqa)
    clear hacc hbp hst hwa hca hqa hq hb1 htl
    go_upto_region 5 with fail
    rw [HWA.out]
    clear z0 z1 z2 z3 k3
    go_wp2_with fail
    refine HC.out.mono ?_
    rintro e w5 ⟨rfl, hq5⟩
    have HQ5 := hide (HQA.out.trans hq5)
    have hw : IntKind.i64.wrap (acc + bp) = acc + bp := by rw [IntKind.wrap_i64]; omega
    clear hq5 t0 t1 t2 t3
    go_wp2_with fail
    go_roundw
    case rel => exact ⟨j + 1, by omega, by go_num, by first | (rw [HST.out]; done) | (rw [HST.out]; congr 1; done) | (rw [HST.out]; congr 1; omega), HQ5.out⟩
    case measure => simp [intOf] <;> omega
   ·have hd1 : decide ((j : Int) < (len : Int)) = false := by simp; omega
    have hd0 : decide (j < len) = false := by simp; omega
    obtain rfl : j = len := by omega
    have he : ps.take j = ps := List.take_of_length_le (by have := HPL.out; omega)
    rw [he]
    clear he hq
    go_wp2_with fail
    go_ret
    exact ⟨rfl, HQ1.out.trans HQ.out⟩
theorem roomP0 {w : World} {k n : Int} {f : Bool} {A : Option Addr} {len cap : Nat} {ps : List Lay} (h : LayR w (.mk k n f A len cap ps)) (hv : VL (.mk k n f A len cap ps)) (wd : Int) (b : Bool) (hw : wd = 2 ∨ wd = 4 ∨ wd = 8) (hk : k = 0) : ∀ W, Q w W → Calls Try.prog 58 #[(Lay.mk k n f A len cap ps).v, tgW wd b] W (R1 W (rmV ((Lay.mk k n f A len cap ps).room wd))) := by
 subst hk
 intro W hqW
 unfold R1
 have HRM := hide (room_mk wd 0 n f A len cap ps)
 have HLEN := hide hv.len
 have HKIND := hide hv.kind
 have HLR := hide h
 have HVL := hide hv
 have HQW := hide hqW
 show Calls _ _ #[.agg #[.int .i64 0, .int .i64 n, .bool f, .slice A len cap], .agg #[.int .i64 wd, .bool b]] W _
 obtain ⟨w3, hw3⟩ : ∃ w3, ((W.alloc (.cells #[.int .i64 0, .int .i64 n, .bool f, .slice A len cap] 24)).alloc (.cells #[.int .i64 wd, .bool b] 26)).alloc (.cells #[.int .i64 0, .int .i64 0] 65) = w3 := ⟨_, rfl⟩
 obtain ⟨hq3, hs3, hc, hd, he⟩ := box3 hw3
 have hs0 : W.heap.size < w3.heap.size := by omega
 have hs1 : W.heap.size + 1 < w3.heap.size := by omega
 have hs2 : W.heap.size + 2 < w3.heap.size := by omega
 have K0 := hide (show w3.cell? ⟨W.heap.size, 0, none⟩ = some (.int .i64 0) from hc 0 _ rfl)
 have K1 := hide (show w3.cell? ⟨W.heap.size, 1, none⟩ = some (.int .i64 n) from hc 1 _ rfl)
 have K2 := hide (show w3.cell? ⟨W.heap.size, 2, none⟩ = some (.bool f) from hc 2 _ rfl)
 have K3 := hide (show w3.cell? ⟨W.heap.size, 3, none⟩ = some (.slice A len cap) from hc 3 _ rfl)
 have T0 := hide (show w3.cell? ⟨W.heap.size + 1, 0, none⟩ = some (.int .i64 wd) from hd 0 _ rfl)
 have T1 := hide (show w3.cell? ⟨W.heap.size + 1, 1, none⟩ = some (.bool b) from hd 1 _ rfl)
 have Z0 := hide (show w3.cell? ⟨W.heap.size + 2, 0, none⟩ = some (.int .i64 0) from he 0 _ rfl)
 have Z1 := hide (show w3.cell? ⟨W.heap.size + 2, 1, none⟩ = some (.int .i64 0) from he 1 _ rfl)
 have kb : w3.heap[W.heap.size + 2]? = some (.cells #[.int .i64 0, .int .i64 0] 65 (0, 0)) := by
  have h9 := heap_alloc_new ((W.alloc (.cells #[.int .i64 0, .int .i64 n, .bool f, .slice A len cap] 24)).alloc (.cells #[.int .i64 wd, .bool b] 26)) (.cells #[.int .i64 0, .int .i64 0] 65)
  rw [hw3] at h9
  simpa using h9
 have Y0 := hide (frz_new (j := 0) kb)
 have Y1 := hide (frz_new (j := 1) kb)
 have KB := hide kb
 have HW3 := hide hw3
 have HQ3 := hide hq3
 clear h hv hqW hw3 hq3 hc hd he kb
 go_enter Try.func58, Try.ntmps58
 go_upto_region 1 with fail
 rw [HW3.out]
 have k0 := K0.out
 have HVAL := hide (show roomR wd 0 n (packR (.mk 0 n f A len cap ps)) (ps.map (Lay.room wd)) = (0, 1) from by unfold roomR; simp)
 obtain ⟨s0, s1⟩ := set2c (v0 := .int .i64 (0)) (v1 := .int .i64 (1)) Z0.out Z1.out
 have S0 := hide s0
 have S1 := hide s1
 have HQS := hide (((HQ3.out).set (p := ⟨W.heap.size + 2, 0, none⟩) (by simp) (.int .i64 (0))).set (p := ⟨W.heap.size + 2, 1, none⟩) (by simp) (.int .i64 (1)))
 have z0 := Z0.out
 have z1 := Z1.out
 have y0 := Y0.out
 have y1 := Y1.out
 clear s0 s1
 go_wp2_with fail
 have s0 := S0.out
 have s1 := S1.out
 refine bodyPost_ret (v := .agg #[.int .i64 (0), .int .i64 (1)]) (by simp [results, Try.results58, go_sem, s0, s1]) rfl ?_
 exact ⟨by rw [HRM.out, HVAL.out], HQS.out⟩
theorem roomP1 {w : World} {k n : Int} {f : Bool} {A : Option Addr} {len cap : Nat} {ps : List Lay} (h : LayR w (.mk k n f A len cap ps)) (hv : VL (.mk k n f A len cap ps)) (wd : Int) (b : Bool) (hw : wd = 2 ∨ wd = 4 ∨ wd = 8) (hk : k = 1) : ∀ W, Q w W → Calls Try.prog 58 #[(Lay.mk k n f A len cap ps).v, tgW wd b] W (R1 W (rmV ((Lay.mk k n f A len cap ps).room wd))) := by
 subst hk
 intro W hqW
 unfold R1
 have HRM := hide (room_mk wd 1 n f A len cap ps)
 have HLEN := hide hv.len
 have HKIND := hide hv.kind
 have HLR := hide h
 have HVL := hide hv
 have HQW := hide hqW
 show Calls _ _ #[.agg #[.int .i64 1, .int .i64 n, .bool f, .slice A len cap], .agg #[.int .i64 wd, .bool b]] W _
 obtain ⟨w3, hw3⟩ : ∃ w3, ((W.alloc (.cells #[.int .i64 1, .int .i64 n, .bool f, .slice A len cap] 24)).alloc (.cells #[.int .i64 wd, .bool b] 26)).alloc (.cells #[.int .i64 0, .int .i64 0] 65) = w3 := ⟨_, rfl⟩
 obtain ⟨hq3, hs3, hc, hd, he⟩ := box3 hw3
 have hs0 : W.heap.size < w3.heap.size := by omega
 have hs1 : W.heap.size + 1 < w3.heap.size := by omega
 have hs2 : W.heap.size + 2 < w3.heap.size := by omega
 have K0 := hide (show w3.cell? ⟨W.heap.size, 0, none⟩ = some (.int .i64 1) from hc 0 _ rfl)
 have K1 := hide (show w3.cell? ⟨W.heap.size, 1, none⟩ = some (.int .i64 n) from hc 1 _ rfl)
 have K2 := hide (show w3.cell? ⟨W.heap.size, 2, none⟩ = some (.bool f) from hc 2 _ rfl)
 have K3 := hide (show w3.cell? ⟨W.heap.size, 3, none⟩ = some (.slice A len cap) from hc 3 _ rfl)
 have T0 := hide (show w3.cell? ⟨W.heap.size + 1, 0, none⟩ = some (.int .i64 wd) from hd 0 _ rfl)
 have T1 := hide (show w3.cell? ⟨W.heap.size + 1, 1, none⟩ = some (.bool b) from hd 1 _ rfl)
 have Z0 := hide (show w3.cell? ⟨W.heap.size + 2, 0, none⟩ = some (.int .i64 0) from he 0 _ rfl)
 have Z1 := hide (show w3.cell? ⟨W.heap.size + 2, 1, none⟩ = some (.int .i64 0) from he 1 _ rfl)
 have kb : w3.heap[W.heap.size + 2]? = some (.cells #[.int .i64 0, .int .i64 0] 65 (0, 0)) := by
  have h9 := heap_alloc_new ((W.alloc (.cells #[.int .i64 1, .int .i64 n, .bool f, .slice A len cap] 24)).alloc (.cells #[.int .i64 wd, .bool b] 26)) (.cells #[.int .i64 0, .int .i64 0] 65)
  rw [hw3] at h9
  simpa using h9
 have Y0 := hide (frz_new (j := 0) kb)
 have Y1 := hide (frz_new (j := 1) kb)
 have KB := hide kb
 have HW3 := hide hw3
 have HQ3 := hide hq3
 clear h hv hqW hw3 hq3 hc hd he kb
 go_enter Try.func58, Try.ntmps58
 go_upto_region 1 with fail
 rw [HW3.out]
 have k0 := K0.out
 have HVAL := hide (show roomR wd 1 n (packR (.mk 1 n f A len cap ps)) (ps.map (Lay.room wd)) = (1, 1) from by unfold roomR; simp)
 obtain ⟨s0, s1⟩ := set2c (v0 := .int .i64 (1)) (v1 := .int .i64 (1)) Z0.out Z1.out
 have S0 := hide s0
 have S1 := hide s1
 have HQS := hide (((HQ3.out).set (p := ⟨W.heap.size + 2, 0, none⟩) (by simp) (.int .i64 (1))).set (p := ⟨W.heap.size + 2, 1, none⟩) (by simp) (.int .i64 (1)))
 have z0 := Z0.out
 have z1 := Z1.out
 have y0 := Y0.out
 have y1 := Y1.out
 clear s0 s1
 go_wp2_with fail
 have s0 := S0.out
 have s1 := S1.out
 refine bodyPost_ret (v := .agg #[.int .i64 (1), .int .i64 (1)]) (by simp [results, Try.results58, go_sem, s0, s1]) rfl ?_
 exact ⟨by rw [HRM.out, HVAL.out], HQS.out⟩
theorem roomP3 {w : World} {k n : Int} {f : Bool} {A : Option Addr} {len cap : Nat} {ps : List Lay} (h : LayR w (.mk k n f A len cap ps)) (hv : VL (.mk k n f A len cap ps)) (wd : Int) (b : Bool) (hw : wd = 2 ∨ wd = 4 ∨ wd = 8) (hk : k = 3) : ∀ W, Q w W → Calls Try.prog 58 #[(Lay.mk k n f A len cap ps).v, tgW wd b] W (R1 W (rmV ((Lay.mk k n f A len cap ps).room wd))) := by
 subst hk
 intro W hqW
 unfold R1
 have HRM := hide (room_mk wd 3 n f A len cap ps)
 have HLEN := hide hv.len
 have HKIND := hide hv.kind
 have HLR := hide h
 have HVL := hide hv
 have HQW := hide hqW
 show Calls _ _ #[.agg #[.int .i64 3, .int .i64 n, .bool f, .slice A len cap], .agg #[.int .i64 wd, .bool b]] W _
 obtain ⟨w3, hw3⟩ : ∃ w3, ((W.alloc (.cells #[.int .i64 3, .int .i64 n, .bool f, .slice A len cap] 24)).alloc (.cells #[.int .i64 wd, .bool b] 26)).alloc (.cells #[.int .i64 0, .int .i64 0] 65) = w3 := ⟨_, rfl⟩
 obtain ⟨hq3, hs3, hc, hd, he⟩ := box3 hw3
 have hs0 : W.heap.size < w3.heap.size := by omega
 have hs1 : W.heap.size + 1 < w3.heap.size := by omega
 have hs2 : W.heap.size + 2 < w3.heap.size := by omega
 have K0 := hide (show w3.cell? ⟨W.heap.size, 0, none⟩ = some (.int .i64 3) from hc 0 _ rfl)
 have K1 := hide (show w3.cell? ⟨W.heap.size, 1, none⟩ = some (.int .i64 n) from hc 1 _ rfl)
 have K2 := hide (show w3.cell? ⟨W.heap.size, 2, none⟩ = some (.bool f) from hc 2 _ rfl)
 have K3 := hide (show w3.cell? ⟨W.heap.size, 3, none⟩ = some (.slice A len cap) from hc 3 _ rfl)
 have T0 := hide (show w3.cell? ⟨W.heap.size + 1, 0, none⟩ = some (.int .i64 wd) from hd 0 _ rfl)
 have T1 := hide (show w3.cell? ⟨W.heap.size + 1, 1, none⟩ = some (.bool b) from hd 1 _ rfl)
 have Z0 := hide (show w3.cell? ⟨W.heap.size + 2, 0, none⟩ = some (.int .i64 0) from he 0 _ rfl)
 have Z1 := hide (show w3.cell? ⟨W.heap.size + 2, 1, none⟩ = some (.int .i64 0) from he 1 _ rfl)
 have kb : w3.heap[W.heap.size + 2]? = some (.cells #[.int .i64 0, .int .i64 0] 65 (0, 0)) := by
  have h9 := heap_alloc_new ((W.alloc (.cells #[.int .i64 3, .int .i64 n, .bool f, .slice A len cap] 24)).alloc (.cells #[.int .i64 wd, .bool b] 26)) (.cells #[.int .i64 0, .int .i64 0] 65)
  rw [hw3] at h9
  simpa using h9
 have Y0 := hide (frz_new (j := 0) kb)
 have Y1 := hide (frz_new (j := 1) kb)
 have KB := hide kb
 have HW3 := hide hw3
 have HQ3 := hide hq3
 clear h hv hqW hw3 hq3 hc hd he kb
 go_enter Try.func58, Try.ntmps58
 go_upto_region 1 with fail
 rw [HW3.out]
 have k0 := K0.out
 have t0 := T0.out
 have HVAL := hide (show roomR wd 3 n (packR (.mk 3 n f A len cap ps)) (ps.map (Lay.room wd)) = (wd, wd) from by unfold roomR; simp)
 obtain ⟨s0, s1⟩ := set2c (v0 := .int .i64 (wd)) (v1 := .int .i64 (wd)) Z0.out Z1.out
 have S0 := hide s0
 have S1 := hide s1
 have HQS := hide (((HQ3.out).set (p := ⟨W.heap.size + 2, 0, none⟩) (by simp) (.int .i64 (wd))).set (p := ⟨W.heap.size + 2, 1, none⟩) (by simp) (.int .i64 (wd)))
 have z0 := Z0.out
 have z1 := Z1.out
 have y0 := Y0.out
 have y1 := Y1.out
 clear s0 s1
 go_wp2_with fail
 have s0 := S0.out
 have s1 := S1.out
 refine bodyPost_ret (v := .agg #[.int .i64 (wd), .int .i64 (wd)]) (by simp [results, Try.results58, go_sem, s0, s1]) rfl ?_
 exact ⟨by rw [HRM.out, HVAL.out], HQS.out⟩
theorem roomP7 {w : World} {k n : Int} {f : Bool} {A : Option Addr} {len cap : Nat} {ps : List Lay} (h : LayR w (.mk k n f A len cap ps)) (hv : VL (.mk k n f A len cap ps)) (wd : Int) (b : Bool) (hw : wd = 2 ∨ wd = 4 ∨ wd = 8) (hk : k = 7) : ∀ W, Q w W → Calls Try.prog 58 #[(Lay.mk k n f A len cap ps).v, tgW wd b] W (R1 W (rmV ((Lay.mk k n f A len cap ps).room wd))) := by
 subst hk
 intro W hqW
 unfold R1
 have HRM := hide (room_mk wd 7 n f A len cap ps)
 have HLEN := hide hv.len
 have HKIND := hide hv.kind
 have HLR := hide h
 have HVL := hide hv
 have HQW := hide hqW
 show Calls _ _ #[.agg #[.int .i64 7, .int .i64 n, .bool f, .slice A len cap], .agg #[.int .i64 wd, .bool b]] W _
 obtain ⟨w3, hw3⟩ : ∃ w3, ((W.alloc (.cells #[.int .i64 7, .int .i64 n, .bool f, .slice A len cap] 24)).alloc (.cells #[.int .i64 wd, .bool b] 26)).alloc (.cells #[.int .i64 0, .int .i64 0] 65) = w3 := ⟨_, rfl⟩
 obtain ⟨hq3, hs3, hc, hd, he⟩ := box3 hw3
 have hs0 : W.heap.size < w3.heap.size := by omega
 have hs1 : W.heap.size + 1 < w3.heap.size := by omega
 have hs2 : W.heap.size + 2 < w3.heap.size := by omega
 have K0 := hide (show w3.cell? ⟨W.heap.size, 0, none⟩ = some (.int .i64 7) from hc 0 _ rfl)
 have K1 := hide (show w3.cell? ⟨W.heap.size, 1, none⟩ = some (.int .i64 n) from hc 1 _ rfl)
 have K2 := hide (show w3.cell? ⟨W.heap.size, 2, none⟩ = some (.bool f) from hc 2 _ rfl)
 have K3 := hide (show w3.cell? ⟨W.heap.size, 3, none⟩ = some (.slice A len cap) from hc 3 _ rfl)
 have T0 := hide (show w3.cell? ⟨W.heap.size + 1, 0, none⟩ = some (.int .i64 wd) from hd 0 _ rfl)
 have T1 := hide (show w3.cell? ⟨W.heap.size + 1, 1, none⟩ = some (.bool b) from hd 1 _ rfl)
 have Z0 := hide (show w3.cell? ⟨W.heap.size + 2, 0, none⟩ = some (.int .i64 0) from he 0 _ rfl)
 have Z1 := hide (show w3.cell? ⟨W.heap.size + 2, 1, none⟩ = some (.int .i64 0) from he 1 _ rfl)
 have kb : w3.heap[W.heap.size + 2]? = some (.cells #[.int .i64 0, .int .i64 0] 65 (0, 0)) := by
  have h9 := heap_alloc_new ((W.alloc (.cells #[.int .i64 7, .int .i64 n, .bool f, .slice A len cap] 24)).alloc (.cells #[.int .i64 wd, .bool b] 26)) (.cells #[.int .i64 0, .int .i64 0] 65)
  rw [hw3] at h9
  simpa using h9
 have Y0 := hide (frz_new (j := 0) kb)
 have Y1 := hide (frz_new (j := 1) kb)
 have KB := hide kb
 have HW3 := hide hw3
 have HQ3 := hide hq3
 clear h hv hqW hw3 hq3 hc hd he kb
 go_enter Try.func58, Try.ntmps58
 go_upto_region 1 with fail
 rw [HW3.out]
 have k0 := K0.out
 have t0 := T0.out
 have k1 := K1.out
 by_cases h256 : 256 < n
 ·have d1 : decide ((256 : Int) < n) = true := by simp [h256]
  have hm1 : (if wd < 2 then wd else (2 : Int)) = 2 := by rw [if_neg (by omega)]
  have hm2 : min 2 wd = 2 := by omega
  have HVAL := hide (show roomR wd 7 n (packR (.mk 7 n f A len cap ps)) (ps.map (Lay.room wd)) = (2, 2) from by unfold roomR; simp [show ¬ n ≤ 256 from by omega, hm2])
  obtain ⟨s0, s1⟩ := set2c (v0 := .int .i64 (2)) (v1 := .int .i64 (2)) Z0.out Z1.out
  have S0 := hide s0
  have S1 := hide s1
  have HQS := hide (((HQ3.out).set (p := ⟨W.heap.size + 2, 0, none⟩) (by simp) (.int .i64 (2))).set (p := ⟨W.heap.size + 2, 1, none⟩) (by simp) (.int .i64 (2)))
  have z0 := Z0.out
  have z1 := Z1.out
  have y0 := Y0.out
  have y1 := Y1.out
  clear s0 s1
  go_wp2_with fail
  have s0 := S0.out
  have s1 := S1.out
  refine bodyPost_ret (v := .agg #[.int .i64 (2), .int .i64 (2)]) (by simp [results, Try.results58, go_sem, s0, s1]) rfl ?_
  exact ⟨by rw [HRM.out, HVAL.out], HQS.out⟩
 ·have d1 : decide ((256 : Int) < n) = false := by simp [h256]
  have hm1 : (if wd < 1 then wd else (1 : Int)) = 1 := by rw [if_neg (by omega)]
  have hm2 : min 1 wd = 1 := by omega
  have HVAL := hide (show roomR wd 7 n (packR (.mk 7 n f A len cap ps)) (ps.map (Lay.room wd)) = (1, 1) from by unfold roomR; simp [show n ≤ 256 from by omega, hm2])
  obtain ⟨s0, s1⟩ := set2c (v0 := .int .i64 (1)) (v1 := .int .i64 (1)) Z0.out Z1.out
  have S0 := hide s0
  have S1 := hide s1
  have HQS := hide (((HQ3.out).set (p := ⟨W.heap.size + 2, 0, none⟩) (by simp) (.int .i64 (1))).set (p := ⟨W.heap.size + 2, 1, none⟩) (by simp) (.int .i64 (1)))
  have z0 := Z0.out
  have z1 := Z1.out
  have y0 := Y0.out
  have y1 := Y1.out
  clear s0 s1
  go_wp2_with fail
  have s0 := S0.out
  have s1 := S1.out
  refine bodyPost_ret (v := .agg #[.int .i64 (1), .int .i64 (1)]) (by simp [results, Try.results58, go_sem, s0, s1]) rfl ?_
  exact ⟨by rw [HRM.out, HVAL.out], HQS.out⟩
theorem roomP2 {w : World} {k n : Int} {f : Bool} {A : Option Addr} {len cap : Nat} {ps : List Lay} (h : LayR w (.mk k n f A len cap ps)) (hv : VL (.mk k n f A len cap ps)) (wd : Int) (b : Bool) (hw : wd = 2 ∨ wd = 4 ∨ wd = 8) (hk : k = 2) : ∀ W, Q w W → Calls Try.prog 58 #[(Lay.mk k n f A len cap ps).v, tgW wd b] W (R1 W (rmV ((Lay.mk k n f A len cap ps).room wd))) := by
 subst hk
 intro W hqW
 unfold R1
 have HRM := hide (room_mk wd 2 n f A len cap ps)
 have HLEN := hide hv.len
 have HKIND := hide hv.kind
 have HLR := hide h
 have HVL := hide hv
 have HQW := hide hqW
 show Calls _ _ #[.agg #[.int .i64 2, .int .i64 n, .bool f, .slice A len cap], .agg #[.int .i64 wd, .bool b]] W _
 obtain ⟨w3, hw3⟩ : ∃ w3, ((W.alloc (.cells #[.int .i64 2, .int .i64 n, .bool f, .slice A len cap] 24)).alloc (.cells #[.int .i64 wd, .bool b] 26)).alloc (.cells #[.int .i64 0, .int .i64 0] 65) = w3 := ⟨_, rfl⟩
 obtain ⟨hq3, hs3, hc, hd, he⟩ := box3 hw3
 have hs0 : W.heap.size < w3.heap.size := by omega
 have hs1 : W.heap.size + 1 < w3.heap.size := by omega
 have hs2 : W.heap.size + 2 < w3.heap.size := by omega
 have K0 := hide (show w3.cell? ⟨W.heap.size, 0, none⟩ = some (.int .i64 2) from hc 0 _ rfl)
 have K1 := hide (show w3.cell? ⟨W.heap.size, 1, none⟩ = some (.int .i64 n) from hc 1 _ rfl)
 have K2 := hide (show w3.cell? ⟨W.heap.size, 2, none⟩ = some (.bool f) from hc 2 _ rfl)
 have K3 := hide (show w3.cell? ⟨W.heap.size, 3, none⟩ = some (.slice A len cap) from hc 3 _ rfl)
 have T0 := hide (show w3.cell? ⟨W.heap.size + 1, 0, none⟩ = some (.int .i64 wd) from hd 0 _ rfl)
 have T1 := hide (show w3.cell? ⟨W.heap.size + 1, 1, none⟩ = some (.bool b) from hd 1 _ rfl)
 have Z0 := hide (show w3.cell? ⟨W.heap.size + 2, 0, none⟩ = some (.int .i64 0) from he 0 _ rfl)
 have Z1 := hide (show w3.cell? ⟨W.heap.size + 2, 1, none⟩ = some (.int .i64 0) from he 1 _ rfl)
 have kb : w3.heap[W.heap.size + 2]? = some (.cells #[.int .i64 0, .int .i64 0] 65 (0, 0)) := by
  have h9 := heap_alloc_new ((W.alloc (.cells #[.int .i64 2, .int .i64 n, .bool f, .slice A len cap] 24)).alloc (.cells #[.int .i64 wd, .bool b] 26)) (.cells #[.int .i64 0, .int .i64 0] 65)
  rw [hw3] at h9
  simpa using h9
 have Y0 := hide (frz_new (j := 0) kb)
 have Y1 := hide (frz_new (j := 1) kb)
 have KB := hide kb
 have HW3 := hide hw3
 have HQ3 := hide hq3
 clear h hv hqW hw3 hq3 hc hd he kb
 go_enter Try.func58, Try.ntmps58
 go_upto_region 1 with fail
 rw [HW3.out]
 have k0 := K0.out
 have t0 := T0.out
 have k1 := K1.out
 have hn1 : 1 ≤ n := by
  have h9 := HKIND.out.2.2.2
  unfold restL at h9
  simpa using h9
 have hn2 : n ≤ 64 := HLEN.out.2.1 rfl
 obtain ⟨s, hs⟩ : ∃ s, whB n = s := ⟨_, rfl⟩
 have HWH := hide (fun W' => whole0_any n (by omega) hn2 W')
 unfold R1 at HWH
 rw [if_neg (by omega), hs] at HWH
 obtain ⟨mn, hmin⟩ : ∃ mn, min s wd = mn := ⟨_, rfl⟩
 have HVAL := hide (show roomR wd 2 n (packR (.mk 2 n f A len cap ps)) (ps.map (Lay.room wd)) = (s, mn) from by unfold roomR; simp [hs, hmin])
 clear hs
 go_upto_region 5 with fail
 refine Ri.made_last (Ri.phi [Ri.isV (.pointer (some ⟨W.heap.size, 1, none⟩)), Ri.isV (.int .i64 n), Ri.isV (.int .i64 s), Ri.isV (.pointer (some ⟨W.heap.size, 1, none⟩)), Ri.isV (.int .i64 n), Ri.isV (.int .i64 s), Ri.isV (.pointer (some ⟨W.heap.size + 1, 0, none⟩)), Ri.isV (.int .i64 wd), Ri.isV (.int .i64 mn), Ri.isV (.agg #[.int .i64 s, .int .i64 mn])]) (by kernel_rfl) (by kernel_rfl) rfl (by kernel_rfl) rfl (Ri.phi_mono ?_) ?_ ?_
 ·repeat' first | exact trivial | exact fun _ _ _ h _ => h | refine ⟨?_, ?_⟩
 ·refine Ri.All.cons ?_ (.cons ?_ (.cons ?_ (.cons ?_ (.cons ?_ (.cons ?_ (.cons ?_ (.cons ?_ (.cons ?_ (.cons ?_ (Ri.All.nil))))))))))
  ·refine ⟨rfl, fun f9 W9 hq hf A9 hA hB hO => ?_⟩
   have e1 := (hB 2).trans (show _ = .pointer (some ⟨W.heap.size, 0, none⟩) by simp [Act.eval])
   exact Ri.wp_value _ (Ri.run_fld (f := _) rfl e1 Try.underlying24 rfl (sz := 0) (by kernel_rfl)) rfl
  ·refine ⟨rfl, fun f9 W9 hq hf A9 hA hB hO => ?_⟩
   have e1 := (hA 22 0).trans (hf 0)
   exact Ri.wp_value _ (Ri.run_ld1 rfl e1 Try.underlying3 rfl ((hq.facts.1 _ 1 hs0).trans k1)) rfl
  ·refine ⟨rfl, fun f9 W9 hq hf A9 hA hB hO => ?_⟩
   have e1 := (hA 23 1).trans (hf 1)
   refine Ri.wp_call #[.int .i64 n] rfl (by simp [e1]) Try.func88 (by kernel_rfl) (by kernel_rfl) ((HWH.out W9).mono ?_)
   rintro e w9 ⟨rfl, h1⟩
   exact ⟨_, rfl, h1, rfl⟩
  ·refine ⟨rfl, fun f9 W9 hq hf A9 hA hB hO => ?_⟩
   have e1 := (hB 2).trans (show _ = .pointer (some ⟨W.heap.size, 0, none⟩) by simp [Act.eval])
   exact Ri.wp_value _ (Ri.run_fld (f := _) rfl e1 Try.underlying24 rfl (sz := 0) (by kernel_rfl)) rfl
  ·refine ⟨rfl, fun f9 W9 hq hf A9 hA hB hO => ?_⟩
   have e1 := (hA 25 3).trans (hf 3)
   exact Ri.wp_value _ (Ri.run_ld1 rfl e1 Try.underlying3 rfl ((hq.facts.1 _ 1 hs0).trans k1)) rfl
  ·refine ⟨rfl, fun f9 W9 hq hf A9 hA hB hO => ?_⟩
   have e1 := (hA 26 4).trans (hf 4)
   refine Ri.wp_call #[.int .i64 n] rfl (by simp [e1]) Try.func88 (by kernel_rfl) (by kernel_rfl) ((HWH.out W9).mono ?_)
   rintro e w9 ⟨rfl, h1⟩
   exact ⟨_, rfl, h1, rfl⟩
  ·refine ⟨rfl, fun f9 W9 hq hf A9 hA hB hO => ?_⟩
   have e1 := (hB 3).trans (show _ = .pointer (some ⟨W.heap.size + 1, 0, none⟩) by simp [Act.eval])
   exact Ri.wp_value _ (Ri.run_fld (f := _) rfl e1 Try.underlying26 rfl (sz := 0) (by kernel_rfl)) rfl
  ·refine ⟨rfl, fun f9 W9 hq hf A9 hA hB hO => ?_⟩
   have e1 := (hA 28 6).trans (hf 6)
   exact Ri.wp_value _ (Ri.run_ld1 rfl e1 Try.underlying3 rfl ((hq.facts.1 _ 0 hs1).trans t0)) rfl
  ·refine ⟨rfl, fun f9 W9 hq hf A9 hA hB hO => ?_⟩
   have e1 := (hA 27 5).trans (hf 5)
   have e2 := (hA 29 7).trans (hf 7)
   exact Ri.wp_value _ ((Ri.run_minD rfl e1 e2).trans (by rw [hmin])) rfl
  ·refine ⟨rfl, fun f9 W9 hq hf A9 hA hB hO => ?_⟩
   have e1 := (hA 24 2).trans (hf 2)
   have e2 := (hA 30 8).trans (hf 8)
   exact Ri.wp_struct rfl [(0, .int .i64 s), (1, .int .i64 mn)] (by simp [e1, e2]) (by kernel_rfl) rfl
 ·intro f9 W2 hq hf A9 hAe hA hB
  have e1 := (hB 4).trans (show _ = .pointer (some ⟨W.heap.size + 2, 0, none⟩) by simp [Act.eval])
  have e2 := (hA 31 9).trans (hf 9)
  refine wp_store_row _ _ _ rfl _ _ e1 e2 _ _ ((hq.below.block _ hs2).trans KB.out) (by kernel_rfl) rfl (by simp [Value.oneCell']) ⟨undef, rfl, ?_⟩
  rw [hAe]
  simp only [Ri.acts, Act.put, List.setIfInBounds_toArray, List.set_cons_zero, List.set_cons_succ, Nat.zero_add, Nat.reduceAdd]
  have HXW := hide hq
  clear hA hB hAe e1 e2 hf hq
  clear k0 k1 t0
  have HGR := hide ((HXW.out.below.block _ hs2).trans KB.out)
  have HQS := hide ((HQ3.out.trans HXW.out).setRow (g := W.heap.size + 2) (by omega) #[.int .i64 (s), .int .i64 (mn)])
  have s0 : (W2.setRow (W.heap.size + 2) #[.int .i64 (s), .int .i64 (mn)]).cell? ⟨W.heap.size + 2, 0, none⟩ = some (.int .i64 (s)) := (cell_setRow_same _ _ 0 _ _ _ _ HGR.out).trans rfl
  have s1 : (W2.setRow (W.heap.size + 2) #[.int .i64 (s), .int .i64 (mn)]).cell? ⟨W.heap.size + 2, 1, none⟩ = some (.int .i64 (mn)) := (cell_setRow_same _ _ 1 _ _ _ _ HGR.out).trans rfl
  go_wp2_with fail
  refine bodyPost_ret (v := .agg #[.int .i64 (s), .int .i64 (mn)]) (by simp [results, Try.results58, go_sem, s0, s1]) rfl ?_
  exact ⟨by rw [HRM.out, HVAL.out], HQS.out⟩
theorem roomP9 {w : World} {k n : Int} {f : Bool} {A : Option Addr} {len cap : Nat} {ps : List Lay} (h : LayR w (.mk k n f A len cap ps)) (hv : VL (.mk k n f A len cap ps)) (wd : Int) (b : Bool) (hw : wd = 2 ∨ wd = 4 ∨ wd = 8) (hk : k = 9) : ∀ W, Q w W → Calls Try.prog 58 #[(Lay.mk k n f A len cap ps).v, tgW wd b] W (R1 W (rmV ((Lay.mk k n f A len cap ps).room wd))) := by
 subst hk
 intro W hqW
 unfold R1
 have HRM := hide (room_mk wd 9 n f A len cap ps)
 have HLEN := hide hv.len
 have HKIND := hide hv.kind
 have HLR := hide h
 have HVL := hide hv
 have HQW := hide hqW
 show Calls _ _ #[.agg #[.int .i64 9, .int .i64 n, .bool f, .slice A len cap], .agg #[.int .i64 wd, .bool b]] W _
 obtain ⟨w3, hw3⟩ : ∃ w3, ((W.alloc (.cells #[.int .i64 9, .int .i64 n, .bool f, .slice A len cap] 24)).alloc (.cells #[.int .i64 wd, .bool b] 26)).alloc (.cells #[.int .i64 0, .int .i64 0] 65) = w3 := ⟨_, rfl⟩
 obtain ⟨hq3, hs3, hc, hd, he⟩ := box3 hw3
 have hs0 : W.heap.size < w3.heap.size := by omega
 have hs1 : W.heap.size + 1 < w3.heap.size := by omega
 have hs2 : W.heap.size + 2 < w3.heap.size := by omega
 have K0 := hide (show w3.cell? ⟨W.heap.size, 0, none⟩ = some (.int .i64 9) from hc 0 _ rfl)
 have K1 := hide (show w3.cell? ⟨W.heap.size, 1, none⟩ = some (.int .i64 n) from hc 1 _ rfl)
 have K2 := hide (show w3.cell? ⟨W.heap.size, 2, none⟩ = some (.bool f) from hc 2 _ rfl)
 have K3 := hide (show w3.cell? ⟨W.heap.size, 3, none⟩ = some (.slice A len cap) from hc 3 _ rfl)
 have T0 := hide (show w3.cell? ⟨W.heap.size + 1, 0, none⟩ = some (.int .i64 wd) from hd 0 _ rfl)
 have T1 := hide (show w3.cell? ⟨W.heap.size + 1, 1, none⟩ = some (.bool b) from hd 1 _ rfl)
 have Z0 := hide (show w3.cell? ⟨W.heap.size + 2, 0, none⟩ = some (.int .i64 0) from he 0 _ rfl)
 have Z1 := hide (show w3.cell? ⟨W.heap.size + 2, 1, none⟩ = some (.int .i64 0) from he 1 _ rfl)
 have kb : w3.heap[W.heap.size + 2]? = some (.cells #[.int .i64 0, .int .i64 0] 65 (0, 0)) := by
  have h9 := heap_alloc_new ((W.alloc (.cells #[.int .i64 9, .int .i64 n, .bool f, .slice A len cap] 24)).alloc (.cells #[.int .i64 wd, .bool b] 26)) (.cells #[.int .i64 0, .int .i64 0] 65)
  rw [hw3] at h9
  simpa using h9
 have Y0 := hide (frz_new (j := 0) kb)
 have Y1 := hide (frz_new (j := 1) kb)
 have KB := hide kb
 have HW3 := hide hw3
 have HQ3 := hide hq3
 clear h hv hqW hw3 hq3 hc hd he kb
 go_enter Try.func58, Try.ntmps58
 go_upto_region 1 with fail
 rw [HW3.out]
 have k0 := K0.out
 have k1 := K1.out
 have k2 := K2.out
 have k3 := K3.out
 have hp64 := HLEN.out.2.2.2.2 rfl
 obtain ⟨pk, hpk⟩ : ∃ pk, packR (.mk 9 n f A len cap ps) = pk := ⟨_, rfl⟩
 have hpk0 : 0 ≤ pk := by rw [← hpk]; exact (pack_fold ps).1
 have HPK := hide (packedP_any HLR.out HVL.out w3 (HQW.out.trans HQ3.out))
 unfold R1 at HPK
 rw [packS_eq hp64, hpk] at HPK
 rw [hpk] at hp64
 have HWH := hide (fun W' => whole0_any pk hpk0 hp64 W')
 unfold R1 at HWH
 have HPV : Hid ((Lay.mk 9 n f A len cap ps).v = .agg #[.int .i64 9, .int .i64 n, .bool f, .slice A len cap]) := hide rfl
 rw [HPV.out] at HPK
 have HP9 := hide hpk
 clear hpk
 go_wp2_with fail
 refine HPK.out.mono ?_
 rintro e w4 ⟨rfl, hq4⟩
 clear k0 k1 k2 k3
 go_wp2_with fail
 refine (HWH.out w4).mono ?_
 rintro e w5 ⟨rfl, hq5⟩
 have hq35 := hq4.trans hq5
 have t0 := (hq35.facts.1 _ 0 hs1).trans T0.out
 have zz0 := (hq35.facts.1 _ 0 hs2).trans Z0.out
 have zz1 := (hq35.facts.1 _ 1 hs2).trans Z1.out
 have yy0 := (hq35.facts.2.1 _ 0 hs2).trans Y0.out
 have yy1 := (hq35.facts.2.1 _ 1 hs2).trans Y1.out
 have HQ5 := hide (HQ3.out.trans hq35)
 clear hq4 hq5 hq35
 by_cases hz : pk = 0
 ·rw [if_pos hz]
  have hm1 : (if wd < 0 then wd else (0 : Int)) = 0 := by rw [if_neg (by omega)]
  have hm2 : min 0 wd = 0 := by omega
  have HVAL := hide (show roomR wd 9 n (packR (.mk 9 n f A len cap ps)) (ps.map (Lay.room wd)) = (0, max 1 0) from by unfold roomR; simp [HP9.out, hz]; decide)
  clear hz
  obtain ⟨s0, s1⟩ := set2c (v0 := .int .i64 (0)) (v1 := .int .i64 (max 1 0)) (zz0) (zz1)
  have S0 := hide s0
  have S1 := hide s1
  have HQS := hide (((HQ5.out).set (p := ⟨W.heap.size + 2, 0, none⟩) (by simp) (.int .i64 (0))).set (p := ⟨W.heap.size + 2, 1, none⟩) (by simp) (.int .i64 (max 1 0)))
  have z0 := zz0
  have z1 := zz1
  have y0 := yy0
  have y1 := yy1
  clear s0 s1
  go_wp2_with fail
  have s0 := S0.out
  have s1 := S1.out
  refine bodyPost_ret (v := .agg #[.int .i64 (0), .int .i64 (max 1 0)]) (by simp [results, Try.results58, go_sem, s0, s1]) rfl ?_
  exact ⟨by rw [HRM.out, HVAL.out], HQS.out⟩
 ·rw [if_neg hz]
  obtain ⟨s, hs⟩ : ∃ s, whB pk = s := ⟨_, rfl⟩
  have hsA := whB_isA pk
  rw [hs] at hsA ⊢
  obtain ⟨mn, hmin⟩ : ∃ mn, min s wd = mn := ⟨_, rfl⟩
  have hm1 : (if wd < s then wd else s) = mn := by rw [← hmin]; split <;> omega
  have hmn1 : 1 ≤ mn := by unfold isA at hsA; omega
  have hm2 : max 1 mn = mn := by omega
  have hm3 : (if 1 < mn then mn else (1 : Int)) = mn := by split <;> omega
  have HVAL := hide (show roomR wd 9 n (packR (.mk 9 n f A len cap ps)) (ps.map (Lay.room wd)) = (s, mn) from by unfold roomR; simp [HP9.out, hz, hs, hmin])
  clear hz hs hsA
  obtain ⟨s0, s1⟩ := set2c (v0 := .int .i64 (s)) (v1 := .int .i64 (mn)) (zz0) (zz1)
  have S0 := hide s0
  have S1 := hide s1
  have HQS := hide (((HQ5.out).set (p := ⟨W.heap.size + 2, 0, none⟩) (by simp) (.int .i64 (s))).set (p := ⟨W.heap.size + 2, 1, none⟩) (by simp) (.int .i64 (mn)))
  have z0 := zz0
  have z1 := zz1
  have y0 := yy0
  have y1 := yy1
  clear s0 s1
  go_wp2_with fail
  have s0 := S0.out
  have s1 := S1.out
  refine bodyPost_ret (v := .agg #[.int .i64 (s), .int .i64 (mn)]) (by simp [results, Try.results58, go_sem, s0, s1]) rfl ?_
  exact ⟨by rw [HRM.out, HVAL.out], HQS.out⟩
theorem c4G {w : World} {g o : Nat} {a b c d : Value} (h0 : w.cell? ⟨g, o, none⟩ = some a) (h1 : w.cell? ⟨g, o + 1, none⟩ = some b) (h2 : w.cell? ⟨g, o + 2, none⟩ = some c) (h3 : w.cell? ⟨g, o + 3, none⟩ = some d) : ∀ (j : Nat) (v : Value), [a, b, c, d][j]? = some v → w.cell? ⟨g, o + j, none⟩ = some v
 | 0, _, h => by injection h with h; rw [← h]; exact h0
 | 1, _, h => by injection h with h; rw [← h]; exact h1
 | 2, _, h => by injection h with h; rw [← h]; exact h2
 | 3, _, h => by injection h with h; rw [← h]; exact h3
 | j + 4, _, h => by simp at h
theorem roomP4 {w : World} {k n : Int} {f : Bool} {A : Option Addr} {len cap : Nat} {ps : List Lay} (h : LayR w (.mk k n f A len cap ps)) (hv : VL (.mk k n f A len cap ps)) (wd : Int) (b : Bool) (hw : wd = 2 ∨ wd = 4 ∨ wd = 8) (hp : ∀ p ∈ ps, ∀ W, Q w W → Calls Try.prog 58 #[p.v, tgW wd b] W (R1 W (rmV (p.room wd)))) (hr : ∀ p ∈ ps, isA (p.room wd).2 ∧ 0 ≤ (p.room wd).1 ∧ (p.room wd).1 ≤ 1088000000000) (hz : ((Lay.mk k n f A len cap ps).room wd).1 ≤ 1088000000000) (hk : k = 4) : ∀ W, Q w W → Calls Try.prog 58 #[(Lay.mk k n f A len cap ps).v, tgW wd b] W (R1 W (rmV ((Lay.mk k n f A len cap ps).room wd))) := by
 subst hk
 intro W hqW
 unfold R1
 have HRM := hide (room_mk wd 4 n f A len cap ps)
 have HLEN := hide hv.len
 have HKIND := hide hv.kind
 have HSL : Hid (Sl 4 encL w A len cap ps) := by cases h with | @mk _ _ _ _ _ _ _ hk hn hsl hnil hcap hall => exact hide hsl
 have HPP := hide hp
 have HRR := hide hr
 have HZZ := hide hz
 have HVL := hide hv
 have HQW := hide hqW
 show Calls _ _ #[.agg #[.int .i64 4, .int .i64 n, .bool f, .slice A len cap], .agg #[.int .i64 wd, .bool b]] W _
 obtain ⟨w3, hw3⟩ : ∃ w3, ((W.alloc (.cells #[.int .i64 4, .int .i64 n, .bool f, .slice A len cap] 24)).alloc (.cells #[.int .i64 wd, .bool b] 26)).alloc (.cells #[.int .i64 0, .int .i64 0] 65) = w3 := ⟨_, rfl⟩
 obtain ⟨hq3, hs3, hc, hd, he⟩ := box3 hw3
 have hs0 : W.heap.size < w3.heap.size := by omega
 have hs1 : W.heap.size + 1 < w3.heap.size := by omega
 have hs2 : W.heap.size + 2 < w3.heap.size := by omega
 have K0 := hide (show w3.cell? ⟨W.heap.size, 0, none⟩ = some (.int .i64 4) from hc 0 _ rfl)
 have K1 := hide (show w3.cell? ⟨W.heap.size, 1, none⟩ = some (.int .i64 n) from hc 1 _ rfl)
 have K2 := hide (show w3.cell? ⟨W.heap.size, 2, none⟩ = some (.bool f) from hc 2 _ rfl)
 have K3 := hide (show w3.cell? ⟨W.heap.size, 3, none⟩ = some (.slice A len cap) from hc 3 _ rfl)
 have T0 := hide (show w3.cell? ⟨W.heap.size + 1, 0, none⟩ = some (.int .i64 wd) from hd 0 _ rfl)
 have T1 := hide (show w3.cell? ⟨W.heap.size + 1, 1, none⟩ = some (.bool b) from hd 1 _ rfl)
 have Z0 := hide (show w3.cell? ⟨W.heap.size + 2, 0, none⟩ = some (.int .i64 0) from he 0 _ rfl)
 have Z1 := hide (show w3.cell? ⟨W.heap.size + 2, 1, none⟩ = some (.int .i64 0) from he 1 _ rfl)
 have kb : w3.heap[W.heap.size + 2]? = some (.cells #[.int .i64 0, .int .i64 0] 65 (0, 0)) := by
  have h9 := heap_alloc_new ((W.alloc (.cells #[.int .i64 4, .int .i64 n, .bool f, .slice A len cap] 24)).alloc (.cells #[.int .i64 wd, .bool b] 26)) (.cells #[.int .i64 0, .int .i64 0] 65)
  rw [hw3] at h9
  simpa using h9
 have Y0 := hide (frz_new (j := 0) kb)
 have Y1 := hide (frz_new (j := 1) kb)
 have KB := hide kb
 have HW3 := hide hw3
 have HQ3 := hide hq3
 have HQB := hide (hqW.trans hq3)
 clear h hv hp hr hz hqW hw3 hq3 hc hd he kb
 go_enter Try.func58, Try.ntmps58
 go_upto_region 1 with fail
 rw [HW3.out]
 have k0 := K0.out
 have k3 := K3.out
 have t0 := T0.out
 have t1 := T1.out
 have hlen1 : len = 1 := by
  have h9 := HKIND.out.2.2.1
  unfold numL at h9
  rw [if_pos (by omega), decide_eq_true_eq] at h9
  have := HSL.out.len
  omega
 obtain ⟨g, o, m', x', y', B, l', d', qs, e, hb, hx, z0, z1, z2, z3⟩ := lay_at HSL.out (show 0 < len by omega)
 cases e
 obtain ⟨p, hpe⟩ : ∃ p, Lay.mk m' x' y' B l' d' qs = p := ⟨_, rfl⟩
 have hpv : p.v = .agg #[.int .i64 m', .int .i64 x', .bool y', .slice B l' d'] := by rw [← hpe]; rfl
 rw [hpe] at hx
 have hpm := List.mem_of_getElem? hx
 obtain ⟨sz, hsz⟩ : ∃ sz, (p.room wd).1 = sz := ⟨_, rfl⟩
 obtain ⟨al, hal⟩ : ∃ al, (p.room wd).2 = al := ⟨_, rfl⟩
 have hrm : p.room wd = (sz, al) := by rw [← hsz, ← hal]
 have hhd : (ps.map (Lay.room wd)).headD (0, 1) = (sz, al) := by
  cases ps with
  | nil => simp at hx
  | cons a r =>
   injection hx with hx
   subst hx
   simpa using hrm
 have HC := hide (HPP.out p hpm)
 rw [hpv, hrm] at HC
 have hro := HRR.out p hpm
 rw [hsz, hal] at hro
 obtain ⟨haA, hs0z, hsCap⟩ := hro
 have HBQ := hide hb
 have HL1 := hide hlen1
 have HZ0 := hide z0
 have HZ1 := hide z1
 have HZ2 := hide z2
 have HZ3 := hide z3
 clear hx hpe hpv hpm hsz hal hrm z0 z1 z2 z3 hlen1
 have hsum : min (sz + 1) 1099511627776 = sz + 1 := by omega
 obtain ⟨u, hu⟩ : ∃ u, upI (sz + 1) al = u := ⟨_, rfl⟩
 have HVAL := hide (show roomR wd 4 n (packR (.mk 4 n f (some ⟨g, o, none⟩) len cap ps)) (ps.map (Lay.room wd)) = (u, al) from by
  unfold roomR
  rw [if_neg (by decide), if_neg (by decide), if_neg (by decide), if_pos rfl, hhd]
  simp [hu])
 clear hhd
 go_upto_region 9 with fail
 refine Ri.made_last (Ri.phi [Ri.isV (.pointer (some ⟨W.heap.size, 3, none⟩)), Ri.isV (.slice (some ⟨g, o, none⟩) len cap), Ri.isV (.pointer (some ⟨g, o + 0 * 4, none⟩)), Ri.isV (.agg #[.int .i64 m', .int .i64 x', .bool y', .slice B l' d']), Ri.isV (tgW wd b), Ri.isV (rmV (sz, al)), (NewR w3.heap.size)]) (by kernel_rfl) (by kernel_rfl) rfl (by kernel_rfl) rfl (Ri.phi_mono ?_) ?_ ?_
 ·repeat' first | exact trivial | exact fun _ _ _ h _ => h | exact newR_q _ | refine ⟨?_, ?_⟩
 ·refine Ri.All.cons ?_ (.cons ?_ (.cons ?_ (.cons ?_ (.cons ?_ (.cons ?_ (.cons ?_ (Ri.All.nil)))))))
  ·refine ⟨rfl, fun f9 W9 hq hf A9 hA hB hO => ?_⟩
   have e1 := (hB 2).trans (show _ = .pointer (some ⟨W.heap.size, 0, none⟩) by simp [Act.eval])
   exact Ri.wp_value _ (Ri.run_fld (f := _) rfl e1 Try.underlying24 rfl (sz := 0) (by kernel_rfl)) rfl
  ·refine ⟨rfl, fun f9 W9 hq hf A9 hA hB hO => ?_⟩
   have e1 := (hA 41 0).trans (hf 0)
   exact Ri.wp_value _ (Ri.run_ld1 rfl e1 Try.underlying22 rfl ((hq.facts.1 _ 3 hs0).trans k3)) rfl
  ·refine ⟨rfl, fun f9 W9 hq hf A9 hA hB hO => ?_⟩
   have e1 := (hA 42 1).trans (hf 1)
   have e2 : A9.eval (.const (.int .i64 0)) = .int .i64 ((0 : Nat) : Int) := rfl
   exact Ri.wp_value _ (Ri.run_idx rfl e1 e2 Try.underlying22 (sz := 4) (by kernel_rfl) (by have := HL1.out; omega)) rfl
  ·refine ⟨rfl, fun f9 W9 hq hf A9 hA hB hO => ?_⟩
   have e1 := (hA 43 2).trans (hf 2)
   have hqw := HQB.out.trans ((Q.refl _).drew.trans hq)
   exact Ri.wp_value _ (Ri.run_ldagg (cs := [.int .i64 m', .int .i64 x', .bool y', .slice B l' d']) rfl e1 (c4G ((hqw.facts.1 _ _ HBQ.out).trans HZ0.out) ((hqw.facts.1 _ _ HBQ.out).trans HZ1.out) ((hqw.facts.1 _ _ HBQ.out).trans HZ2.out) ((hqw.facts.1 _ _ HBQ.out).trans HZ3.out)) Try.underlying24 rfl (by kernel_rfl)) rfl
  ·refine ⟨rfl, fun f9 W9 hq hf A9 hA hB hO => ?_⟩
   have e1 := (hB 3).trans (show _ = .pointer (some ⟨W.heap.size + 1, 0, none⟩) by simp [Act.eval])
   exact Ri.wp_value _ (Ri.run_ldagg (cs := [.int .i64 wd, .bool b]) rfl e1 (c2L ((hq.facts.1 _ 0 hs1).trans t0) ((hq.facts.1 _ 1 hs1).trans t1)) Try.underlying26 rfl (by kernel_rfl)) rfl
  ·refine ⟨rfl, fun f9 W9 hq hf A9 hA hB hO => ?_⟩
   have e1 := (hA 44 3).trans (hf 3)
   have e2 := (hA 45 4).trans (hf 4)
   refine Ri.wp_call #[.agg #[.int .i64 m', .int .i64 x', .bool y', .slice B l' d'], tgW wd b] rfl (by simp [e1, e2]) Try.func58 (by kernel_rfl) (by kernel_rfl) ((HC.out W9 (HQB.out.trans ((Q.refl _).drew.trans hq))).mono ?_)
   rintro e w9 ⟨rfl, h1⟩
   exact ⟨_, rfl, h1, rfl⟩
  ·refine ⟨rfl, fun f9 W9 hq hf A9 hA hB hO => ?_⟩
   exact Ri.wp_val _ (Ri.run_allocR rfl) ((Q.refl W9).alloc _) ⟨_, rfl, hq.size, by simp, heap_alloc_new W9 _⟩
 ·intro f9 W2 hq hf A9 hAe hA hB
  obtain ⟨q, hqe, hqb, hql, hqh⟩ : NewR w3.heap.size (f9 6) W2 := hf 6 (by simp)
  have e1 := (hA 5 6).trans hqe
  have e2 := (hA 46 5).trans (hf 5)
  refine wp_store_row _ _ _ rfl _ _ e1 e2 _ _ (hqh) (by kernel_rfl) rfl (by simp [Value.oneCell']) ⟨undef, rfl, ?_⟩
  rw [hAe]
  simp only [Ri.acts, Act.put, List.setIfInBounds_toArray, List.set_cons_zero, List.set_cons_succ, Nat.zero_add, Nat.reduceAdd]
  have HXW := hide hq
  have HQH := hide hqh
  have HQBB := hide hqb
  rw [hqe]
  clear hA hB hAe e1 e2 hf hq hqh hqe hqb
  have hqs0 : q < W2.heap.size := (Array.getElem?_eq_some_iff.1 HQH.out).1
  have hqne : W.heap.size + 2 ≠ q := by have := HQBB.out; omega
  obtain ⟨wr, hwr⟩ : ∃ wr, W2.setRow q #[.int .i64 sz, .int .i64 al] = wr := ⟨_, rfl⟩
  have hqs : q < wr.heap.size := by rw [← hwr]; simpa using hqs0
  have q0 : wr.cell? ⟨q, 0, none⟩ = some (.int .i64 sz) := by rw [← hwr]; exact (cell_setRow_same _ _ 0 _ _ _ _ HQH.out).trans rfl
  have q1 : wr.cell? ⟨q, 1, none⟩ = some (.int .i64 al) := by rw [← hwr]; exact (cell_setRow_same _ _ 1 _ _ _ _ HQH.out).trans rfl
  have kbr : wr.heap[W.heap.size + 2]? = some (.cells #[.int .i64 0, .int .i64 0] 65 (0, 0)) := by
   rw [← hwr, setRow_other _ _ _ _ hqne]
   exact (HXW.out.below.block _ hs2).trans KB.out
  have hs2r : W.heap.size + 2 < wr.heap.size := by
   rw [← hwr]
   have := HXW.out.size
   simp
   omega
  have HQR := hide (show Q W wr by rw [← hwr]; exact (HQ3.out.trans HXW.out).setRow (by have := HQBB.out; omega) _)
  have HQ3R := hide (show Q w3 wr by rw [← hwr]; exact (HXW.out).setRow (by have := HQBB.out; omega) _)
  have k1r := (HQ3R.out.facts.1 _ 1 hs0).trans K1.out
  have HWR := hide hwr
  clear k0 k3 t0 t1 hwr
  go_upto_region 10 with fail
  rw [HWR.out]
  refine Ri.made_last (Ri.phi [Ri.isV (.pointer (some ⟨q, 0, none⟩)), Ri.isV (.int .i64 sz), (fun v W => ∃ b, v = .slice (some ⟨b, 0, none⟩) 2 2 ∧ b < W.heap.size ∧ W.cell? ⟨b, 0, none⟩ = some (.int .i64 sz) ∧ W.cell? ⟨b, 1, none⟩ = some (.int .i64 1)), Ri.isV (.int .i64 (sz + 1)), Ri.isV (.pointer (some ⟨q, 1, none⟩)), Ri.isV (.int .i64 al), Ri.isV (.int .i64 u), Ri.isV (.pointer (some ⟨q, 1, none⟩)), Ri.isV (.int .i64 al), Ri.isV (.agg #[.int .i64 u, .int .i64 al])]) (by kernel_rfl) (by kernel_rfl) rfl (by kernel_rfl) rfl (Ri.phi_mono ?_) ?_ ?_
  ·repeat' first | exact trivial | exact fun _ _ _ h _ => h | exact (fun _ w3 w4 ⟨b, e, hb, c0, c1⟩ hq => ⟨b, e, Nat.lt_of_lt_of_le hb hq.size, (hq.facts.1 _ _ hb).trans c0, (hq.facts.1 _ _ hb).trans c1⟩) | refine ⟨?_, ?_⟩
  ·refine Ri.All.cons ?_ (.cons ?_ (.cons ?_ (.cons ?_ (.cons ?_ (.cons ?_ (.cons ?_ (.cons ?_ (.cons ?_ (.cons ?_ (Ri.All.nil))))))))))
   ·refine ⟨rfl, fun f9 W9 hq hf A9 hA hB hO => ?_⟩
    have e1 := (hB 5).trans (show _ = .pointer (some ⟨q, 0, none⟩) by simp [Act.eval])
    exact Ri.wp_value _ (Ri.run_fld (f := _) rfl e1 Try.underlying65 rfl (sz := 0) (by kernel_rfl)) rfl
   ·refine ⟨rfl, fun f9 W9 hq hf A9 hA hB hO => ?_⟩
    have e1 := (hA 47 0).trans (hf 0)
    exact Ri.wp_value _ (Ri.run_ld1 rfl e1 Try.underlying3 rfl ((hq.facts.1 _ 0 hqs).trans q0)) rfl
   ·refine ⟨rfl, fun f9 W9 hq hf A9 hA hB hO => ?_⟩
    have e1 := (hA 48 1).trans (hf 1)
    obtain ⟨ti, hi9, hz9, hsz9, hby9⟩ := info_parts (show (Try.prog.info? 3).map (fun i => (i.zero, i.size, i.bytes)) = some (some (.int .i64 0), 1, 8) by kernel_rfl)
    refine wp_buildSlice 32 3 2 _ rfl #[.int .i64 sz, .int .i64 1] ti _ Try.underlying32 hi9 hz9 (by rw [hsz9]; decide) (by rw [hsz9]; decide) ?_ ⟨_, rfl, (Q.refl W9).alloc _, W9.heap.size, rfl, by simp, cell_blkJ (heap_alloc_new W9 _) rfl, cell_blkJ (heap_alloc_new W9 _) rfl⟩
    rw [hsz9]
    simp only [List.map_toArray, List.map_cons, List.map_nil, e1]
    kernel_rfl
   ·refine ⟨rfl, fun f9 W9 hq hf A9 hA hB hO => ?_⟩
    obtain ⟨b9, hb9, hl9, c0, c1⟩ : ∃ b, f9 2 = .slice (some ⟨b, 0, none⟩) 2 2 ∧ b < W9.heap.size ∧ W9.cell? ⟨b, 0, none⟩ = some (.int .i64 sz) ∧ W9.cell? ⟨b, 1, none⟩ = some (.int .i64 1) := hf 2
    have e1 := (hA 49 2).trans hb9
    have h9 := sum2g b9 sz 1 W9 hl9 c0 c1 (by omega) (by omega)
    rw [hsum] at h9
    refine Ri.wp_call #[.slice (some ⟨b9, 0, none⟩) 2 2] rfl (by simp [e1]) Try.func66 (by kernel_rfl) (by kernel_rfl) (h9.mono ?_)
    rintro e w9 ⟨rfl, h1⟩
    exact ⟨_, rfl, h1, rfl⟩
   ·refine ⟨rfl, fun f9 W9 hq hf A9 hA hB hO => ?_⟩
    have e1 := (hB 5).trans (show _ = .pointer (some ⟨q, 0, none⟩) by simp [Act.eval])
    exact Ri.wp_value _ (Ri.run_fld (f := _) rfl e1 Try.underlying65 rfl (sz := 0) (by kernel_rfl)) rfl
   ·refine ⟨rfl, fun f9 W9 hq hf A9 hA hB hO => ?_⟩
    have e1 := (hA 51 4).trans (hf 4)
    exact Ri.wp_value _ (Ri.run_ld1 rfl e1 Try.underlying3 rfl ((hq.facts.1 _ 1 hqs).trans q1)) rfl
   ·refine ⟨rfl, fun f9 W9 hq hf A9 hA hB hO => ?_⟩
    have e1 := (hA 50 3).trans (hf 3)
    have e2 := (hA 52 5).trans (hf 5)
    have h9 := up_any (sz + 1) al haA (by omega) (by omega) W9
    rw [hu] at h9
    refine Ri.wp_call #[.int .i64 (sz + 1), .int .i64 al] rfl (by simp [e1, e2]) Try.func65 (by kernel_rfl) (by kernel_rfl) (h9.mono ?_)
    rintro e w9 ⟨rfl, h1⟩
    exact ⟨_, rfl, h1, rfl⟩
   ·refine ⟨rfl, fun f9 W9 hq hf A9 hA hB hO => ?_⟩
    have e1 := (hB 5).trans (show _ = .pointer (some ⟨q, 0, none⟩) by simp [Act.eval])
    exact Ri.wp_value _ (Ri.run_fld (f := _) rfl e1 Try.underlying65 rfl (sz := 0) (by kernel_rfl)) rfl
   ·refine ⟨rfl, fun f9 W9 hq hf A9 hA hB hO => ?_⟩
    have e1 := (hA 54 7).trans (hf 7)
    exact Ri.wp_value _ (Ri.run_ld1 rfl e1 Try.underlying3 rfl ((hq.facts.1 _ 1 hqs).trans q1)) rfl
   ·refine ⟨rfl, fun f9 W9 hq hf A9 hA hB hO => ?_⟩
    have e1 := (hA 53 6).trans (hf 6)
    have e2 := (hA 55 8).trans (hf 8)
    exact Ri.wp_struct rfl [(0, .int .i64 u), (1, .int .i64 al)] (by simp [e1, e2]) (by kernel_rfl) rfl
  ·intro f9 W5 hq hf A9 hAe hA hB
   have e1 := (hB 4).trans (show _ = .pointer (some ⟨W.heap.size + 2, 0, none⟩) by simp [Act.eval])
   have e2 := (hA 56 9).trans (hf 9)
   refine wp_store_row _ _ _ rfl _ _ e1 e2 _ _ ((hq.below.block _ hs2r).trans kbr) (by kernel_rfl) rfl (by simp [Value.oneCell']) ⟨undef, rfl, ?_⟩
   rw [hAe]
   simp only [Ri.acts, Act.put, List.setIfInBounds_toArray, List.set_cons_zero, List.set_cons_succ, Nat.zero_add, Nat.reduceAdd]
   have HXW2 := hide hq
   clear hA hB hAe e1 e2 hf hq
   have HGR := hide ((HXW2.out.below.block _ hs2r).trans kbr)
   have HQS := hide ((HQR.out.trans HXW2.out).setRow (g := W.heap.size + 2) (by omega) #[.int .i64 (u), .int .i64 (al)])
   have s0 : (W5.setRow (W.heap.size + 2) #[.int .i64 (u), .int .i64 (al)]).cell? ⟨W.heap.size + 2, 0, none⟩ = some (.int .i64 (u)) := (cell_setRow_same _ _ 0 _ _ _ _ HGR.out).trans rfl
   have s1 : (W5.setRow (W.heap.size + 2) #[.int .i64 (u), .int .i64 (al)]).cell? ⟨W.heap.size + 2, 1, none⟩ = some (.int .i64 (al)) := (cell_setRow_same _ _ 1 _ _ _ _ HGR.out).trans rfl
   clear q0 q1 kbr
   go_wp2_with fail
   refine bodyPost_ret (v := .agg #[.int .i64 (u), .int .i64 (al)]) (by simp [results, Try.results58, go_sem, s0, s1]) rfl ?_
   exact ⟨by rw [HRM.out, HVAL.out], HQS.out⟩
theorem roomP5 {w : World} {k n : Int} {f : Bool} {A : Option Addr} {len cap : Nat} {ps : List Lay} (h : LayR w (.mk k n f A len cap ps)) (hv : VL (.mk k n f A len cap ps)) (wd : Int) (b : Bool) (hw : wd = 2 ∨ wd = 4 ∨ wd = 8) (hp : ∀ p ∈ ps, ∀ W, Q w W → Calls Try.prog 58 #[p.v, tgW wd b] W (R1 W (rmV (p.room wd)))) (hr : ∀ p ∈ ps, isA (p.room wd).2 ∧ 0 ≤ (p.room wd).1 ∧ (p.room wd).1 ≤ 1088000000000) (hz : ((Lay.mk k n f A len cap ps).room wd).1 ≤ 1088000000000) (hk : k = 5) : ∀ W, Q w W → Calls Try.prog 58 #[(Lay.mk k n f A len cap ps).v, tgW wd b] W (R1 W (rmV ((Lay.mk k n f A len cap ps).room wd))) := by
 subst hk
 intro W hqW
 unfold R1
 have HRM := hide (room_mk wd 5 n f A len cap ps)
 have HLEN := hide hv.len
 have HKIND := hide hv.kind
 have HSL : Hid (Sl 4 encL w A len cap ps) := by cases h with | @mk _ _ _ _ _ _ _ hk hn hsl hnil hcap hall => exact hide hsl
 have HPP := hide hp
 have HRR := hide hr
 have HZZ := hide hz
 have HVL := hide hv
 have HQW := hide hqW
 show Calls _ _ #[.agg #[.int .i64 5, .int .i64 n, .bool f, .slice A len cap], .agg #[.int .i64 wd, .bool b]] W _
 obtain ⟨w3, hw3⟩ : ∃ w3, ((W.alloc (.cells #[.int .i64 5, .int .i64 n, .bool f, .slice A len cap] 24)).alloc (.cells #[.int .i64 wd, .bool b] 26)).alloc (.cells #[.int .i64 0, .int .i64 0] 65) = w3 := ⟨_, rfl⟩
 obtain ⟨hq3, hs3, hc, hd, he⟩ := box3 hw3
 have hs0 : W.heap.size < w3.heap.size := by omega
 have hs1 : W.heap.size + 1 < w3.heap.size := by omega
 have hs2 : W.heap.size + 2 < w3.heap.size := by omega
 have K0 := hide (show w3.cell? ⟨W.heap.size, 0, none⟩ = some (.int .i64 5) from hc 0 _ rfl)
 have K1 := hide (show w3.cell? ⟨W.heap.size, 1, none⟩ = some (.int .i64 n) from hc 1 _ rfl)
 have K2 := hide (show w3.cell? ⟨W.heap.size, 2, none⟩ = some (.bool f) from hc 2 _ rfl)
 have K3 := hide (show w3.cell? ⟨W.heap.size, 3, none⟩ = some (.slice A len cap) from hc 3 _ rfl)
 have T0 := hide (show w3.cell? ⟨W.heap.size + 1, 0, none⟩ = some (.int .i64 wd) from hd 0 _ rfl)
 have T1 := hide (show w3.cell? ⟨W.heap.size + 1, 1, none⟩ = some (.bool b) from hd 1 _ rfl)
 have Z0 := hide (show w3.cell? ⟨W.heap.size + 2, 0, none⟩ = some (.int .i64 0) from he 0 _ rfl)
 have Z1 := hide (show w3.cell? ⟨W.heap.size + 2, 1, none⟩ = some (.int .i64 0) from he 1 _ rfl)
 have kb : w3.heap[W.heap.size + 2]? = some (.cells #[.int .i64 0, .int .i64 0] 65 (0, 0)) := by
  have h9 := heap_alloc_new ((W.alloc (.cells #[.int .i64 5, .int .i64 n, .bool f, .slice A len cap] 24)).alloc (.cells #[.int .i64 wd, .bool b] 26)) (.cells #[.int .i64 0, .int .i64 0] 65)
  rw [hw3] at h9
  simpa using h9
 have Y0 := hide (frz_new (j := 0) kb)
 have Y1 := hide (frz_new (j := 1) kb)
 have KB := hide kb
 have HW3 := hide hw3
 have HQ3 := hide hq3
 have HQB := hide (hqW.trans hq3)
 clear h hv hp hr hz hqW hw3 hq3 hc hd he kb
 go_enter Try.func58, Try.ntmps58
 go_upto_region 1 with fail
 rw [HW3.out]
 have k0 := K0.out
 have k3 := K3.out
 have t0 := T0.out
 have t1 := T1.out
 have hlen1 : len = 1 := by
  have h9 := HKIND.out.2.2.1
  unfold numL at h9
  rw [if_pos (by omega), decide_eq_true_eq] at h9
  have := HSL.out.len
  omega
 obtain ⟨g, o, m', x', y', B, l', d', qs, e, hb, hx, z0, z1, z2, z3⟩ := lay_at HSL.out (show 0 < len by omega)
 cases e
 obtain ⟨p, hpe⟩ : ∃ p, Lay.mk m' x' y' B l' d' qs = p := ⟨_, rfl⟩
 have hpv : p.v = .agg #[.int .i64 m', .int .i64 x', .bool y', .slice B l' d'] := by rw [← hpe]; rfl
 rw [hpe] at hx
 have hpm := List.mem_of_getElem? hx
 obtain ⟨sz, hsz⟩ : ∃ sz, (p.room wd).1 = sz := ⟨_, rfl⟩
 obtain ⟨al, hal⟩ : ∃ al, (p.room wd).2 = al := ⟨_, rfl⟩
 have hrm : p.room wd = (sz, al) := by rw [← hsz, ← hal]
 have hhd : (ps.map (Lay.room wd)).headD (0, 1) = (sz, al) := by
  cases ps with
  | nil => simp at hx
  | cons a r =>
   injection hx with hx
   subst hx
   simpa using hrm
 have HC := hide (HPP.out p hpm)
 rw [hpv, hrm] at HC
 have hro := HRR.out p hpm
 rw [hsz, hal] at hro
 obtain ⟨haA, hs0z, hsCap⟩ := hro
 have HBQ := hide hb
 have HL1 := hide hlen1
 have HZ0 := hide z0
 have HZ1 := hide z1
 have HZ2 := hide z2
 have HZ3 := hide z3
 clear hx hpe hpv hpm hsz hal hrm z0 z1 z2 z3 hlen1
 have hn0 : 0 ≤ n := by
  have h9 := HKIND.out.2.2.2
  unfold restL at h9
  rw [if_neg (by omega), if_pos rfl, decide_eq_true_eq] at h9
  exact h9
 have hn1 : n ≤ 1000 := HLEN.out.2.2.1 rfl
 obtain ⟨pr, hpr⟩ : ∃ pr, n * sz = pr := ⟨_, rfl⟩
 have hpr0 : 0 ≤ pr := by rw [← hpr]; exact Int.mul_nonneg hn0 hs0z
 have HVAL := hide (show roomR wd 5 n (packR (.mk 5 n f (some ⟨g, o, none⟩) len cap ps)) (ps.map (Lay.room wd)) = (pr, al) from by
  unfold roomR
  rw [if_neg (by decide), if_neg (by decide), if_neg (by decide), if_neg (by decide), if_pos rfl, hhd]
  simp [hpr])
 have hprC : pr ≤ 1088000000000 := by
  have h9 := HZZ.out
  rw [HRM.out, HVAL.out] at h9
  exact h9
 have hm1 : (if pr < 1099511627776 then pr else (1099511627776 : Int)) = pr := by rw [if_pos (by omega)]
 have hm2 : min 1099511627776 pr = pr := by omega
 have hw1 : IntKind.i64.wrap (n * sz) = pr := by rw [hpr, IntKind.wrap_i64]; omega
 clear hhd hpr
 go_upto_region 12 with fail
 refine Ri.made_last (Ri.phi [Ri.isV (.pointer (some ⟨W.heap.size, 3, none⟩)), Ri.isV (.slice (some ⟨g, o, none⟩) len cap), Ri.isV (.pointer (some ⟨g, o + 0 * 4, none⟩)), Ri.isV (.agg #[.int .i64 m', .int .i64 x', .bool y', .slice B l' d']), Ri.isV (tgW wd b), Ri.isV (rmV (sz, al)), (NewR w3.heap.size)]) (by kernel_rfl) (by kernel_rfl) rfl (by kernel_rfl) rfl (Ri.phi_mono ?_) ?_ ?_
 ·repeat' first | exact trivial | exact fun _ _ _ h _ => h | exact newR_q _ | refine ⟨?_, ?_⟩
 ·refine Ri.All.cons ?_ (.cons ?_ (.cons ?_ (.cons ?_ (.cons ?_ (.cons ?_ (.cons ?_ (Ri.All.nil)))))))
  ·refine ⟨rfl, fun f9 W9 hq hf A9 hA hB hO => ?_⟩
   have e1 := (hB 2).trans (show _ = .pointer (some ⟨W.heap.size, 0, none⟩) by simp [Act.eval])
   exact Ri.wp_value _ (Ri.run_fld (f := _) rfl e1 Try.underlying24 rfl (sz := 0) (by kernel_rfl)) rfl
  ·refine ⟨rfl, fun f9 W9 hq hf A9 hA hB hO => ?_⟩
   have e1 := (hA 59 0).trans (hf 0)
   exact Ri.wp_value _ (Ri.run_ld1 rfl e1 Try.underlying22 rfl ((hq.facts.1 _ 3 hs0).trans k3)) rfl
  ·refine ⟨rfl, fun f9 W9 hq hf A9 hA hB hO => ?_⟩
   have e1 := (hA 60 1).trans (hf 1)
   have e2 : A9.eval (.const (.int .i64 0)) = .int .i64 ((0 : Nat) : Int) := rfl
   exact Ri.wp_value _ (Ri.run_idx rfl e1 e2 Try.underlying22 (sz := 4) (by kernel_rfl) (by have := HL1.out; omega)) rfl
  ·refine ⟨rfl, fun f9 W9 hq hf A9 hA hB hO => ?_⟩
   have e1 := (hA 61 2).trans (hf 2)
   have hqw := HQB.out.trans ((Q.refl _).drew.trans hq)
   exact Ri.wp_value _ (Ri.run_ldagg (cs := [.int .i64 m', .int .i64 x', .bool y', .slice B l' d']) rfl e1 (c4G ((hqw.facts.1 _ _ HBQ.out).trans HZ0.out) ((hqw.facts.1 _ _ HBQ.out).trans HZ1.out) ((hqw.facts.1 _ _ HBQ.out).trans HZ2.out) ((hqw.facts.1 _ _ HBQ.out).trans HZ3.out)) Try.underlying24 rfl (by kernel_rfl)) rfl
  ·refine ⟨rfl, fun f9 W9 hq hf A9 hA hB hO => ?_⟩
   have e1 := (hB 3).trans (show _ = .pointer (some ⟨W.heap.size + 1, 0, none⟩) by simp [Act.eval])
   exact Ri.wp_value _ (Ri.run_ldagg (cs := [.int .i64 wd, .bool b]) rfl e1 (c2L ((hq.facts.1 _ 0 hs1).trans t0) ((hq.facts.1 _ 1 hs1).trans t1)) Try.underlying26 rfl (by kernel_rfl)) rfl
  ·refine ⟨rfl, fun f9 W9 hq hf A9 hA hB hO => ?_⟩
   have e1 := (hA 62 3).trans (hf 3)
   have e2 := (hA 63 4).trans (hf 4)
   refine Ri.wp_call #[.agg #[.int .i64 m', .int .i64 x', .bool y', .slice B l' d'], tgW wd b] rfl (by simp [e1, e2]) Try.func58 (by kernel_rfl) (by kernel_rfl) ((HC.out W9 (HQB.out.trans ((Q.refl _).drew.trans hq))).mono ?_)
   rintro e w9 ⟨rfl, h1⟩
   exact ⟨_, rfl, h1, rfl⟩
  ·refine ⟨rfl, fun f9 W9 hq hf A9 hA hB hO => ?_⟩
   exact Ri.wp_val _ (Ri.run_allocR rfl) ((Q.refl W9).alloc _) ⟨_, rfl, hq.size, by simp, heap_alloc_new W9 _⟩
 ·intro f9 W2 hq hf A9 hAe hA hB
  obtain ⟨q, hqe, hqb, hql, hqh⟩ : NewR w3.heap.size (f9 6) W2 := hf 6 (by simp)
  have e1 := (hA 6 6).trans hqe
  have e2 := (hA 64 5).trans (hf 5)
  refine wp_store_row _ _ _ rfl _ _ e1 e2 _ _ (hqh) (by kernel_rfl) rfl (by simp [Value.oneCell']) ⟨undef, rfl, ?_⟩
  rw [hAe]
  simp only [Ri.acts, Act.put, List.setIfInBounds_toArray, List.set_cons_zero, List.set_cons_succ, Nat.zero_add, Nat.reduceAdd]
  have HXW := hide hq
  have HQH := hide hqh
  have HQBB := hide hqb
  rw [hqe]
  clear hA hB hAe e1 e2 hf hq hqh hqe hqb
  have hqs0 : q < W2.heap.size := (Array.getElem?_eq_some_iff.1 HQH.out).1
  have hqne : W.heap.size + 2 ≠ q := by have := HQBB.out; omega
  obtain ⟨wr, hwr⟩ : ∃ wr, W2.setRow q #[.int .i64 sz, .int .i64 al] = wr := ⟨_, rfl⟩
  have hqs : q < wr.heap.size := by rw [← hwr]; simpa using hqs0
  have q0 : wr.cell? ⟨q, 0, none⟩ = some (.int .i64 sz) := by rw [← hwr]; exact (cell_setRow_same _ _ 0 _ _ _ _ HQH.out).trans rfl
  have q1 : wr.cell? ⟨q, 1, none⟩ = some (.int .i64 al) := by rw [← hwr]; exact (cell_setRow_same _ _ 1 _ _ _ _ HQH.out).trans rfl
  have kbr : wr.heap[W.heap.size + 2]? = some (.cells #[.int .i64 0, .int .i64 0] 65 (0, 0)) := by
   rw [← hwr, setRow_other _ _ _ _ hqne]
   exact (HXW.out.below.block _ hs2).trans KB.out
  have hs2r : W.heap.size + 2 < wr.heap.size := by
   rw [← hwr]
   have := HXW.out.size
   simp
   omega
  have HQR := hide (show Q W wr by rw [← hwr]; exact (HQ3.out.trans HXW.out).setRow (by have := HQBB.out; omega) _)
  have HQ3R := hide (show Q w3 wr by rw [← hwr]; exact (HXW.out).setRow (by have := HQBB.out; omega) _)
  have k1r := (HQ3R.out.facts.1 _ 1 hs0).trans K1.out
  have HWR := hide hwr
  clear k0 k3 t0 t1 hwr
  have zz0 := cell_blkJ (j := 0) kbr rfl
  have zz1 := cell_blkJ (j := 1) kbr rfl
  have yy0 := frz_new (j := 0) kbr
  have yy1 := frz_new (j := 1) kbr
  clear kbr
  go_upto_region 13 with fail
  rw [HWR.out]
  obtain ⟨s0, s1⟩ := set2c (v0 := .int .i64 (pr)) (v1 := .int .i64 (al)) (zz0) (zz1)
  have S0 := hide s0
  have S1 := hide s1
  have HQS := hide (((HQR.out).set (p := ⟨W.heap.size + 2, 0, none⟩) (by simp) (.int .i64 (pr))).set (p := ⟨W.heap.size + 2, 1, none⟩) (by simp) (.int .i64 (al)))
  have z0 := zz0
  have z1 := zz1
  have y0 := yy0
  have y1 := yy1
  clear s0 s1
  go_wp2_with fail
  have s0 := S0.out
  have s1 := S1.out
  refine bodyPost_ret (v := .agg #[.int .i64 (pr), .int .i64 (al)]) (by simp [results, Try.results58, go_sem, s0, s1]) rfl ?_
  exact ⟨by rw [HRM.out, HVAL.out], HQS.out⟩
theorem stand_mono : ∀ (rs : List Rm) (s : Rm), (∀ r ∈ rs, isA r.2 ∧ 0 ≤ r.1) → isA s.2 → 0 ≤ s.1 → s.1 ≤ (rs.foldl stepS s).1 ∧ isA (rs.foldl stepS s).2 ∧ 0 ≤ (rs.foldl stepS s).1
 | [], s, _, h1, h2 => ⟨Int.le_refl _, h1, h2⟩
 | r :: rs, s, hr, h1, h2 => by
  obtain ⟨a1, a2⟩ := hr r (List.mem_cons_self ..)
  obtain ⟨b1, b2, b3⟩ := a1.up h2
  rw [List.foldl_cons]
  have ih := stand_mono rs (stepS s r) (fun q hq => hr q (List.mem_cons_of_mem _ hq)) (h1.max a1) (by unfold stepS; dsimp only; omega)
  refine ⟨?_, ih.2⟩
  have h9 : s.1 ≤ (stepS s r).1 := by unfold stepS; dsimp only; omega
  have := ih.1
  omega
theorem stand_pre {rs : List Rm} {C : Int} (hr : ∀ r ∈ rs, isA r.2 ∧ 0 ≤ r.1) (hC : (standR rs).1 ≤ C) (j : Nat) : isA (standR (rs.take j)).2 ∧ 0 ≤ (standR (rs.take j)).1 ∧ (standR (rs.take j)).1 ≤ C := by
 have h1 := stand_mono (rs.take j) (0, 1) (fun r h => hr r (List.mem_of_mem_take h)) isA.one (by simp)
 refine ⟨h1.2.1, h1.2.2, ?_⟩
 have h2 := stand_mono (rs.drop j) (standR (rs.take j)) (fun r h => hr r (List.mem_of_mem_drop h)) h1.2.1 h1.2.2
 have h3 : (rs.drop j).foldl stepS (standR (rs.take j)) = standR rs := by
  unfold standR
  rw [← List.foldl_append, List.take_append_drop]
 rw [h3] at h2
 have := h2.1
 omega
theorem stand_succ {rs : List Rm} {j : Nat} {r : Rm} (h : rs[j]? = some r) : standR (rs.take (j + 1)) = stepS (standR (rs.take j)) r := by
 unfold standR
 rw [List.take_add_one, h, List.foldl_append]
 rfl
def offsTo (rs : List Rm) (j : Nat) : List Int := (List.range j).map fun i => upI (standR (rs.take i)).1 ((rs[i]?).getD (0, 1)).2
theorem offs_succ {rs : List Rm} {j : Nat} {r : Rm} (h : rs[j]? = some r) : offsTo rs (j + 1) = offsTo rs j ++ [upI (standR (rs.take j)).1 r.2] := by
 unfold offsTo
 rw [List.range_succ, List.map_append]
 simp [h]
theorem own_blk {w : World} {B e s : Nat} {v : Value} {n : Nat} {xs : List Value} (h : w.ownsRow B e s v n xs) {g : Nat} (hg : v.ownBlock = some g) : ∃ cs, w.heap[g]? = some (.cells cs e (0, 0)) := by
 rcases h.2 with ⟨rfl, _⟩ | ⟨g', cap, cur, rfl, _, hh, _⟩
 ·cases hg
 ·cases hg; exact ⟨cur, hh⟩
theorem wpList_app1g {P : Program} {t e size bytes : Nat} {w : World} {base : Nat} {ops : Array Oper} {rest : List Oper} {o : Oper} {a : Act} {Q' : Exit → Act → World → Prop} {v : Value} {n : Nat} {xs : List Value}
  (hgd : o.guard = none) (E : El P t e size bytes) (s x : Operand) (ho : o.op = .call { callee := .builtin .append, args := #[s, x], argTypes := #[t, t] })
  (hs : a.eval s = v) (hown : w.ownsRow base e size v n xs) {C : Array Value} {k : Nat} (hk : k = w.heap.size) (hx : a.eval x = .slice (some ⟨k, 0, none⟩) 1 1) (hC : C.size = size) (h1 : ∀ u ∈ C.toList, u.oneCell' = true)
  (hb : (n + 1) * bytes ≤ 140737488355328) (hbase : base ≤ w.heap.size)
  (h : ∀ v' w', w'.ownsRow base e size v' (n + 1) (xs ++ C.toList) → w.grownBy w' v.ownBlock → wpList P ops Q' rest (a.put o.dst v') w') : wpList P ops Q' (o :: rest) a (w.alloc (.cells C e)) := by
 obtain ⟨i, z, hi, hz, hsz, hby, hzs⟩ := E.inf
 subst hk
 have hle : n + 1 ≤ (n + 1) * bytes := Nat.le_mul_of_pos_right _ E.bpos
 refine wpList_append_own _ hgd s x t ho base e i z size bytes E.und hi hz hsz hby hzs E.pos v n xs hs (hown.alloc _) ⟨w.heap.size, 0, none⟩ 1 1 C.toList hx (by simpa using hC) (fun j u hu => ?_) h1 (by simp only [maxLen]; omega) hb (by simp; omega) (fun v' w' h2 h3 _ => h v' w' h2 ((World.grownBy_alloc w _ _).trans h3))
 rw [addr_add, Nat.zero_add, World.cell?_alloc_new]
 simpa using hu
theorem own_set_low {w : World} {B e s n g : Nat} {v : Value} {xs : List Value} (h : w.ownsRow B e s v n xs) (hg : g < B) (j : Nat) (u : Value) : (w.setCell ⟨g, j, none⟩ u).ownsRow B e s v n xs := by
 refine h.kept (row := some g) ⟨by first | rfl | simp | (unfold World.setCell; split <;> rfl), by first | rfl | simp | (unfold World.setCell; split <;> rfl), by first | rfl | simp | (unfold World.setCell; split <;> rfl), by simp, fun i hi hne => heap_setCell_other w ⟨g, j, none⟩ i u (fun e => hne (by rw [e]))⟩ ?_
 cases hv : v.ownBlock with
 | none => exact .inl rfl
 | some k =>
  have := (h.lt k hv).1
  exact .inr (fun e => by cases e; omega)
theorem placed_any {w : World} {k n : Int} {f : Bool} {A : Option Addr} {len cap : Nat} {ps : List Lay} (hsl : Sl 4 encL w A len cap ps) (hv : ps.length ≤ 12) (wd : Int) (b : Bool) (hp : ∀ p ∈ ps, ∀ W, Q w W → Calls Try.prog 58 #[p.v, tgW wd b] W (R1 W (rmV (p.room wd)))) (hr : ∀ p ∈ ps, isA (p.room wd).2 ∧ 0 ≤ (p.room wd).1 ∧ (p.room wd).1 ≤ 1088000000000) (hz : (standR (ps.map (Lay.room wd))).1 ≤ 1088000000000) : ∀ W, Q w W → Calls Try.prog 39 #[.agg #[.int .i64 k, .int .i64 n, .bool f, .slice A len cap], tgW wd b] W fun e w' => ∃ v, e = .returned (.tuple #[v, rmV (upI (standR (ps.map (Lay.room wd))).1 (standR (ps.map (Lay.room wd))).2, (standR (ps.map (Lay.room wd))).2)]) ∧ w'.ownsRow W.heap.size 3 1 v len ((offsTo (ps.map (Lay.room wd)) len).map (Value.int .i64)) ∧ Q W w' := by
 intro W hqW
 have hlen := hsl.len
 have HST := hide (stand_pre (rs := ps.map (Lay.room wd)) (C := 1088000000000) (fun r h => by
  obtain ⟨p, hpm, rfl⟩ := List.mem_map.1 h
  exact ⟨(hr p hpm).1, (hr p hpm).2.1⟩) hz)
 have HTK := hide (List.take_of_length_le (l := ps.map (Lay.room wd)) (i := len) (by simp [hlen]))
 have HSL := hide hsl
 have HPL := hide hlen
 have HPP := hide hp
 have HRR := hide hr
 have HRS : Hid (∀ (j : Nat) (p : Lay), ps[j]? = some p → (ps.map (Lay.room wd))[j]? = some (p.room wd)) := hide fun j p h => by rw [List.getElem?_map, h]; rfl
 have hl12 : len ≤ 12 := by omega
 show Calls _ _ #[.agg #[.int .i64 k, .int .i64 n, .bool f, .slice A len cap], .agg #[.int .i64 wd, .bool b]] W _
 obtain ⟨w3, hw3⟩ : ∃ w3, ((W.alloc (.cells #[.int .i64 k, .int .i64 n, .bool f, .slice A len cap] 24)).alloc (.cells #[.int .i64 wd, .bool b] 26)).alloc (.cells #[.int .i64 0, .int .i64 0] 65) = w3 := ⟨_, rfl⟩
 obtain ⟨hq3, hs3, hc, hd, he⟩ := box3 hw3
 have hs0 : W.heap.size < w3.heap.size := by omega
 have hs1 : W.heap.size + 1 < w3.heap.size := by omega
 have hs2 : W.heap.size + 2 < w3.heap.size := by omega
 have K0 := hide (show w3.cell? ⟨W.heap.size, 0, none⟩ = some (.int .i64 k) from hc 0 _ rfl)
 have K1 := hide (show w3.cell? ⟨W.heap.size, 1, none⟩ = some (.int .i64 n) from hc 1 _ rfl)
 have K2 := hide (show w3.cell? ⟨W.heap.size, 2, none⟩ = some (.bool f) from hc 2 _ rfl)
 have K3 := hide (show w3.cell? ⟨W.heap.size, 3, none⟩ = some (.slice A len cap) from hc 3 _ rfl)
 have T0 := hide (show w3.cell? ⟨W.heap.size + 1, 0, none⟩ = some (.int .i64 wd) from hd 0 _ rfl)
 have T1 := hide (show w3.cell? ⟨W.heap.size + 1, 1, none⟩ = some (.bool b) from hd 1 _ rfl)
 have Z0 := hide (show w3.cell? ⟨W.heap.size + 2, 0, none⟩ = some (.int .i64 0) from he 0 _ rfl)
 have Z1 := hide (show w3.cell? ⟨W.heap.size + 2, 1, none⟩ = some (.int .i64 0) from he 1 _ rfl)
 have kb : w3.heap[W.heap.size + 2]? = some (.cells #[.int .i64 0, .int .i64 0] 65 (0, 0)) := by
  have h9 := heap_alloc_new ((W.alloc (.cells #[.int .i64 k, .int .i64 n, .bool f, .slice A len cap] 24)).alloc (.cells #[.int .i64 wd, .bool b] 26)) (.cells #[.int .i64 0, .int .i64 0] 65)
  rw [hw3] at h9
  simpa using h9
 have Y0 := hide (frz_new (j := 0) kb)
 have Y1 := hide (frz_new (j := 1) kb)
 have KB := hide kb
 have HW3 := hide hw3
 have HQ3 := hide hq3
 have HQB := hide (hqW.trans hq3)
 clear hsl hv hp hr hz hqW hw3 hq3 hc hd he kb hlen
 obtain ⟨rs, hrs⟩ : ∃ rs, ps.map (Lay.room wd) = rs := ⟨_, rfl⟩
 rw [hrs] at HST HTK HRS ⊢
 clear hrs
 go_enter Try.func39, Try.ntmps39
 go_upto_region 1 with fail
 rw [HW3.out]
 have k3 := K3.out
 go_wp2_with fail
 clear k3
 go_loopw [6, 7, 8, 16] (fun v6 v7 v8 v16 wr => ∃ j : Nat, j ≤ len ∧ v16 = .int .i64 j ∧ wr.ownsRow w3.heap.size 3 1 v6 j ((offsTo rs j).map (Value.int .i64)) ∧ v7 = .int .i64 (standR (rs.take j)).1 ∧ v8 = .int .i64 (standR (rs.take j)).2 ∧ Q w3 wr) (fun _ _ _ v16 _ => len - (intOf v16).toNat)
 case atStart => exact ⟨0, by omega, by go_num, World.ownsRow_nil _ _ _ _, rfl, rfl, Q.refl _⟩
 case round =>
  obtain ⟨j, hj, rfl, hown, rfl, rfl, hq⟩ := hrel
  obtain ⟨hcaA, hce0, hceC⟩ := HST.out j
  have HQ := hide hq
  by_cases hlt9 : j < len
  ·have hd1 : decide ((j : Int) < (len : Int)) = true := by simp; omega
   have hd0 : decide (j < len) = true := by simp; omega
   have hlti : (j : Int) < (len : Int) := by omega
   obtain ⟨g, o, m', x', y', B, l', d', qs, e, hb, hx, z0, z1, z2, z3⟩ := lay_at (HSL.out.up (HQB.out.trans hq)) hlt9
   cases e
   obtain ⟨p, hpe⟩ : ∃ p, Lay.mk m' x' y' B l' d' qs = p := ⟨_, rfl⟩
   have hpv : p.v = .agg #[.int .i64 m', .int .i64 x', .bool y', .slice B l' d'] := by rw [← hpe]; rfl
   rw [hpe] at hx
   have hpm := List.mem_of_getElem? hx
   have hxr := HRS.out j p hx
   obtain ⟨sz, hsz⟩ : ∃ sz, (p.room wd).1 = sz := ⟨_, rfl⟩
   obtain ⟨al, hal⟩ : ∃ al, (p.room wd).2 = al := ⟨_, rfl⟩
   have hrm : p.room wd = (sz, al) := by rw [← hsz, ← hal]
   rw [hrm] at hxr
   have hro := HRR.out p hpm
   rw [hsz, hal] at hro
   obtain ⟨haA, hs0z, hsCap⟩ := hro
   have hnx := stand_succ hxr
   have hof := offs_succ hxr
   obtain ⟨-, hne0, hneC⟩ := HST.out (j + 1)
   obtain ⟨ce, hce⟩ : ∃ ce, (standR (rs.take j)).1 = ce := ⟨_, rfl⟩
   obtain ⟨ca, hca⟩ : ∃ ca, (standR (rs.take j)).2 = ca := ⟨_, rfl⟩
   unfold stepS at hnx
   rw [hce, hca] at hnx
   rw [hce] at hof hce0 hceC
   rw [hca] at hcaA
   obtain ⟨hu1, hu2, hu3⟩ := haA.up hce0
   obtain ⟨pl, hpl⟩ : ∃ pl, upI ce al = pl := ⟨_, rfl⟩
   obtain ⟨na, hna⟩ : ∃ na, max ca al = na := ⟨_, rfl⟩
   dsimp only at hnx
   rw [hpl] at hnx hof hu1 hu2 hu3
   rw [hna] at hnx
   rw [hnx] at hne0 hneC
   dsimp only at hne0 hneC
   obtain ⟨en, hen⟩ : ∃ en, pl + sz = en := ⟨_, rfl⟩
   rw [hen] at hnx hne0 hneC
   have hpl0 := hu3
   have HSUM := hide (show min (pl + sz) 1099511627776 = en by omega)
   have HNA := hide hna
   have HPLU := hide hpl
   have HNX := hide hnx
   have HOF := hide hof
   have HOW := hide hown
   obtain ⟨wa, hwa⟩ : ∃ wa, wr.alloc (.cells #[.int .i64 m', .int .i64 x', .bool y', .slice B l' d'] 24) = wa := ⟨_, rfl⟩
   obtain ⟨hqa, hsa, hca'⟩ := box1 hwa
   have t0 := hca' 0 _ rfl
   have t1 := hca' 1 _ rfl
   have t2 := hca' 2 _ rfl
   have t3 := hca' 3 _ rfl
   have u0 := ((HQ.out.trans hqa).facts.1 _ 0 hs1).trans T0.out
   have u1 := ((HQ.out.trans hqa).facts.1 _ 1 hs1).trans T1.out
   have k3 := (HQ.out.facts.1 _ 3 hs0).trans K3.out
   have HC := hide (HPP.out p hpm wa (HQB.out.trans (hq.trans hqa)))
   rw [hpv, hrm] at HC
   unfold R1 at HC
   have HQA := hide hqa
   have HWA := hide hwa
   rw [hce, hca]
   clear hx hpe hpv hpm hxr hsz hal hrm hnx hof hu1 hu2 hpl hna hen hwa hca' hqa hq hown hce hca
   go_upto_region 6 with fail
   rw [HWA.out]
   clear z0 z1 z2 z3 k3
   go_wp2_with fail
   refine HC.out.mono ?_
   rintro e w5 ⟨rfl, hq5⟩
   clear t0 t1 t2 t3 u0 u1
   obtain ⟨w6, hw6⟩ : ∃ w6, w5.alloc (.cells #[.int .i64 sz, .int .i64 al] 65) = w6 := ⟨_, rfl⟩
   obtain ⟨hq6, hs6, hc6⟩ := box1 hw6
   obtain ⟨wb, hwb⟩ : ∃ wb, w5.heap.size = wb := ⟨_, rfl⟩
   rw [hwb] at hc6 hs6
   have r1 := hc6 1 _ rfl
   have R0 := hide (show w6.cell? ⟨wb, 0, none⟩ = some (.int .i64 sz) from hc6 0 _ rfl)
   have R1' := hide r1
   have hq36 := HQ.out.trans (HQA.out.trans (hq5.trans hq6))
   have HQ6 := hide hq36
   have hown6 := own_q HOW.out (HQA.out.trans (hq5.trans hq6))
   have hs36 := hq36.size
   have HOW6 := hide hown6
   have HUP := hide (up_any ce al haA hce0 (by omega) w6)
   rw [HPLU.out] at HUP
   unfold R1 at HUP
   have HB6 := hide (show w6.heap[wb]? = some (.cells #[.int .i64 sz, .int .i64 al] 65 (0, 0)) by rw [← hw6, ← hwb]; exact heap_alloc_new w5 _)
   have HW6 := hide hw6
   clear hq5 hq6 hw6 hc6 hq36 hown6
   go_upto_region 7 with fail
   rw [HW6.out]
   go_wp2_with fail
   refine HUP.out.mono ?_
   rintro e w7 ⟨rfl, hq7⟩
   have HQ7 := hide (HQ6.out.trans hq7)
   have hs37 := HQ7.out.size
   have HOW7 := hide (own_q HOW6.out hq7)
   have hbl7 : wb < w7.heap.size := by have := hq7.size; omega
   have HB7 := hide ((hq7.below.block _ (show wb < w6.heap.size by omega)).trans HB6.out)
   have hlj : ((j : Int) + 1) * 8 ≤ 140737488355328 := by omega
   clear hq7 r1
   go_upto_region 9 with (at_builtin; refine wpList_app1g rfl El_int _ _ rfl rfl HOW7.out (by simp) rfl rfl ?_ ?_ ?_ ?_; (focus (simp [Value.oneCell'])); (focus omega); (focus omega); intro v8 w8 hown8 hg8; have HOW8 := hide hown8; have HG8 := hide hg8; clear hown8 hg8)
   have HQ8 := hide (q_grown HQ7.out HG8.out (fun k e => (HOW7.out.lt k e).1))
   have hb8 : w8.heap[wb]? = some (.cells #[.int .i64 sz, .int .i64 al] 65 (0, 0)) := (HG8.out.block wb hbl7 (fun e => by obtain ⟨cs, h9⟩ := own_blk HOW7.out e.symm; rw [HB7.out] at h9; cases h9)).trans HB7.out
   have r0 : w8.cell? ⟨wb, 0, none⟩ = some (.int .i64 sz) := cell_blkJ (j := 0) hb8 rfl
   have r1 : w8.cell? ⟨wb, 1, none⟩ = some (.int .i64 al) := cell_blkJ (j := 1) hb8 rfl
   have hbl : wb < w8.heap.size := (Array.getElem?_eq_some_iff.1 hb8).1
   clear hb8
   refine Ri.made (Ri.phi [Ri.isV (.int .i64 pl), Ri.isV (.pointer (some ⟨wb, 0, none⟩)), Ri.isV (.int .i64 sz), (fun v W => ∃ b, v = .slice (some ⟨b, 0, none⟩) 2 2 ∧ b < W.heap.size ∧ W.cell? ⟨b, 0, none⟩ = some (.int .i64 pl) ∧ W.cell? ⟨b, 1, none⟩ = some (.int .i64 sz)), Ri.isV (.int .i64 en), Ri.isV (.int .i64 ca), Ri.isV (.pointer (some ⟨wb, 1, none⟩)), Ri.isV (.int .i64 al), Ri.isV (.int .i64 na), Ri.isV (.int .i64 en), Ri.isV (.int .i64 na)]) (by kernel_rfl) (by kernel_rfl) (Ri.phi_mono ?_) ?_ ?_
   ·repeat' first | exact trivial | exact fun _ _ _ h _ => h | exact (fun _ w3 w4 ⟨b, e, hb, c0, c1⟩ hq => ⟨b, e, Nat.lt_of_lt_of_le hb hq.size, (hq.facts.1 _ _ hb).trans c0, (hq.facts.1 _ _ hb).trans c1⟩) | refine ⟨?_, ?_⟩
   ·refine Ri.All.cons ?_ (.cons ?_ (.cons ?_ (.cons ?_ (.cons ?_ (.cons ?_ (.cons ?_ (.cons ?_ (.cons ?_ (.cons ?_ (.cons ?_ (Ri.All.nil)))))))))))
    ·refine ⟨rfl, fun f9 W9 hq hf A9 hA hB hO => ?_⟩
     have e1 := (hB 12).trans (show _ = .int .i64 pl by simp [Act.eval])
     exact Ri.wp_value _ (Ri.run_mv rfl e1) rfl
    ·refine ⟨rfl, fun f9 W9 hq hf A9 hA hB hO => ?_⟩
     have e1 := (hB 11).trans (show _ = .pointer (some ⟨wb, 0, none⟩) by simp [Act.eval])
     exact Ri.wp_value _ (Ri.run_fld (f := _) rfl e1 Try.underlying65 rfl (sz := 0) (by kernel_rfl)) rfl
    ·refine ⟨rfl, fun f9 W9 hq hf A9 hA hB hO => ?_⟩
     have e1 := (hA 32 1).trans (hf 1)
     exact Ri.wp_value _ (Ri.run_ld1 rfl e1 Try.underlying3 rfl ((hq.facts.1 _ 0 hbl).trans r0)) rfl
    ·refine ⟨rfl, fun f9 W9 hq hf A9 hA hB hO => ?_⟩
     have e1 := (hA 31 0).trans (hf 0)
     have e2 := (hA 33 2).trans (hf 2)
     obtain ⟨ti, hi9, hz9, hsz9, hby9⟩ := info_parts (show (Try.prog.info? 3).map (fun i => (i.zero, i.size, i.bytes)) = some (some (.int .i64 0), 1, 8) by kernel_rfl)
     refine wp_buildSlice 32 3 2 _ rfl #[.int .i64 pl, .int .i64 sz] ti _ Try.underlying32 hi9 hz9 (by rw [hsz9]; decide) (by rw [hsz9]; decide) ?_ ⟨_, rfl, (Q.refl W9).alloc _, W9.heap.size, rfl, by simp, cell_blkJ (heap_alloc_new W9 _) rfl, cell_blkJ (heap_alloc_new W9 _) rfl⟩
     rw [hsz9]
     simp only [List.map_toArray, List.map_cons, List.map_nil, e1, e2]
     kernel_rfl
    ·refine ⟨rfl, fun f9 W9 hq hf A9 hA hB hO => ?_⟩
     obtain ⟨b9, hb9, hl9, c0, c1⟩ : ∃ b, f9 3 = .slice (some ⟨b, 0, none⟩) 2 2 ∧ b < W9.heap.size ∧ W9.cell? ⟨b, 0, none⟩ = some (.int .i64 pl) ∧ W9.cell? ⟨b, 1, none⟩ = some (.int .i64 sz) := hf 3
     have e1 := (hA 34 3).trans hb9
     have h9 := sum2g b9 pl sz W9 hl9 c0 c1 hpl0 hs0z
     rw [HSUM.out] at h9
     refine Ri.wp_call #[.slice (some ⟨b9, 0, none⟩) 2 2] rfl (by simp [e1]) Try.func66 (by kernel_rfl) (by kernel_rfl) (h9.mono ?_)
     rintro e w9 ⟨rfl, h1⟩
     exact ⟨_, rfl, h1, rfl⟩
    ·refine ⟨rfl, fun f9 W9 hq hf A9 hA hB hO => ?_⟩
     have e1 := (hA 8 10).trans ((hO 10).trans (show _ = .int .i64 ca by simp [Ri.old]))
     exact Ri.wp_value _ (Ri.run_mv rfl e1) rfl
    ·refine ⟨rfl, fun f9 W9 hq hf A9 hA hB hO => ?_⟩
     have e1 := (hB 11).trans (show _ = .pointer (some ⟨wb, 0, none⟩) by simp [Act.eval])
     exact Ri.wp_value _ (Ri.run_fld (f := _) rfl e1 Try.underlying65 rfl (sz := 0) (by kernel_rfl)) rfl
    ·refine ⟨rfl, fun f9 W9 hq hf A9 hA hB hO => ?_⟩
     have e1 := (hA 37 6).trans (hf 6)
     exact Ri.wp_value _ (Ri.run_ld1 rfl e1 Try.underlying3 rfl ((hq.facts.1 _ 1 hbl).trans r1)) rfl
    ·refine ⟨rfl, fun f9 W9 hq hf A9 hA hB hO => ?_⟩
     have e1 := (hA 36 5).trans (hf 5)
     have e2 := (hA 38 7).trans (hf 7)
     exact Ri.wp_value _ ((Ri.run_maxi rfl e1 e2).trans (by rw [HNA.out])) rfl
    ·refine ⟨rfl, fun f9 W9 hq hf A9 hA hB hO => ?_⟩
     have e1 := (hA 35 4).trans (hf 4)
     exact Ri.wp_value _ (Ri.run_asg rfl e1) rfl
    ·refine ⟨rfl, fun f9 W9 hq hf A9 hA hB hO => ?_⟩
     have e1 := (hA 39 8).trans (hf 8)
     exact Ri.wp_value _ (Ri.run_asg rfl e1) rfl
   ·intro f9 W2 hq hf
    have e9 : f9 9 = .int .i64 en := hf 9 (by simp)
    have e10 : f9 10 = .int .i64 na := hf 10 (by simp)
    simp only [Ri.acts, Act.put, List.setIfInBounds_toArray, List.set_cons_zero, List.set_cons_succ, Nat.zero_add, Nat.reduceAdd]
    rw [e9, e10]
    have HXW := hide hq
    clear hf hq e9 e10
    clear r0 r1
    go_wp2_with fail
    go_roundw
    case rel => exact ⟨j + 1, by omega, by go_num, by rw [HOF.out, List.map_append]; exact own_q HOW8.out HXW.out, by rw [HNX.out], by rw [HNX.out], HQ8.out.trans HXW.out⟩
    case measure => simp [intOf] <;> omega
  ·have hd1 : decide ((j : Int) < (len : Int)) = false := by simp; omega
   have hd0 : decide (j < len) = false := by simp; omega
   obtain rfl : j = len := by omega
   have HOW := hide hown
   have htk : rs.take j = rs := HTK.out
   rw [htk] at hcaA hce0 hceC ⊢
   obtain ⟨ce, hce⟩ : ∃ ce, (standR rs).1 = ce := ⟨_, rfl⟩
   obtain ⟨ca, hca⟩ : ∃ ca, (standR rs).2 = ca := ⟨_, rfl⟩
   obtain ⟨fi, hfi⟩ : ∃ fi, upI ce ca = fi := ⟨_, rfl⟩
   rw [hce] at hce0 hceC
   rw [hca] at hcaA
   have HRES := hide (show (rmV (upI (standR rs).1 (standR rs).2, (standR rs).2)) = .agg #[.int .i64 fi, .int .i64 ca] by rw [hce, hca, hfi])
   have HUP := hide (fun W' => up_any ce ca hcaA hce0 (by omega) W')
   rw [hfi] at HUP
   unfold R1 at HUP
   rw [hce, hca]
   clear htk hce hca hfi hown hq
   go_wp2_with fail
   refine (HUP.out _).mono ?_
   rintro e w5 ⟨rfl, hq5⟩
   have HQ5 := hide (HQ.out.trans hq5)
   have zz0 := (HQ5.out.facts.1 _ 0 hs2).trans Z0.out
   have zz1 := (HQ5.out.facts.1 _ 1 hs2).trans Z1.out
   have yy0 := (HQ5.out.facts.2.1 _ 0 hs2).trans Y0.out
   have yy1 := (HQ5.out.facts.2.1 _ 1 hs2).trans Y1.out
   obtain ⟨s0, s1⟩ := set2c (v0 := .int .i64 fi) (v1 := .int .i64 ca) zz0 zz1
   have S0 := hide s0
   have S1 := hide s1
   have HQS := hide (((HQ3.out.trans HQ5.out).set (p := ⟨W.heap.size + 2, 0, none⟩) (by simp) (.int .i64 fi)).set (p := ⟨W.heap.size + 2, 1, none⟩) (by simp) (.int .i64 ca))
   have HOW5 := hide (own_q HOW.out hq5)
   clear s0 s1 hq5
   go_wp2_with fail
   have s0 := S0.out
   have s1 := S1.out
   refine bodyPost_ret (v := .tuple #[u6, .agg #[.int .i64 fi, .int .i64 ca]]) (by simp [results, Try.results39, go_sem, s0, s1]) rfl ?_
   exact ⟨_, by rw [HRES.out], own_lower (own_set_low (own_set_low HOW5.out (by omega) _ _) (by omega) _ _) (by omega), HQS.out⟩
end Go.Proofs.Ytbgbalfhbficaaa
