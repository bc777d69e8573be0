/- The reference's CanPatch, SameStretches. Conditions: the objects read as such. -/
import Derived.Test.YtiilkiggfjpibaaLinkXb
namespace Go.Proofs.Ytiilkiggfjpibaa
open Go.RowKit LK
set_option linter.unusedVariables false
set_option linter.unusedSimpArgs false
set_option maxRecDepth 100000 in
set_option maxHeartbeats 4000000 in
theorem rCanPatch_any (A : Option Addr) (n c : Nat) (os : List OV) (i : Int) (o : OV) (w : World) (hO : ObsR w A n c os) (ho : ObR w o) : Calls Try.prog 42 #[.slice A n c, .int .i64 i, obV o] w fun e w' => e = .returned (.tuple #[.bool (cpE n os i o), .int .i64 (changeE n os i o : Nat)]) ∧ Q w w' := by
  have HO := hide hO
  have HOB := hide ho
  have hl := hO.sl.len
  obtain ⟨o0, ho0⟩ : ∃ o0, o0 = o := ⟨_, rfl⟩
  have HCH := hide (fun W (h : Q w W) => changing_any A n c os i o W (hO.up h) (ho.up h))
  have HCA := hide (fun W (h : Q w W) (k : Nat) (p : OV) (h1 : k < n) (h2 : n ≤ 8) (h3 : os[k]? = some p) (h4 : ∀ p ∈ os, p.valid = 0) (h5 : o.valid = 0) => can_any A n c os k o p W (hO.up h) (ho.up h) h1 h2 h3 h4 h5)
  rw [← ho0] at HCH HCA HOB ⊢
  obtain ⟨⟨A0, n0, c0, bs⟩, ⟨A1, n1, c1, ss⟩, ⟨A2, n2, c2, ws⟩⟩ := o
  obtain ⟨w1, hw1⟩ : ∃ w1, w.alloc (.cells #[.slice A0 n0 c0, .slice A1 n1 c1, .slice A2 n2 c2] 34) = w1 := ⟨_, rfl⟩
  have hq1 : Q w w1 := by rw [← hw1]; exact (Q.refl w).alloc _
  have hs1 : w.heap.size < w1.heap.size := by rw [← hw1]; simp
  have k0 : w1.cell? ⟨w.heap.size, 0, none⟩ = some (.slice A0 n0 c0) := by rw [← hw1]; simp
  have k1 : w1.cell? ⟨w.heap.size, 1, none⟩ = some (.slice A1 n1 c1) := by rw [← hw1]; simp
  have k2 : w1.cell? ⟨w.heap.size, 2, none⟩ = some (.slice A2 n2 c2) := by rw [← hw1]; simp
  obtain ⟨ce, hce⟩ : ∃ ce, changeE n os i o0 = ce := ⟨_, rfl⟩
  obtain ⟨cp, hcp⟩ : ∃ cp, cpE n os i o0 = cp := ⟨_, rfl⟩
  rw [hce] at HCH
  rw [hce, hcp]
  have HCE := hide hce
  have HCP := hide hcp
  have HQ1 := hide hq1
  have HW1 := hide hw1
  have HLL := hide hl
  have HK0 := hide k0
  have HK1 := hide k1
  have HK2 := hide k2
  have hov : obV o0 = .agg #[.slice A0 n0 c0, .slice A1 n1 c1, .slice A2 n2 c2] := by rw [ho0]; rfl
  rw [hov]
  simp only [hov] at HCH HCA
  clear hO ho hl hq1 hw1 ho0 hce hcp hov
  go_enter Try.func42, Try.ntmps42
  go_wp2_with fail
  rw [HW1.out]
  clear k0 k1 k2
  refine (HCH.out w1 HQ1.out).mono ?_
  rintro e w2 ⟨rfl, hq2⟩
  have HQ2 := hide (HQ1.out.trans hq2)
  rcases Nat.eq_zero_or_pos ce with hc0 | hc0
  · have d1 : ((ce : Int) != 0) = false := by rw [hc0]; rfl
    obtain ⟨hl0, hi0, hi1, hov⟩ := change_ok (HCE.out.trans hc0)
    obtain ⟨k, rfl⟩ : ∃ k : Nat, i = (k : Int) := ⟨i.toNat, by omega⟩
    have hk : k < n := by omega
    obtain ⟨h8, hv⟩ := listed_zero2 hl0
    have hn8 : n ≤ 8 := by have := HLL.out; omega
    obtain ⟨p, hp⟩ : ∃ p, os[k]? = some p := ⟨_, List.getElem?_eq_getElem (by have := HLL.out; omega)⟩
    have hcp2 : cp = canB os k o0 p := by
      rw [← HCP.out]
      unfold cpE
      rw [if_neg (by simp [HCE.out, hc0]), Int.toNat_natCast, hp]
    have HCX := hide (HCA.out w2 HQ2.out k p hk hn8 hp hv hov)
    rw [← hcp2] at HCX
    have k0 := (hq2.facts.1 _ 0 hs1).trans HK0.out
    have k1 := (hq2.facts.1 _ 1 hs1).trans HK1.out
    have k2 := (hq2.facts.1 _ 2 hs1).trans HK2.out
    have HC0 := hide hc0
    clear hc0 hl0 hi0 hi1 hov h8 hv hp hcp2 hk hn8 HCA hq2
    go_wp2_with fail
    refine HCX.out.mono ?_
    rintro e w3 ⟨rfl, hq3⟩
    go_wp2_with fail
    go_ret2
    exact ⟨by rw [HC0.out]; rfl, HQ2.out.trans hq3⟩
  · have d1 : ((ce : Int) != 0) = true := by simp; omega
    have hcf : cp = false := by rw [← HCP.out]; unfold cpE; rw [HCE.out, if_pos (by omega)]
    have HCF := hide hcf
    clear hc0 hcf hq2
    go_wp2_with fail
    go_ret2
    exact ⟨by rw [HCF.out]; rfl, HQ2.out⟩
theorem equalIn_int' (w : World) (d : Nat) (a b : Int) : (Op.equalIn (d + 1) 3 (.int .i64 a) (.int .i64 b)).run Try.prog w = .ok (a == b) w :=
  run_equalIn_int w d _ _ _ a b Try.underlying3
theorem equalIn_pairG (w : World) (d : Nat) (a b a' b' : Int) : (Op.equalIn (d + 1 + 1) 74 (.agg #[.int .i64 a, .int .i64 b]) (.agg #[.int .i64 a', .int .i64 b'])).run Try.prog w = .ok (a == a' && b == b') w := by
  have hs : (sizeOf 3).run Try.prog w = .ok 1 w := by kernel_rfl
  have hp0 : (part 3 #[.int .i64 a, .int .i64 b] 0).run Try.prog w = .ok (.int .i64 a) w := by kernel_rfl
  have hp1 : (part 3 #[.int .i64 a, .int .i64 b] 1).run Try.prog w = .ok (.int .i64 b) w := by kernel_rfl
  have hp2 : (part 3 #[.int .i64 a', .int .i64 b'] 0).run Try.prog w = .ok (.int .i64 a') w := by kernel_rfl
  have hp3 : (part 3 #[.int .i64 a', .int .i64 b'] 1).run Try.prog w = .ok (.int .i64 b') w := by kernel_rfl
  have hq := equalIn_int' w d
  have hr : (List.range' 0 2 1) = [0, 1] := rfl
  unfold Op.equalIn
  by_cases h1 : a = a'
  · subst h1
    by_cases h2 : b = b'
    · subst h2
      simp [Sem.run_bind, run_underlying Try.underlying74, hs, Result.andThen, hp0, hp1, hp2, hp3, hq, hr]
    · simp [Sem.run_bind, run_underlying Try.underlying74, hs, Result.andThen, hp0, hp1, hp2, hp3, hq, hr, h2]
  · simp [Sem.run_bind, run_underlying Try.underlying74, hs, Result.andThen, hp0, hp1, hp2, hp3, hq, hr, h1]
theorem neq_pairG (w : World) (a b a' b' : Int) : (binOp .neq 74 (.agg #[.int .i64 a, .int .i64 b]) (.agg #[.int .i64 a', .int .i64 b'])).run Try.prog w = .ok (.bool (!(a == a' && b == b'))) w := by
  rw [run_neq_struct]
  rw [equalIn_pairG w 9998 a b a' b']
  rfl
theorem eql_pairG (w : World) (a b a' b' : Int) : (binOp .eql 74 (.agg #[.int .i64 a, .int .i64 b]) (.agg #[.int .i64 a', .int .i64 b'])).run Try.prog w = .ok (.bool (a == a' && b == b')) w := by
  rw [run_eql_struct]
  rw [equalIn_pairG w 9998 a b a' b']
  rfl
theorem neq_pair (w : World) (a b : Int) : (binOp .neq 74 (.agg #[.int .i64 a, .int .i64 b]) (.agg #[.int .i64 a, .int .i64 b])).run Try.prog w = .ok (.bool false) w := by
  rw [neq_pairG]
  simp
theorem neq_st (a b : Int) (w : World) : (binOp .neq 74 (.agg #[.int .i64 a, .int .i64 b]) (.agg #[.int .i64 a, .int .i64 b])).run Try.prog w = .ok (.bool false) w := neq_pair w a b
theorem SameStretches_same (A1 : Option Addr) (n c1 : Nat) (A2 : Option Addr) (c2 : Nat) (l : List St) (w : World) (h1 : Sl 2 encP w A1 n c1 l) (h2 : Sl 2 encP w A2 n c2 l) : Calls Try.prog 45 #[.slice A1 n c1, .slice A2 n c2] w fun e w' => e = .returned (.bool true) ∧ Q w w' := by
  have d : ((n : Int) != (n : Int)) = false := by simp
  have H1 := hide h1
  have H2 := hide h2
  have hni : (n : Int) ≤ 9223372036854775807 := by have := h1.cap; have := h1.most; omega
  have NS := hide neq_st
  clear h1 h2
  go_enter Try.func45, Try.ntmps45
  go_wp2_with fail
  clear d
  go_loopw [5] (fun vi wr => ∃ i : Nat, i ≤ n ∧ vi = .int .i64 i ∧ Q w wr) (fun vi _ => n - (intOf vi).toNat)
  case atStart => exact ⟨0, by omega, by go_num, Q.refl _⟩
  case round =>
    obtain ⟨i, hi, rfl, hq⟩ := hrel
    have HQ := hide hq
    by_cases hlt : i < n
    · have hd1 : decide ((i : Int) < (n : Int)) = true := by simp; omega
      have hd0 : decide (i < n) = true := by simp; omega
      have hlti : (i : Int) < (n : Int) := by omega
      obtain ⟨b1, o1, x, e1, hbb1, g1, x1⟩ := (H1.out.up hq).at_ len_encP (by decide) i hlt
      obtain ⟨b2, o2, y, e2, hbb2, g2, y1⟩ := (H2.out.up hq).at_ len_encP (by decide) i hlt
      rw [g1] at g2
      obtain rfl : x = y := by injection g2
      subst e1
      subst e2
      have x0 : wr.cell? ⟨b1, o1 + i * 2, none⟩ = some (.int .i64 (x.1.val : Nat)) := by have := x1 0 _ rfl; simpa using this
      have x2 : wr.cell? ⟨b1, o1 + i * 2 + 1, none⟩ = some (.int .i64 (x.2.val : Nat)) := x1 1 _ rfl
      have y0 : wr.cell? ⟨b2, o2 + i * 2, none⟩ = some (.int .i64 (x.1.val : Nat)) := by have := y1 0 _ rfl; simpa using this
      have y2 : wr.cell? ⟨b2, o2 + i * 2 + 1, none⟩ = some (.int .i64 (x.2.val : Nat)) := y1 1 _ rfl
      have hns := NS.out (x.1.val : Nat) (x.2.val : Nat)
      clear g1 g2 hq x1 y1
      go_wp2_with fail
      have hxc := ext_cell
      refine wp_region_ext (by kernel_rfl) (by kernel_rfl) ?_
      repeat (go_big_quiet_step ((fail)))
      clear hxc
      refine wpQuiet_nil ?_
      intro wz hwwz
      have hqwz := q_of_ext hwwz
      clear hwwz
      obtain ⟨hcwz, hfwz, hzwz⟩ := hqwz.facts
      try simp at hzwz
      try have hs0wz : w.heap.size < wz.heap.size := by omega
      try have hs1wz : w.heap.size + 1 < wz.heap.size := by omega
      clear hcwz hfwz x0 x2 y0 y2 hns
      go_wp2_with fail
      go_roundw
      case rel => exact ⟨i + 1, by omega, by go_num, HQ.out.trans hqwz⟩
      case measure => simp [intOf] <;> omega
    · have hd1 : decide ((i : Int) < (n : Int)) = false := by simp; omega
      have hd0 : decide (i < n) = false := by simp; omega
      obtain rfl : i = n := by omega
      go_wp2_with fail
      go_ret
      exact ⟨rfl, HQ.out⟩
end Go.Proofs.Ytiilkiggfjpibaa
