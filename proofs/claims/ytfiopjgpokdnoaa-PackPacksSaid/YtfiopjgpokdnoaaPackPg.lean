/- longest, walked. Conditions: the slice reads as bytes. -/
import Derived.Test.YtfiopjgpokdnoaaPackPf
namespace Go.Proofs.Ytfiopjgpokdnoaa
open Go.RowKit PP
set_option linter.unusedVariables false
set_option linter.unusedSimpArgs false
/-- a match: how long, and how far back -/
def LongR (bs : List Nat) (j best back : Nat) : Prop := (best = 0 ∧ back = 0) ∨ (1 ≤ back ∧ back ≤ j ∧ best = mt bs (j - back) j)
theorem index_chain0 (p1 p2 p3 p4 : Value) (h1 : p1.cells = #[p1]) (W : World) : (Instr.index 91 (.agg #[p1, p2, p3, p4]) (.int .i64 0)).run Try.prog W = .ok p1 W := by kernel_rfl
theorem index_chain1 (p1 p2 p3 p4 : Value) (h1 : p1.cells = #[p1]) (W : World) : (Instr.index 91 (.agg #[p1, p2, p3, p4]) (.int .i64 1)).run Try.prog W = .ok p2 W := by kernel_rfl
theorem index_chain2 (p1 p2 p3 p4 : Value) (h1 : p1.cells = #[p1]) (W : World) : (Instr.index 91 (.agg #[p1, p2, p3, p4]) (.int .i64 2)).run Try.prog W = .ok p3 W := by kernel_rfl
theorem index_chain3 (p1 p2 p3 p4 : Value) (h1 : p1.cells = #[p1]) (W : World) : (Instr.index 91 (.agg #[p1, p2, p3, p4]) (.int .i64 3)).run Try.prog W = .ok p4 W := by kernel_rfl
theorem LongR.le {bs : List Nat} {j best back : Nat} (h : LongR bs j best back) : best ≤ 130 := by
  rcases h with ⟨h, -⟩ | ⟨-, -, h⟩
  · omega
  · rw [h]; exact mt_le _ _ _
set_option maxHeartbeats 2000000 in
set_option maxRecDepth 20000 in
theorem longest_any (A : Option Addr) (n c : Nat) (bs : List Nat) (j mb : Nat) (w : World) (h : Bytes w A n c bs) (F : FM w mb j) (hj : j < n) (hn : n ≤ 20000) :
    Calls Try.prog 55 #[.map (some mb), .slice A n c, .int .i64 j] w fun e w' => ∃ best back : Nat, e = .returned (.tuple #[.int .i64 best, .int .i64 back]) ∧ LongR bs j best back ∧ Q w w' := by
  have hcap := h.cap
  have hmost := h.most
  have hni : (n : Int) ≤ 20000 := by omega
  have hji : (j : Int) < (n : Int) := by omega
  by_cases h3 : j + 3 ≤ n
  · have d0 : decide ((n : Int) < (j : Int) + 3) = false := decide_eq_false (by omega)
    obtain ⟨b, o, x, y, z, eA, hb, hx, hy, hz, c1, c2, c3⟩ := three_at h j h3
    subst eA
    have H := hide h
    have HF := hide F
    have hml := F.lt
    have i1 : (j : Int) + 3 ≤ (c : Int) := by omega
    have i2 : j + 3 ≤ c := by omega
    have hat : ∀ W, (Instr.arrayAt 92 (.slice (some ⟨b, o + j, none⟩) 3 (c - j))).run Try.prog W = .ok (.pointer (some ⟨b, o + j, none⟩)) W := fun W => run_arrayAt W 92 _ 3 _ 3 (c - j) Try.underlying92 (Nat.le_refl _)
    clear h F
    go_enter Try.func55, Try.ntmps55
    go_wp2_with (at_lookup; refine wpList_lookC rfl _ _ rfl rfl HF.out rfl hx hy hz ?_; rintro v ⟨p1, p2, p3, p4, ev, l1, l2, l3, l4⟩; rw [ev]; clear ev)
    clear hat c1 c2 c3 hx hy hz hml
    go_loopw [8, 9, 27] (fun vb vk vi wr => ∃ (i best back : Nat), i ≤ 4 ∧ vi = .int .i64 i ∧ vb = .int .i64 best ∧ vk = .int .i64 back ∧ best ≤ 130 ∧ LongR bs j best back ∧ Q w wr) (fun _ _ vi _ => 4 - (intOf vi).toNat)
    case atStart => exact ⟨0, 0, 0, by omega, by go_num, by go_num, by go_num, by omega, .inl ⟨rfl, rfl⟩, Q.refl _⟩
    case round =>
      obtain ⟨i, best, back, hi, rfl, rfl, rfl, hb130, hL, hq⟩ := hrel
      have HL := hide hL
      clear hL
      have hbi : (best : Int) ≤ 130 := by omega
      by_cases h4 : i = 4
      · subst h4
        go_wp2_with fail
        go_ret2
        exact ⟨best, back, rfl, HL.out, hq⟩
      · have h5 : i = 0 ∨ i = 1 ∨ i = 2 ∨ i = 3 := by omega
        rcases h5 with rfl | rfl | rfl | rfl
        · rcases p1 with _ | q
          · have hix := index_chain0 (.int .i64 0) (.int .i64 p2) (.int .i64 p3) (.int .i64 p4) rfl wr
            go_wp2_with fail
            go_ret2
            exact ⟨best, back, rfl, HL.out, hq⟩
          · have hp0 : (((q + 1 : Nat) : Int) == 0) = false := by simp; omega
            have hp1 : ((q + 1 : Nat) : Int) - 1 = (q : Int) := by omega
            obtain ⟨pp, epp⟩ : ∃ pp, pp = ((q + 1 : Nat) : Int) := ⟨_, rfl⟩
            rw [← epp] at hp0 hp1 ⊢
            have hix := index_chain0 (.int .i64 pp) (.int .i64 p2) (.int .i64 p3) (.int .i64 p4) rfl wr
            have hqj : q < j := by omega
            have hqi : (q : Int) < (j : Int) := by omega
            clear epp
            go_upto_region 9 with (go_at_call 58; refine (match_any _ n c bs q j wr (H.out.up hq) hqj (by omega) hn).mono ?_; rintro e w1 ⟨rfl, hq1⟩; have HQ1 := hide hq1; clear hq1)
            obtain ⟨M, hM⟩ : ∃ M, mt bs q j = M := ⟨_, rfl⟩
            have hM130 : M ≤ 130 := by rw [← hM]; exact mt_le _ _ _
            have hM130i : (M : Int) ≤ 130 := by omega
            have HM := hide hM
            rw [hM]
            clear hM
            by_cases hgt : best < M
            · have d9 : decide ((best : Int) < (M : Int)) = true := decide_eq_true (by omega)
              have hsub : (j : Int) - (q : Int) = ((j - q : Nat) : Int) := by omega
              go_wp2_with fail
              go_roundw
              case rel => exact ⟨0 + 1, M, j - q, by omega, by go_num, by go_num, by first | rfl | (rw [← hsub]; rfl) | go_num, hM130, .inr ⟨by omega, by omega, by rw [show j - (j - q) = q by omega]; exact HM.out.symm⟩, hq.trans HQ1.out⟩
              case measure => simp [intOf] <;> omega
            · have d9 : decide ((best : Int) < (M : Int)) = false := decide_eq_false (by omega)
              go_wp2_with fail
              go_roundw
              case rel => exact ⟨0 + 1, best, back, by omega, by go_num, by go_num, by go_num, hb130, HL.out, hq.trans HQ1.out⟩
              case measure => simp [intOf] <;> omega
        · rcases p2 with _ | q
          · have hix := index_chain1 (.int .i64 p1) (.int .i64 0) (.int .i64 p3) (.int .i64 p4) rfl wr
            go_wp2_with fail
            go_ret2
            exact ⟨best, back, rfl, HL.out, hq⟩
          · have hp0 : (((q + 1 : Nat) : Int) == 0) = false := by simp; omega
            have hp1 : ((q + 1 : Nat) : Int) - 1 = (q : Int) := by omega
            obtain ⟨pp, epp⟩ : ∃ pp, pp = ((q + 1 : Nat) : Int) := ⟨_, rfl⟩
            rw [← epp] at hp0 hp1 ⊢
            have hix := index_chain1 (.int .i64 p1) (.int .i64 pp) (.int .i64 p3) (.int .i64 p4) rfl wr
            have hqj : q < j := by omega
            have hqi : (q : Int) < (j : Int) := by omega
            clear epp
            go_upto_region 9 with (go_at_call 58; refine (match_any _ n c bs q j wr (H.out.up hq) hqj (by omega) hn).mono ?_; rintro e w1 ⟨rfl, hq1⟩; have HQ1 := hide hq1; clear hq1)
            obtain ⟨M, hM⟩ : ∃ M, mt bs q j = M := ⟨_, rfl⟩
            have hM130 : M ≤ 130 := by rw [← hM]; exact mt_le _ _ _
            have hM130i : (M : Int) ≤ 130 := by omega
            have HM := hide hM
            rw [hM]
            clear hM
            by_cases hgt : best < M
            · have d9 : decide ((best : Int) < (M : Int)) = true := decide_eq_true (by omega)
              have hsub : (j : Int) - (q : Int) = ((j - q : Nat) : Int) := by omega
              go_wp2_with fail
              go_roundw
              case rel => exact ⟨1 + 1, M, j - q, by omega, by go_num, by go_num, by first | rfl | (rw [← hsub]; rfl) | go_num, hM130, .inr ⟨by omega, by omega, by rw [show j - (j - q) = q by omega]; exact HM.out.symm⟩, hq.trans HQ1.out⟩
              case measure => simp [intOf] <;> omega
            · have d9 : decide ((best : Int) < (M : Int)) = false := decide_eq_false (by omega)
              go_wp2_with fail
              go_roundw
              case rel => exact ⟨1 + 1, best, back, by omega, by go_num, by go_num, by go_num, hb130, HL.out, hq.trans HQ1.out⟩
              case measure => simp [intOf] <;> omega
        · rcases p3 with _ | q
          · have hix := index_chain2 (.int .i64 p1) (.int .i64 p2) (.int .i64 0) (.int .i64 p4) rfl wr
            go_wp2_with fail
            go_ret2
            exact ⟨best, back, rfl, HL.out, hq⟩
          · have hp0 : (((q + 1 : Nat) : Int) == 0) = false := by simp; omega
            have hp1 : ((q + 1 : Nat) : Int) - 1 = (q : Int) := by omega
            obtain ⟨pp, epp⟩ : ∃ pp, pp = ((q + 1 : Nat) : Int) := ⟨_, rfl⟩
            rw [← epp] at hp0 hp1 ⊢
            have hix := index_chain2 (.int .i64 p1) (.int .i64 p2) (.int .i64 pp) (.int .i64 p4) rfl wr
            have hqj : q < j := by omega
            have hqi : (q : Int) < (j : Int) := by omega
            clear epp
            go_upto_region 9 with (go_at_call 58; refine (match_any _ n c bs q j wr (H.out.up hq) hqj (by omega) hn).mono ?_; rintro e w1 ⟨rfl, hq1⟩; have HQ1 := hide hq1; clear hq1)
            obtain ⟨M, hM⟩ : ∃ M, mt bs q j = M := ⟨_, rfl⟩
            have hM130 : M ≤ 130 := by rw [← hM]; exact mt_le _ _ _
            have hM130i : (M : Int) ≤ 130 := by omega
            have HM := hide hM
            rw [hM]
            clear hM
            by_cases hgt : best < M
            · have d9 : decide ((best : Int) < (M : Int)) = true := decide_eq_true (by omega)
              have hsub : (j : Int) - (q : Int) = ((j - q : Nat) : Int) := by omega
              go_wp2_with fail
              go_roundw
              case rel => exact ⟨2 + 1, M, j - q, by omega, by go_num, by go_num, by first | rfl | (rw [← hsub]; rfl) | go_num, hM130, .inr ⟨by omega, by omega, by rw [show j - (j - q) = q by omega]; exact HM.out.symm⟩, hq.trans HQ1.out⟩
              case measure => simp [intOf] <;> omega
            · have d9 : decide ((best : Int) < (M : Int)) = false := decide_eq_false (by omega)
              go_wp2_with fail
              go_roundw
              case rel => exact ⟨2 + 1, best, back, by omega, by go_num, by go_num, by go_num, hb130, HL.out, hq.trans HQ1.out⟩
              case measure => simp [intOf] <;> omega
        · rcases p4 with _ | q
          · have hix := index_chain3 (.int .i64 p1) (.int .i64 p2) (.int .i64 p3) (.int .i64 0) rfl wr
            go_wp2_with fail
            go_ret2
            exact ⟨best, back, rfl, HL.out, hq⟩
          · have hp0 : (((q + 1 : Nat) : Int) == 0) = false := by simp; omega
            have hp1 : ((q + 1 : Nat) : Int) - 1 = (q : Int) := by omega
            obtain ⟨pp, epp⟩ : ∃ pp, pp = ((q + 1 : Nat) : Int) := ⟨_, rfl⟩
            rw [← epp] at hp0 hp1 ⊢
            have hix := index_chain3 (.int .i64 p1) (.int .i64 p2) (.int .i64 p3) (.int .i64 pp) rfl wr
            have hqj : q < j := by omega
            have hqi : (q : Int) < (j : Int) := by omega
            clear epp
            go_upto_region 9 with (go_at_call 58; refine (match_any _ n c bs q j wr (H.out.up hq) hqj (by omega) hn).mono ?_; rintro e w1 ⟨rfl, hq1⟩; have HQ1 := hide hq1; clear hq1)
            obtain ⟨M, hM⟩ : ∃ M, mt bs q j = M := ⟨_, rfl⟩
            have hM130 : M ≤ 130 := by rw [← hM]; exact mt_le _ _ _
            have hM130i : (M : Int) ≤ 130 := by omega
            have HM := hide hM
            rw [hM]
            clear hM
            by_cases hgt : best < M
            · have d9 : decide ((best : Int) < (M : Int)) = true := decide_eq_true (by omega)
              have hsub : (j : Int) - (q : Int) = ((j - q : Nat) : Int) := by omega
              go_wp2_with fail
              go_roundw
              case rel => exact ⟨3 + 1, M, j - q, by omega, by go_num, by go_num, by first | rfl | (rw [← hsub]; rfl) | go_num, hM130, .inr ⟨by omega, by omega, by rw [show j - (j - q) = q by omega]; exact HM.out.symm⟩, hq.trans HQ1.out⟩
              case measure => simp [intOf] <;> omega
            · have d9 : decide ((best : Int) < (M : Int)) = false := decide_eq_false (by omega)
              go_wp2_with fail
              go_roundw
              case rel => exact ⟨3 + 1, best, back, by omega, by go_num, by go_num, by go_num, hb130, HL.out, hq.trans HQ1.out⟩
              case measure => simp [intOf] <;> omega
  · have d0 : decide ((n : Int) < (j : Int) + 3) = true := decide_eq_true (by omega)
    clear h F
    go_enter Try.func55, Try.ntmps55
    go_wp2_with fail
    go_ret2
    exact ⟨0, 0, rfl, .inl ⟨rfl, rfl⟩, Q.refl _⟩
end Go.Proofs.Ytfiopjgpokdnoaa
