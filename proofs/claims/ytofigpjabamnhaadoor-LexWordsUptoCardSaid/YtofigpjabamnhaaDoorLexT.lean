/- The walks of the reference's tokens and Lex. Conditions: the text is not immense. -/
import Derived.Test.YtofigpjabamnhaaDoorLexS
namespace Go.Proofs.YtofigpjabamnhaaDoor
open Go.RowKit LX
set_option linter.unusedVariables false
def RTPost (w : World) (s : ByteArray) (r : List Tok × Option Nat) (e : Ending) (w' : World) : Prop :=
  (r.2 = none ∧ ∃ v, e = .returned (.tuple #[v, .int .i64 0, .bool true]) ∧ w'.ownsRow w.heap.size 39 3 v r.1.length (tflat s r.1) ∧ Q w w') ∨
  (∃ p : Nat, r.2 = some p ∧ e = .returned (.tuple #[.slice none 0 0, .int .i64 (p : Nat), .bool false]) ∧ Q w w')
set_option maxHeartbeats 1000000 in
theorem rtokens_any (s : ByteArray) (w : World) (hs : s.size ≤ 100000000000) : Calls Tryd.prog 16 #[.string s] w (RTPost w s (toksF (nat s))) := by
  have hsi : (s.size : Int) ≤ 100000000000 := by omega
  go_enter Tryd.func16, Tryd.ntmps16
  go_wp2_with fail
  go_loopw [5, 6] (fun v q wr => ∃ (pre : List Tok) (k f : Nat), q = .int .i64 (k : Nat) ∧ k ≤ s.size ∧ (toksF (nat s)).1 = pre ++ (toks f ((nat s).drop k) k).1 ∧ (toksF (nat s)).2 = (toks f ((nat s).drop k) k).2 ∧ s.size - k < f ∧ pre.length ≤ k ∧
      wr.ownsRow w.heap.size 39 3 v pre.length (tflat s pre) ∧ Q w wr) (fun _ q _ => s.size - (intOf q).toNat)
  case atStart => exact ⟨[], 0, s.size + 1, by go_num, by omega, by rw [List.drop_zero]; unfold toksF; rw [nat_length]; rfl, by rw [List.drop_zero]; unfold toksF; rw [nat_length], by omega, by simp, World.ownsRow_nil _ _ _ _, Q.refl _⟩
  case round =>
    obtain ⟨pre, k, f, rfl, hk, hx1, hx2, hf, hpl, hown, hq⟩ := hrel
    have hki : (k : Int) ≤ (s.size : Int) := by omega
    have hdl : ((nat s).drop k).length = s.size - k := by rw [List.length_drop, nat_length]
    have hsz := hq.size
    have X1 := hide hx1
    have X2 := hide hx2
    have HDL := hide hdl
    clear hx1 hx2 hdl
    by_cases hlt : k < s.size
    · have hg := nat_get s k hlt
      have hg0 : ((nat s).drop k).getD 0 0 = s[k].toNat := by rw [List.getD_eq_getElem?_getD, List.getElem?_drop, Nat.add_zero, hg]; rfl
      have h256 : s[k].toNat < 256 := s[k].toNat_lt
      have hlti : (k : Int) < (s.size : Int) := by omega
      have hd0 : decide (k < s.size) = true := by simpa using hlt
      have HG0 := hide hg0
      have hcb : clsN s[k].toNat = 1 ↔ s[k].toNat = 32 ∨ s[k].toNat = 10 := by
        unfold clsN
        repeat' split
        all_goals omega
      have HCB := hide hcb
      clear hg hg0 hcb
      by_cases hbl : clsN s[k].toNat = 1
      · have hst := toks_blank (f := f) (l := (nat s).drop k) (p := k) (by rw [HDL.out]; omega) (by rw [HDL.out]; omega) (by rw [HG0.out]; exact hbl)
        rw [List.drop_drop] at hst
        have HST := hide hst
        have h32 := HCB.out.1 hbl
        clear hst hbl
        by_cases e32 : s[k].toNat = 32
        · have d1 : ((s[k].toNat : Int) == 32) = true := by rw [e32]; rfl
          clear e32 h32
          go_wp2_with fail
          go_roundw
          case rel => exact ⟨pre, k + 1, f - 1, by go_num, by omega, by rw [X1.out, HST.out], by rw [X2.out, HST.out], by omega, by omega, hown, hq⟩
          case measure => simp [intOf] <;> omega
        · have d1 : ((s[k].toNat : Int) == 32) = false := by simp; omega
          have d2 : ((s[k].toNat : Int) == 10) = true := by simp; omega
          clear e32 h32
          go_wp2_with fail
          go_roundw
          case rel => exact ⟨pre, k + 1, f - 1, by go_num, by omega, by rw [X1.out, HST.out], by rw [X2.out, HST.out], by omega, by omega, hown, hq⟩
          case measure => simp [intOf] <;> omega
      · have hc1 : clsN (((nat s).drop k).getD 0 0) ≠ 1 := by rw [HG0.out]; exact hbl
        have htn := toks_none (f := f) (l := (nat s).drop k) (p := k) (by rw [HDL.out]; omega) (by rw [HDL.out]; omega) hc1
        have htt := toks_tok (f := f) (l := (nat s).drop k) (p := k) (by rw [HDL.out]; omega) (by rw [HDL.out]; omega) hc1
        have hfl := firstL_le ((nat s).drop k)
        rw [HDL.out] at hfl
        have hfk := firstL_kind ((nat s).drop k)
        have hn32 : ¬ (s[k].toNat = 32 ∨ s[k].toNat = 10) := fun h => hbl (HCB.out.2 h)
        have d1 : ((s[k].toNat : Int) == 32) = false := by simp; omega
        have d2 : ((s[k].toNat : Int) == 10) = false := by simp; omega
        have hfa := rfirst_any s k
        obtain ⟨R, hR⟩ : ∃ R, firstL ((nat s).drop k) = R := ⟨_, rfl⟩
        rw [hR] at hfl hfk htn htt
        rw [List.drop_drop] at htt
        obtain ⟨fk, fn⟩ := R
        dsimp only at hfl hfk htn htt
        have HTN := hide htn
        have HTT := hide htt
        have HFA := hide hfa
        have HR := hide hR
        have hfni : (k : Int) + (fn : Int) ≤ (s.size : Int) := by omega
        clear hc1 htn htt hn32 hfa hR hbl
        by_cases hf0 : fn = 0
        · have hv := rfV_none (l := (nat s).drop k) (p := k) (by
            have h1 := firstL_zero (l := (nat s).drop k) (by rw [HR.out]; exact hf0)
            rw [HR.out] at h1 ⊢
            simp only at h1
            rw [h1, hf0])
          have HV := hide hv
          have hx2 := X2.out
          rw [HTN.out hf0] at hx2
          have HX2 := hide hx2
          clear hv hx2
          go_wp2_with fail
          refine (HFA.out _ (by omega) hlt).mono ?_
          rintro e w1 ⟨rfl, hq1⟩
          rw [HV.out]
          have hq2 := hq.trans hq1
          go_wp2_with fail
          go_ret3
          exact .inr ⟨k, HX2.out, rfl, hq2⟩
        · have hv := rfV_some (p := k) HR.out hf0
          have HV := hide hv
          clear hv
          go_wp2_with fail
          refine (HFA.out _ (by omega) hlt).mono ?_
          rintro e w1 ⟨rfl, hq1⟩
          rw [HV.out]
          have hq2 := hq.trans hq1
          have hown2 := own_q hown hq1
          have hsz2 := hq2.size
          clear hown
          go_wp2_with (at_builtin; refine wpList_app1 rfl El_tok _ _ rfl rfl hown2 (by simp) rfl rfl ?_ ?_ ?_ ?_; (focus (simp [Value.oneCell'])); (focus omega); (focus omega); intro v1 w2 hown3 hb3)
          go_roundw
          case rel =>
            refine ⟨pre ++ [(fk, k, fn)], k + fn, f - 1, by go_num, by omega, by rw [X1.out, HTT.out hf0]; simp, by rw [X2.out, HTT.out hf0], by omega, by simp; omega, ?_, q_below hq2 hb3 (Nat.le_refl _)⟩
            rw [tflat_snoc, List.length_append]
            exact hown3
          case measure => simp [intOf] <;> omega
    · have ek : k = s.size := by omega
      have hd0 : decide (k < s.size) = false := by simpa using hlt
      have hx1 := X1.out
      have hx2 := X2.out
      rw [toks_end (by rw [HDL.out]; omega)] at hx1 hx2
      have HX1 := hide hx1
      have HX2 := hide hx2
      clear hx1 hx2
      obtain ⟨Ao, co, rfl, ho1, ho2, ho3, -⟩ := own_form hown
      clear ho3
      go_wp2_with fail
      go_ret3
      exact .inl ⟨HX2.out, _, rfl, by rw [HX1.out]; simpa using hown, hq⟩
end Go.Proofs.YtofigpjabamnhaaDoor
