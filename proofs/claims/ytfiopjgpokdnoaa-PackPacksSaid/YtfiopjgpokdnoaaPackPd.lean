/- Bytes that stand for themselves as items: the program's plain, walked. Conditions: the slice reads as bytes. -/
import Derived.Test.YtfiopjgpokdnoaaPackPb
import Derived.Test.YtfiopjgpokdnoaaPackV
import Derived.Test.YtfiopjgpokdnoaaStepB
namespace Go.Proofs.Ytfiopjgpokdnoaa
open Go.RowKit PP
set_option linter.unusedVariables false
set_option linter.unusedSimpArgs false
theorem El_byte : El Try.prog 22 5 1 1 := El.of (z := .int .u8 0) Try.underlying22 (by kernel_rfl) rfl (by decide) (by decide)
theorem bytes_cell (bs : List Nat) : ∀ u ∈ bs.map byteV, u.oneCell' = true := fun u hu => by
  simp only [List.mem_map] at hu
  obtain ⟨x, _, rfl⟩ := hu
  rfl
set_option maxHeartbeats 4000000 in
set_option maxRecDepth 100000 in
theorem plain_any (A : Option Addr) (n c : Nat) (bs : List Nat) (w : World) (h : Bytes w A n c bs) (hN : A = none → n = 0 ∧ c = 0) (hn : n ≤ 20000) :
    Calls Try.prog 57 #[.slice A n c] w fun e w' => ∃ v, e = .returned v ∧ w'.ownsRow w.heap.size 5 1 v (plainF bs).length ((plainF bs).map byteV) ∧ Q w w' := by
  obtain ⟨hr, hl, hs, hc1, hc2⟩ := h
  subst hl
  have HS := hide hs
  clear hs
  have hlen : (bs.length : Int) ≤ 20000 := by omega
  go_enter Try.func57, Try.ntmps57
  go_wp2_with fail
  go_loopw [0, 3, 4] (fun b v _ wr => ∃ (rest out : List Nat) (c' : Nat) (A' : Option Addr), b = .slice A' rest.length c' ∧ rest.length ≤ c' ∧ c' ≤ 9223372036854775807 ∧ Rd w w.heap.size A' (rest.map byteV) ∧ (A' = none → rest.length = 0 ∧ c' = 0) ∧
      rest.length ≤ bs.length ∧ out ++ plainF rest = plainF bs ∧ wr.ownsRow w.heap.size 5 1 v out.length (out.map byteV) ∧ Q w wr) (fun b _ _ _ => lenOf b)
  case atStart => exact ⟨bs, [], c, A, rfl, hc1, hc2, hr, hN, Nat.le_refl _, rfl, World.ownsRow_nil _ _ _ _, Q.refl _⟩
  case round =>
    obtain ⟨rest, out, c', A', rfl, hc1', hc2', hr', hA', hlr, hit, hown, hq⟩ := hrel
    have hrw := hr'.q hq (Nat.le_refl _)
    have hsz := hq.size
    have hpl := plain_len bs.length bs (Nat.le_refl _)
    have hol : out.length ≤ 30000 := by
      have := congrArg List.length hit
      rw [List.length_append] at this
      rw [hpl] at this
      omega
    by_cases h0 : rest.length = 0
    · have h0' : decide ((0 : Int) < (rest.length : Int)) = false := decide_eq_false (by omega)
      have HR : Hid (out = plainF bs) := by
        have e : rest = [] := List.eq_nil_of_length_eq_zero h0
        rw [e, plainF_nil, List.append_nil] at hit
        exact hit
      clear hit hpl hrw
      have HO := hide hown
      clear hown
      go_wp2_with fail
      go_ret
      exact ⟨_, rfl, by rw [← HR.out]; exact HO.out, hq⟩
    · have h0' : decide ((0 : Int) < (rest.length : Int)) = true := decide_eq_true (by omega)
      obtain ⟨m, hm⟩ : ∃ m, m = min rest.length 128 := ⟨_, rfl⟩
      have HSTEP : Hid (plainF rest = (m - 1) :: (rest.take m ++ plainF (rest.drop m))) := by rw [hm]; exact plainF_step h0
      have hmi : (if 128 < (rest.length : Int) then 128 else (rest.length : Int)) = (m : Int) := by split <;> omega
      have hm1 : (m : Int) ≤ (rest.length : Int) := by omega
      have hm2 : (m : Int) ≤ 128 := by omega
      have hm3 : (1 : Int) ≤ (m : Int) := by omega
      have hm4 : m ≤ rest.length := by omega
      have hmc : (m : Int) ≤ (c' : Int) := by omega
      have hmc2 : m ≤ c' := by omega
      have hm0 : (0 : Int) ≤ (m : Int) := by omega
      obtain ⟨bb, ob, eA, hbb, hcl⟩ := hrw.at_ (by simp; omega)
      subst eA
      have HTK : Hid (Rd wr w.heap.size (some ⟨bb, ob, none⟩) ((rest.take m).map byteV)) := by
        have := hrw.take m
        rw [← List.map_take] at this
        exact this
      have HTL : Hid (((rest.take m).map byteV).length = m) := by rw [List.length_map, List.length_take]; exact Nat.min_eq_left hm4
      have hrd2 := hr'.dropAt m
      have HRD := hide hrd2
      clear hm hpl hcl hrw hrd2 hr' hA'
      have HIT := hide hit
      obtain ⟨Ao, co, eo, -⟩ := own_form hown
      subst eo
      have HO := hide hown
      have hw8 : IntKind.u8.wrap (IntKind.i64.wrap ((m : Int) - 1)) = ((m - 1 : Nat) : Int) := by
        have : (((m - 1 : Nat) : Int)) = (m : Int) - 1 := by omega
        rw [this]
        clear this
        simp [IntKind.wrap, IntKind.bits, IntKind.signed]
        omega
      clear hit hown
      go_upto_region 4 with fail
      go_region_law (first
        | (refine step_app1d (by rfl) El_byte _ _ (by rfl) (by rfl) HO.out rfl (by rfl) (by rfl) ?_ ?_ ?_ ?_; (focus (intro u hu; simp at hu; subst hu; rfl)); (focus omega); (focus (omega)); intro v7 w7 hown7 hb7)
        | (refine step_apps (by rfl) El_byte _ _ (by rfl) (by rfl) hown7 (by rfl) (by rw [HTL.out]; omega) (HTK.out.below hb7) (bytes_cell _) ?_ ?_ ?_; (focus omega); (focus (have := hb7.size; omega)); intro v8 w8 hown8 hb8))
      all_goals (
        have hq8 : Q w w8 := hq.below.trans (hb7.trans hb8)
        clear hb7 hb8 hown7
        go_wp2_with fail
        go_roundw
        case rel =>
          have hdl : (rest.drop m).length = rest.length - m := List.length_drop
          refine ⟨rest.drop m, out ++ ((m - 1) :: rest.take m), c' - m, _, by rw [hdl], by rw [hdl]; omega, by omega, ?_, ?_, by rw [hdl]; omega, ?_, ?_, hq8⟩
          · split
            · have : rest.drop m = [] := List.drop_of_length_le (by omega)
              rw [this]
              exact Rd.nil _ _ _
            · rw [List.map_drop]; exact HRD.out
          · intro e
            split at e <;> cases e
          · rw [← HIT.out, HSTEP.out, List.append_assoc, List.cons_append]
          · have e : (out ++ ((m - 1) :: rest.take m)).map byteV = out.map byteV ++ #[Value.int .u8 ((m - 1 : Nat) : Int)].toList ++ (rest.take m).map byteV := by simp [byteV]
            have e2 : (out ++ ((m - 1) :: rest.take m)).length = out.length + 1 + m := by
              have := HTL.out
              rw [List.length_map] at this
              rw [List.length_append, List.length_cons, this]
              omega
            rw [e, e2]
            exact hown8
        case measure => simp [lenOf]; omega)
end Go.Proofs.Ytfiopjgpokdnoaa
