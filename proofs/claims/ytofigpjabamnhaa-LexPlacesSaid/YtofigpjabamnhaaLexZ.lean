/- The walks of strings.Count and strings.LastIndex at a line's end, and of Where, of the program and of the reference. Conditions: the text is not immense. -/
import Derived.Test.YtofigpjabamnhaaLexK
import Derived.Lib.Bytealg
namespace Go.Proofs.Ytofigpjabamnhaa
open Go.RowKit LX
set_option linter.unusedVariables false
/-- the last place before k at which a list has the number c, or -1 -/
def lastL (l : List Nat) (c : Nat) : Nat → Int
  | 0 => -1
  | k + 1 => if l.getD k 0 = c then (k : Int) else lastL l c k
theorem lastL_range (l : List Nat) (c : Nat) : ∀ k, -1 ≤ lastL l c k ∧ lastL l c k < (k : Int)
  | 0 => by simp [lastL]
  | k + 1 => by
    have := lastL_range l c k
    unfold lastL
    split <;> omega
theorem lastL_take (l : List Nat) (c p : Nat) : ∀ k, k ≤ p → lastL (l.take p) c k = lastL l c k
  | 0, _ => rfl
  | k + 1, h => by
    unfold lastL
    rw [lastL_take l c p k (by omega), List.getD_eq_getElem?_getD, List.getD_eq_getElem?_getD, List.getElem?_take_of_lt (by omega)]
theorem nat_getD (s : ByteArray) (k : Nat) (h : k < s.size) : (nat s).getD k 0 = s[k].toNat := by rw [List.getD_eq_getElem?_getD, nat_get s k h]; rfl
theorem lastB_any (s : ByteArray) (c : Nat) (w : World) (hs : s.size ≤ 6000) :
    Calls Try.prog 51 #[.string s, .int .u8 (c : Nat)] w fun e w' => e = .returned (.int .i64 (lastL (nat s) c s.size)) ∧ Q w w' := by
  have hsi : (s.size : Int) ≤ 6000 := by omega
  go_enter Try.func51, Try.ntmps51
  go_wp2_with fail
  go_loopw [5] (fun v wr => ∃ k : Nat, k ≤ s.size ∧ v = .int .i64 ((k : Int) - 1) ∧ lastL (nat s) c s.size = lastL (nat s) c k ∧ Q w wr) (fun v _ => ((intOf v) + 1).toNat)
  case atStart => exact ⟨s.size, Nat.le_refl _, by go_num, rfl, Q.refl _⟩
  case round =>
    obtain ⟨k, hk, rfl, hl, hq⟩ := hrel
    have HL := hide hl
    clear hl
    rcases k with _ | k
    · have e0 : ((0 : Nat) : Int) - 1 = -1 := by decide
      have d1 : decide ((0 : Int) ≤ -1) = false := by decide
      rw [e0]
      clear e0
      have hl := HL.out
      rw [show lastL (nat s) c 0 = -1 from rfl] at hl
      have HL2 := hide hl
      clear hl
      go_wp2_with fail
      go_ret
      exact ⟨by rw [HL2.out]; rfl, hq⟩
    · have e1 : ((k + 1 : Nat) : Int) - 1 = (k : Int) := by omega
      have hki : (k : Int) < (s.size : Int) := by omega
      have hg := nat_getD s k (by omega)
      have h256 : s[k].toNat < 256 := s[k].toNat_lt
      rw [e1]
      by_cases hc : s[k].toNat = c
      · have d2 : ((s[k].toNat : Int) == (c : Int)) = true := by simp; omega
        have hl := HL.out
        rw [show lastL (nat s) c (k + 1) = (k : Int) from by unfold lastL; rw [if_pos (by rw [hg]; exact hc)]] at hl
        have HL2 := hide hl
        clear hl hg hc
        go_wp2_with fail
        go_ret
        exact ⟨by rw [HL2.out]; rfl, hq⟩
      · have d2 : ((s[k].toNat : Int) == (c : Int)) = false := by simp; omega
        have hl := HL.out
        rw [show lastL (nat s) c (k + 1) = lastL (nat s) c k from by rw [lastL, if_neg (by rw [hg]; exact hc)]] at hl
        have HL2 := hide hl
        clear hl hg hc
        go_wp2_with fail
        go_roundw
        case rel => exact ⟨k, by omega, by go_num, HL2.out, hq⟩
        case measure => simp [intOf] <;> omega
theorem LastIndex_any (s : ByteArray) (w : World) (hs : s.size ≤ 6000) :
    Calls Try.prog 40 #[.string s, .string ⟨#[10]⟩] w fun e w' => e = .returned (.int .i64 (lastL (nat s) 10 s.size)) ∧ Q w w' := by
  go_enter Try.func40, Try.ntmps40
  go_wp2_with fail
  refine (lastB_any s 10 _ hs).mono ?_
  rintro e w1 ⟨rfl, hq⟩
  go_wp2_with fail
  go_ret
  exact ⟨rfl, hq⟩
theorem count_nat (l : List UInt8) (c : UInt8) : l.count c = (l.map UInt8.toNat).count c.toNat := by
  induction l with
  | nil => rfl
  | cons a l ih =>
    rw [List.map_cons, List.count_cons, List.count_cons, ih]
    congr 1
    by_cases h : a = c
    · subst h; simp
    · have : ¬ a.toNat = c.toNat := fun e => h (UInt8.toNat_inj.1 e)
      simp [h, this]
theorem Count_any (s : ByteArray) (w : World) :
    Calls Try.prog 39 #[.string s, .string ⟨#[10]⟩] w fun e w' => e = .returned (.int .i64 ((nat s).count 10 : Nat)) ∧ Q w w' := by
  go_enter Try.func39, Try.ntmps39
  go_wp2_with fail
  rw [run_callFunc_extern Try.func49 (by kernel_rfl) (by kernel_rfl) (by kernel_rfl) (e := Extern.BytealgCount.count) (by kernel_rfl), Lib.run_countString]
  simp only [Result.andThen]
  rw [Oper.upon_value]
  go_wp2_with fail
  go_ret
  refine ⟨?_, Q.refl _⟩
  unfold Lib.countByte
  rw [count_nat]
  rfl
end Go.Proofs.Ytofigpjabamnhaa
