/- The walks of the small functions of Text and Parse. Conditions: as each theorem says. -/
import Derived.Test.YtcjljmegppnlcaaDoorNumTb
namespace Go.Proofs.YtcjljmegppnlcaaDoor
open Go.RowKit NP
set_option linter.unusedVariables false
theorem ext01 (c : UInt8) (r : List UInt8) : (⟨(c :: r).toArray⟩ : ByteArray).extract 0 1 = ⟨#[c]⟩ := by
  apply ByteArray.ext
  rw [ByteArray.data_extract]
  simp
theorem ext1 (c : UInt8) (r : List UInt8) : (⟨(c :: r).toArray⟩ : ByteArray).extract 1 (r.length + 1) = ⟨r.toArray⟩ := by
  apply ByteArray.ext
  rw [ByteArray.data_extract]
  simp
def strB (l : List UInt8) : ByteArray := ⟨l.toArray⟩
theorem strB_size (l : List UInt8) : (strB l).size = l.length := by
  show l.toArray.size = l.length
  simp
theorem toList_strB (l : List UInt8) : (strB l).data.toList = l := by simp [strB]
theorem idx_D : ∀ b : Nat, b < 17 → ∀ c : Nat, c < 256 → Lib.indexByte ((⟨#[48, 49, 50, 51, 52, 53, 54, 55, 56, 57, 97, 98, 99, 100, 101, 102]⟩ : ByteArray).extract 0 b).data.toList c.toUInt8 = if valN c.toUInt8 < b then ((valN c.toUInt8 : Nat) : Int) else -1 := by decide +kernel
theorem trim_neg (r : List UInt8) (hr : r.length + 1 ≤ 9223372036854775807) (w : World) : Calls Tryd.prog 20 #[.string (strB (45 :: r)), .string ⟨#[45]⟩] w fun e w' => e = .returned (.string (strB r)) ∧ Q w w' := by
  obtain ⟨S, hS⟩ : ∃ S, strB (45 :: r) = S := ⟨_, rfl⟩
  have hsz : S.size = r.length + 1 := by rw [← hS, strB_size]; rfl
  have h01 : S.extract 0 1 = ⟨#[45]⟩ := by rw [← hS]; exact ext01 45 r
  have h1 : S.extract 1 S.size = strB r := by rw [hsz, ← hS]; exact ext1 45 r
  have hpos : (1 : Int) ≤ (S.size : Int) := by omega
  have hposn : 1 ≤ S.size := by omega
  have hm : S.size ≤ 9223372036854775807 := by omega
  have hp1 : (⟨#[45]⟩ : ByteArray).size = 1 := rfl
  have d1 : decide ((1 : Int) ≤ (S.size : Int)) = true := by simp; omega
  have d1n : decide (1 ≤ S.size) = true := by simp; omega
  rw [hS]
  clear hS hsz
  go_enter Tryd.func20, Tryd.ntmps20
  go_wp2_with fail
  go_enter Tryd.func27, Tryd.ntmps27
  go_wp2_with fail
  go_enter Tryd.func36, Tryd.ntmps36
  go_wp2_with fail
  go_ret
  exact ⟨rfl, Q.refl _⟩
theorem trim_nil (w : World) : Calls Tryd.prog 20 #[.string (strB []), .string ⟨#[45]⟩] w fun e w' => e = .returned (.string (strB [])) ∧ Q w w' := by
  obtain ⟨S, hS⟩ : ∃ S, strB [] = S := ⟨_, rfl⟩
  have hsz : S.size = 0 := by rw [← hS]; rfl
  have hp1 : (⟨#[45]⟩ : ByteArray).size = 1 := rfl
  rw [hS]
  clear hS
  go_enter Tryd.func20, Tryd.ntmps20
  go_wp2_with fail
  go_enter Tryd.func27, Tryd.ntmps27
  go_wp2_with fail
  go_enter Tryd.func36, Tryd.ntmps36
  go_wp2_with fail
  go_ret
  exact ⟨rfl, Q.refl _⟩
theorem trim_pos (c : UInt8) (hc : c ≠ 45) (r : List UInt8) (hr : r.length + 1 ≤ 9223372036854775807) (w : World) : Calls Tryd.prog 20 #[.string (strB (c :: r)), .string ⟨#[45]⟩] w fun e w' => e = .returned (.string (strB (c :: r))) ∧ Q w w' := by
  obtain ⟨S, hS⟩ : ∃ S, strB (c :: r) = S := ⟨_, rfl⟩
  have hsz : S.size = r.length + 1 := by rw [← hS, strB_size]; rfl
  have h01 : S.extract 0 1 = ⟨#[c]⟩ := by rw [← hS]; exact ext01 c r
  have hpos : (1 : Int) ≤ (S.size : Int) := by omega
  have hposn : 1 ≤ S.size := by omega
  have hm : S.size ≤ 9223372036854775807 := by omega
  have hp1 : (⟨#[45]⟩ : ByteArray).size = 1 := rfl
  have d1 : decide ((1 : Int) ≤ (S.size : Int)) = true := by simp; omega
  have d1n : decide (1 ≤ S.size) = true := by simp; omega
  obtain ⟨T, hT⟩ : ∃ T : ByteArray, (⟨#[c]⟩ : ByteArray) = T := ⟨_, rfl⟩
  have hb : (T.toList == [45]) = false := by
    have e1 : T.toList = [c] := by rw [← hT, Lib.toList_data]
    rw [e1, beq_eq_false_iff_ne]
    intro e
    exact hc (by simpa using e)
  rw [hT] at h01
  rw [hS]
  clear hS hsz hT
  go_enter Tryd.func20, Tryd.ntmps20
  go_wp2_with fail
  go_enter Tryd.func27, Tryd.ntmps27
  go_wp2_with fail
  go_enter Tryd.func36, Tryd.ntmps36
  go_wp2_with fail
  go_ret
  exact ⟨rfl, Q.refl _⟩
end Go.Proofs.YtcjljmegppnlcaaDoor
