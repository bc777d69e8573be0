/- The walk of the law's Long: too many tokens, or too long ones. Conditions: no text is immense. -/
import Derived.Test.YtofigpjabamnhaaLexK
namespace Go.Proofs.Ytofigpjabamnhaa
open Go.RowKit LX
set_option linter.unusedVariables false
/-- the texts' bytes together -/
def sumG (ks : List G) : Nat := (ks.map fun g => g.2.2.size).sum
theorem sumG_append (a b : List G) : sumG (a ++ b) = sumG a + sumG b := by simp [sumG]
theorem sumG_step (ks : List G) (i : Nat) (g : G) (h : ks[i]? = some g) : sumG (ks.take (i + 1)) = sumG (ks.take i) + g.2.2.size := by
  rw [List.take_add_one, h, sumG_append]
  simp [sumG]
theorem sumG_mem {ks : List G} {g : G} (h : g ∈ ks) : g.2.2.size ≤ sumG ks := by
  induction ks with
  | nil => cases h
  | cons a r ih =>
    have e : sumG (a :: r) = a.2.2.size + sumG r := by simp [sumG]
    rcases List.mem_cons.1 h with rfl | h
    · omega
    · have := ih h
      omega
set_option maxHeartbeats 1000000 in
theorem Long_few (A : Option Addr) (n c : Nat) (ks : List G) (w : World) (hG : GToks w A n c ks) (hn : n ≤ 1200) (hb : ∀ g ∈ ks, g.2.2.size ≤ 140737488351232) :
    Calls Try.prog 21 #[.slice A n c] w fun e w' => e = .returned (.bool (decide (6000 < sumG ks))) ∧ Q w w' := by
  have hlen := hG.len
  have HG := hide hG
  have HBD := hide hb
  have HLEN := hide hlen
  clear hG hb hlen
  have hni : (n : Int) ≤ 1200 := by omega
  obtain ⟨bb, hbb⟩ : ∃ b, decide (6000 < sumG ks) = b := ⟨_, rfl⟩
  rw [hbb]
  have HBB := hide hbb
  clear hbb
  go_enter Try.func21, Try.ntmps21
  go_wp2_with fail
  go_loopw [3, 4] (fun vn v wr => ∃ (i S : Nat), i ≤ n ∧ S ≤ i * 140737488351232 ∧ S = sumG (ks.take i) ∧ vn = .int .i64 S ∧ v = .int .i64 i ∧ Q w wr) (fun _ v _ => n - (intOf v).toNat)
  case atStart => exact ⟨0, 0, by omega, by omega, by simp [sumG], by go_num, by go_num, Q.refl _⟩
  case round =>
    obtain ⟨i, S, hi, hS, hS', rfl, rfl, hq⟩ := hrel
    have HS := hide hS'
    clear hS'
    have hii : (i : Int) ≤ (n : Int) := by omega
    have hSi : (S : Int) ≤ 168884986021478400 := by omega
    have hsz := hq.size
    by_cases hlt : i < n
    · have hd0 : decide (i < n) = true := by simpa using hlt
      have hd1 : decide ((i : Int) < (n : Int)) = true := by simpa using hlt
      have hlti : (i : Int) < (n : Int) := by omega
      obtain ⟨b1, o1, k1, a1, t1, rfl, hb1, g1, x1, x2, x3⟩ := (HG.out.up hq).at_ i hlt
      have hbd := HBD.out _ (List.mem_of_getElem? g1)
      dsimp only at hbd
      have hbi : (t1.size : Int) ≤ 140737488351232 := by omega
      have st := sumG_step ks i _ g1
      rw [← HS.out] at st
      dsimp only at st
      have ST := hide st
      clear g1 st
      go_wp2_with fail
      go_roundw
      case rel => exact ⟨i + 1, S + t1.size, by omega, by omega, ST.out.symm, by go_num, by go_num, hq⟩
      case measure => simp [intOf] <;> omega
    · have hd0 : decide (i < n) = false := by simpa using hlt
      have hd1 : decide ((i : Int) < (n : Int)) = false := by simpa using hlt
      have d1 : decide (1200 < (n : Int)) = false := by simp; omega
      have d3 : decide (1200 < n) = false := by simp; omega
      have hS2 : S = sumG ks := by rw [HS.out, List.take_of_length_le (by have := HLEN.out; omega)]
      have d2 : decide (6000 < (S : Int)) = bb := by rw [← HBB.out, ← hS2]; exact decide_eq_decide.2 (by omega)
      have d4 : decide (6000 < S) = bb := by rw [← HBB.out, ← hS2]
      clear hS2
      go_wp2_with fail
      go_ret
      exact ⟨rfl, hq⟩
theorem Long_many (A : Option Addr) (n c : Nat) (ks : List G) (w : World) (hG : GToks w A n c ks) (hn : 1200 < n) (hb : ∀ g ∈ ks, g.2.2.size ≤ 140737488351232) :
    Calls Try.prog 21 #[.slice A n c] w fun e w' => e = .returned (.bool true) ∧ Q w w' := by
  have hlen := hG.len
  have hm := hG.most
  have HG := hide hG
  have HBD := hide hb
  have HLEN := hide hlen
  clear hG hb hlen
  have hni : (n : Int) ≤ 4611686018427387903 := by omega
  have d1 : decide (1200 < (n : Int)) = true := by simp; omega
  have d3 : decide (1200 < n) = true := by simp; omega
  go_enter Try.func21, Try.ntmps21
  go_wp2_with fail
  go_loopw [3, 4] (fun vn v wr => ∃ (i : Nat) (S : Int), i ≤ n ∧ vn = .int .i64 S ∧ v = .int .i64 i ∧ Q w wr) (fun _ v _ => n - (intOf v).toNat)
  case atStart => exact ⟨0, 0, by omega, by go_num, by go_num, Q.refl _⟩
  case round =>
    obtain ⟨i, S, hi, rfl, rfl, hq⟩ := hrel
    have hii : (i : Int) ≤ (n : Int) := by omega
    have hsz := hq.size
    by_cases hlt : i < n
    · have hd0 : decide (i < n) = true := by simpa using hlt
      have hd1 : decide ((i : Int) < (n : Int)) = true := by simpa using hlt
      have hlti : (i : Int) < (n : Int) := by omega
      obtain ⟨b1, o1, k1, a1, t1, rfl, hb1, g1, x1, x2, x3⟩ := (HG.out.up hq).at_ i hlt
      have hbd := HBD.out _ (List.mem_of_getElem? g1)
      dsimp only at hbd
      have hbi : (t1.size : Int) ≤ 140737488351232 := by omega
      clear g1
      go_wp2_with fail
      go_roundw
      case rel => exact ⟨i + 1, _, by omega, rfl, by go_num, hq⟩
      case measure => simp [intOf] <;> omega
    · have hd0 : decide (i < n) = false := by simpa using hlt
      have hd1 : decide ((i : Int) < (n : Int)) = false := by simpa using hlt
      go_wp2_with fail
      go_ret
      exact ⟨rfl, hq⟩
end Go.Proofs.Ytofigpjabamnhaa
