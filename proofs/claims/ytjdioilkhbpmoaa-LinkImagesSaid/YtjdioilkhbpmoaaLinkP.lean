/- The walk of the program's put: four bytes into a row of the call's own. Conditions: the row has room. -/
import Derived.Test.YtjdioilkhbpmoaaLinkG
namespace Go.Proofs.Ytjdioilkhbpmoaa
open Go.RowKit LK
set_option linter.unusedVariables false
def pbyte (v k : Nat) : Value := .int .u8 ((v / 2 ^ (8 * k) % 256 : Nat))
def putL (v o : Nat) : Nat → List Value → List Value
  | 0, xs => xs
  | k + 1, xs => (putL v o k xs).set (o + k) (pbyte v k)
theorem putL_len (v o k : Nat) (xs : List Value) : (putL v o k xs).length = xs.length := by
  induction k with
  | zero => rfl
  | succ k ih => rw [putL, List.length_set, ih]
theorem grown_refl (w : World) (row : Option Nat) : w.grownBy w row := ⟨rfl, rfl, rfl, Nat.le_refl _, fun _ _ _ => rfl⟩
theorem grown_set_ {a b : World} {g B e size n c : Nat} {xs : List Value} (h : a.grownBy b (some g)) (ho : b.ownsRow B e size (.slice (some ⟨g, 0, none⟩) n c) n xs) (j : Nat) (u : Value) : a.grownBy (b.setCell ⟨g, j, none⟩ u) (some g) :=
  h.trans (ho.stored j u).2
set_option maxRecDepth 100000 in
set_option maxHeartbeats 4000000 in
theorem put_any (g o c' N c B v : Nat) (xs : List Value) (w : World) (hN : o + 4 ≤ N) (hc' : 4 ≤ c') (hr : w.ownsRow B 5 1 (.slice (some ⟨g, 0, none⟩) N c) N xs) (hv : v < 4294967296) :
    Calls Try.prog 90 #[.slice (some ⟨g, o, none⟩) 4 c', .int .u32 (v : Nat)] w fun e w' => e = .returned (.tuple #[]) ∧ w.grownBy w' (some g) ∧ w'.ownsRow B 5 1 (.slice (some ⟨g, 0, none⟩) N c) N (putL v o 4 xs) := by
  have HR := hide hr
  have hvi : (v : Int) < 4294967296 := by omega
  clear hr
  go_enter Try.func90, Try.ntmps90
  go_wp2_with fail
  go_loopw [7] (fun vi wr => ∃ k : Nat, k ≤ 4 ∧ vi = .int .i64 k ∧ w.grownBy wr (some g) ∧ wr.ownsRow B 5 1 (.slice (some ⟨g, 0, none⟩) N c) N (putL v o k xs)) (fun vi _ => 4 - (intOf vi).toNat)
  case atStart => exact ⟨0, by omega, by go_num, grown_refl _ _, HR.out⟩
  case round =>
    obtain ⟨k, hk, rfl, hg, hr⟩ := hrel
    have HG := hide hg
    have HRR := hide hr
    clear hg
    by_cases hlt : k < 4
    · have hd1 : decide ((k : Int) < (4 : Int)) = true := by simp; omega
      have hd0 : decide (k < 4) = true := by simp; omega
      have hki : (k : Int) ≤ 3 := by omega
      obtain ⟨g', cc, e0, _, hgl, _, _, hcell, hfz⟩ := own_at hr (by omega)
      cases e0
      obtain ⟨_, _, e1, _, _, hlen, _⟩ := own_form hr
      have hx : ∃ u, (putL v o k xs)[o + k]? = some u := ⟨_, List.getElem?_eq_getElem (by omega)⟩
      obtain ⟨u, hu⟩ := hx
      have hck := hcell _ u hu
      have hfk := hfz (o + k)
      clear hcell hfz hlen e1 hu hr
      go_wp2_with fail
      go_roundw
      case rel => exact ⟨k + 1, by omega, by go_num, grown_set_ HG.out HRR.out _ _, by
        rw [show Value.int .u8 ((v : Int) / 2 ^ (8 * k) % 256) = pbyte v k by simp [pbyte]]
        exact own_set HRR.out (o + k) (pbyte v k)⟩
      case measure => simp [intOf] <;> omega
    · have hd1 : decide ((k : Int) < (4 : Int)) = false := by simp; omega
      have hd0 : decide (k < 4) = false := by simp; omega
      obtain rfl : k = 4 := by omega
      go_wp2_with fail
      exact bodyPost_end (v := .tuple #[]) (by simp [results, Try.results90, go_sem]) rfl ⟨rfl, HG.out, HRR.out⟩
end Go.Proofs.Ytjdioilkhbpmoaa
