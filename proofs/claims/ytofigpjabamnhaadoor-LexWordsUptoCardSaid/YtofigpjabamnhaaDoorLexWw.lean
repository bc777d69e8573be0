/- The walks of IsWord and IsKey. Conditions: the text is not immense; the table of blanks is as the program lays it. -/
import Derived.Test.YtofigpjabamnhaaDoorLexWp
import Derived.Test.YtofigpjabamnhaaDoorLexSd
namespace Go.Proofs.YtofigpjabamnhaaDoor
open Go.RowKit LX
set_option linter.unusedVariables false
theorem rIsWord_any (s : ByteArray) (hs : s.size ≤ 2000000) (w : World) : Calls Tryd.prog 5 #[.string s] w fun e w' => e = .returned (.bool (wordB s)) ∧ Q w w' := by
  have C := hide (fun w => isWord_eq s ▸ risTok_any 0 s w hs)
  clear hs
  go_enter Tryd.func5, Tryd.ntmps5
  go_wp2_with fail
  refine (C.out _).mono ?_
  rintro e w1 ⟨rfl, hq⟩
  go_wp2_with fail
  go_ret
  exact ⟨rfl, hq⟩
abbrev KS : ByteArray := ⟨#[102, 110, 32, 99, 111, 110, 115, 116, 32, 118, 97, 114, 32, 99, 111, 109, 112, 116, 105, 109, 101, 32, 114, 101, 116, 117, 114, 110, 32, 101, 114, 114, 111, 114, 32, 105, 102, 32, 101, 108, 115, 101, 32, 119, 104, 105, 108, 101, 32, 102, 111, 114, 32, 105, 110, 108, 105, 110, 101, 32, 115, 119, 105, 116, 99, 104, 32, 100, 101, 102, 101, 114, 32, 101, 114, 114, 100, 101, 102, 101, 114, 32, 98, 114, 101, 97, 107, 32, 99, 111, 110, 116, 105, 110, 117, 101, 32, 103, 105, 118, 101, 32, 117, 110, 114, 101, 97, 99, 104, 97, 98, 108, 101, 32, 116, 114, 117, 101, 32, 102, 97, 108, 115, 101, 32, 97, 110, 100, 32, 111, 114, 32, 116, 114, 121, 32, 99, 97, 116, 99, 104, 32, 111, 114, 101, 108, 115, 101, 32, 100, 111, 32, 118, 111, 105, 100, 32, 98, 111, 111, 108, 32, 116, 121, 112, 101, 32, 95]⟩
def keysL : List (List UInt8) := [[102, 110], [99, 111, 110, 115, 116], [118, 97, 114], [99, 111, 109, 112, 116, 105, 109, 101], [114, 101, 116, 117, 114, 110], [101, 114, 114, 111, 114], [105, 102], [101, 108, 115, 101], [119, 104, 105, 108, 101], [102, 111, 114], [105, 110, 108, 105, 110, 101], [115, 119, 105, 116, 99, 104], [100, 101, 102, 101, 114], [101, 114, 114, 100, 101, 102, 101, 114], [98, 114, 101, 97, 107], [99, 111, 110, 116, 105, 110, 117, 101], [103, 105, 118, 101], [117, 110, 114, 101, 97, 99, 104, 97, 98, 108, 101], [116, 114, 117, 101], [102, 97, 108, 115, 101], [97, 110, 100], [111, 114], [116, 114, 121], [99, 97, 116, 99, 104], [111, 114, 101, 108, 115, 101], [100, 111], [118, 111, 105, 100], [98, 111, 111, 108], [116, 121, 112, 101], [95]]
theorem KS_fields : Lib.fields KS.data.toList = keysL := by decide +kernel
theorem KS_size : KS.size < 4294967281 := by decide +kernel
theorem KS_all : KS.data.toList.all (fun b => decide (b.toNat < 128)) = true := by decide +kernel
theorem KS_ascii (j : Nat) (b : UInt8) (h : KS.data.toList[j]? = some b) : b.toNat < 128 := by
  have := List.all_eq_true.1 KS_all b (List.mem_of_getElem? h)
  simpa using this
def keysB : List ByteArray := keysL.map fun l => ⟨l.toArray⟩
def keyB (s : ByteArray) : Bool := Lib.containsS keysB s
def keysC : Array Value := (keysL.map fun l => Value.string ⟨l.toArray⟩).toArray
theorem keys_len : keysL.length = 30 := by decide
theorem keysC_at {j : Nat} {k : ByteArray} (h : keysB[j]? = some k) : keysC[j]? = some (.string k) := by
  unfold keysC keysB at *
  rw [List.getElem?_map] at h
  rw [List.getElem?_toArray, List.getElem?_map]
  cases hx : keysL[j]? with
  | none => rw [hx] at h; cases h
  | some l => rw [hx] at h; simp at h; subst h; rfl
theorem ba_of_toList {a b : ByteArray} (h : (a.toList == b.toList) = true) : a = b := by
  rw [Lib.toList_data, Lib.toList_data] at h
  have := beq_iff_eq.1 h
  cases a; cases b
  simp at this
  subst this
  rfl
theorem IsKey_any (s : ByteArray) (w : World) (htab : Lib.TabIs Tryd.prog w "strings.asciiSpace" .u8 Lib.asciiSpaceTab) : Calls Tryd.prog 6 #[.string s] w fun e w' => e = .returned (.bool (keyB s)) ∧ Q w w' := by
  have C1 := hide (show Calls Tryd.prog 13 #[.string KS] w fun e w' => e = .returned (.slice (some ⟨w.heap.size, 0, none⟩) 30 30) ∧ w' = w.alloc (.cells keysC 9) from by
    have h := Tryd.strings_Fields KS w KS_size KS_ascii htab
    rw [KS_fields, keys_len] at h
    exact h)
  have hlb : keysB.length = 30 := by unfold keysB; rw [List.length_map, keys_len]
  have C2 := hide (show Calls Tryd.prog 12 #[.slice (some ⟨w.heap.size, 0, none⟩) 30 30, .string s] (w.alloc (.cells keysC 9)) fun e w' => e = .returned (.bool (keyB s)) ∧ w' = w.alloc (.cells keysC 9) from by
    have h := Tryd.slices_Contains_string w.heap.size 0 30 30 keysB s (w.alloc (.cells keysC 9)) (by omega) (by omega) (fun j hj => by
      rw [Nat.zero_add, World.cell?_alloc_new]
      exact keysC_at (by rw [List.getElem?_eq_getElem hj, List.getD_eq_getElem?_getD, List.getElem?_eq_getElem hj]; rfl))
    rw [List.take_of_length_le (by omega)] at h
    exact h)
  clear htab hlb
  go_enter Tryd.func6, Tryd.ntmps6
  go_wp2_with fail
  refine C1.out.mono ?_
  rintro e w1 ⟨rfl, rfl⟩
  go_wp2_with fail
  refine C2.out.mono ?_
  rintro e w2 ⟨rfl, rfl⟩
  go_wp2_with fail
  go_ret
  exact ⟨rfl, (Q.refl w).alloc _⟩
theorem keys_any (w : World) : Calls Tryd.prog 14 #[] w fun e w' => e = .returned (.slice (some ⟨w.heap.size, 0, none⟩) 30 30) ∧ w' = w.alloc (.cells keysC 9) := by
  go_enter Tryd.func14, Tryd.ntmps14
  go_wp2_with fail
  go_ret
  exact ⟨rfl, rfl⟩
theorem rIsKey_any (s : ByteArray) (w : World) : Calls Tryd.prog 7 #[.string s] w fun e w' => e = .returned (.bool (keyB s)) ∧ Q w w' := by
  have hlb : keysB.length = 30 := by unfold keysB; rw [List.length_map, keys_len]
  have HLB := hide hlb
  obtain ⟨kb, hkb⟩ : ∃ kb, keyB s = kb := ⟨_, rfl⟩
  have HKB := hide hkb
  rw [hkb]
  clear hlb hkb
  go_enter Tryd.func7, Tryd.ntmps7
  go_wp2_with fail
  refine (keys_any _).mono ?_
  rintro e w1 ⟨rfl, hw1⟩
  have HC := hide (show ∀ j k, keysB[j]? = some k → w1.cell? ⟨w.heap.size, j, none⟩ = some (.string k) from fun j k h => by rw [hw1, World.cell?_alloc_new]; exact keysC_at h)
  have HQ1 := hide (show Q w w1 by rw [hw1]; exact (Q.refl w).alloc _)
  have hs1 : w.heap.size < w1.heap.size := by rw [hw1]; simp
  clear hw1
  go_wp2_with fail
  go_loopw [4] (fun vi wr => ∃ i : Nat, i ≤ 30 ∧ vi = .int .i64 (i : Nat) ∧ (∀ j k, j < i → keysB[j]? = some k → (k.toList == s.toList) = false) ∧ wr = w1) (fun vi _ => 30 - (intOf vi).toNat)
  case atStart => exact ⟨0, by omega, by go_num, fun j k h => by omega, rfl⟩
  case round =>
    obtain ⟨i, hi, rfl, hno, rfl⟩ := hrel
    have HNO := hide hno
    clear hno
    by_cases hlt : i < 30
    · have hd1 : decide ((i : Int) < 30) = true := by simp; omega
      have hd0 : decide (i < 30) = true := by simp; omega
      have hlti : (i : Int) < 30 := by omega
      obtain ⟨k, hk⟩ : ∃ k, keysB[i]? = some k := ⟨_, List.getElem?_eq_getElem (by rw [HLB.out]; exact hlt)⟩
      have hc := HC.out i k hk
      have HK := hide hk
      clear hk
      cases hb : (k.toList == s.toList) with
      | true =>
        have HT := hide (show kb = true by rw [← HKB.out]; unfold keyB; rw [Lib.containsS_iff, ← ba_of_toList hb]; exact List.mem_of_getElem? HK.out)
        go_wp2_with fail
        go_ret
        exact ⟨by rw [HT.out]; rfl, HQ1.out⟩
      | false =>
        have HBF := hide hb
        go_wp2_with fail
        go_roundw
        case rel => exact ⟨i + 1, by omega, by go_num, fun j k' h1 h2 => by
          by_cases e : j = i
          · subst e; rw [HK.out] at h2; cases h2; exact HBF.out
          · exact HNO.out j k' (by omega) h2, trivial⟩
        case measure => simp [intOf] <;> omega
    · have hd1 : decide ((i : Int) < 30) = false := by simp; omega
      have hd0 : decide (i < 30) = false := by simp; omega
      obtain rfl : i = 30 := by omega
      have HT := hide (show kb = false by
        rw [← HKB.out]
        unfold keyB
        cases hx : Lib.containsS keysB s with
        | false => rfl
        | true =>
          exfalso
          obtain ⟨j, hj, e⟩ := List.mem_iff_getElem.1 ((Lib.containsS_iff _ _).1 hx)
          have := HNO.out j s (by rw [HLB.out] at hj; exact hj) (by rw [List.getElem?_eq_getElem hj, e])
          simp at this)
      clear hlt
      go_wp2_with fail
      go_ret
      exact ⟨by rw [HT.out]; rfl, HQ1.out⟩
end Go.Proofs.YtofigpjabamnhaaDoor
