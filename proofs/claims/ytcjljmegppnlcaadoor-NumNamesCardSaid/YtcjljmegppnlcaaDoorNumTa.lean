/- The walks of written and based. Conditions: the number is not too great. -/
import Derived.Test.YtcjljmegppnlcaaDoorNumTp
import Derived.Test.YtcjljmegppnlcaaDoorNumA
import Derived.Test.YtcjljmegppnlcaaDoorNumSh
import Derived.Deep.DeepCutAuto
namespace Go.Proofs.YtcjljmegppnlcaaDoor
open Go.RowKit NP
set_option linter.unusedVariables false
theorem encD_ : ∀ r : Fin 16, Utf8.encode (((⟨#[48, 49, 50, 51, 52, 53, 54, 55, 56, 57, 97, 98, 99, 100, 101, 102]⟩ : ByteArray)[r.val]'(r.isLt)).toNat : Int) = ⟨#[dgt r.val]⟩ := by decide +kernel
theorem encD {r : Nat} (h : r < (⟨#[48, 49, 50, 51, 52, 53, 54, 55, 56, 57, 97, 98, 99, 100, 101, 102]⟩ : ByteArray).size) : Utf8.encode (((⟨#[48, 49, 50, 51, 52, 53, 54, 55, 56, 57, 97, 98, 99, 100, 101, 102]⟩ : ByteArray)[r]'h).toNat : Int) = ⟨#[dgt r]⟩ := encD_ ⟨r, h⟩
theorem cons_data (c : UInt8) (o : ByteArray) : ((⟨#[c]⟩ : ByteArray) ++ o).data.toList = c :: o.data.toList := by
  rw [ByteArray.data_append]
  simp
theorem ba_ext {a : ByteArray} {l : List UInt8} (h : a.data.toList = l) : a = ⟨l.toArray⟩ := by
  cases a
  subst h
  simp
set_option maxRecDepth 100000 in
set_option maxHeartbeats 1000000 in
theorem written_nat (b n : Nat) (hb : 2 ≤ b) (hb2 : b ≤ 16) (hn : n ≤ 1099511627776) (w : World) :
    Calls Tryd.prog 22 #[.int .i64 (n : Nat), .int .i64 (b : Nat)] w fun e w' => e = .returned (.string ⟨(txtN b n).toArray⟩) ∧ Q w w' := by
  have hbi : (2 : Int) ≤ (b : Int) := by omega
  have hbi2 : (b : Int) ≤ 16 := by omega
  have hlen := txtN_len hb 40 n (Nat.lt_of_le_of_lt hn (by decide))
  have hn0 : decide ((n : Int) < 0) = false := by simp
  have HL := hide hlen
  have HN := hide hn
  have HB := hide hb
  clear hlen hn hb
  go_enter Tryd.func22, Tryd.ntmps22
  go_wp2_with fail
  go_loopw [0, 5] (fun v0 v5 wr => ∃ (m : Nat) (o : ByteArray), v0 = .int .i64 (m : Nat) ∧ v5 = .string o ∧ txtN b n = txtN b m ++ o.data.toList ∧ m ≤ n ∧ Q w wr) (fun v0 _ _ => (intOf v0).toNat)
  case atStart => exact ⟨n, _, rfl, rfl, by simp, Nat.le_refl _, Q.refl _⟩
  case round =>
    obtain ⟨m, o, rfl, rfl, ho, hm, hq⟩ := hrel
    have HO := hide ho
    have HM := hide hm
    have hol : o.size ≤ 41 := by
      have h1 := HL.out
      rw [ho, List.length_append] at h1
      simpa using (show o.data.toList.length ≤ 41 by omega)
    clear ho hm
    by_cases hlt : b ≤ m
    · have hd1 : decide ((b : Int) ≤ (m : Int)) = true := by simp; omega
      have hd0 : decide (b ≤ m) = true := by simp; omega
      have hb0 : 0 < b := by omega
      obtain ⟨r, hr⟩ : ∃ r, m % b = r := ⟨_, rfl⟩
      obtain ⟨q, hqq⟩ : ∃ q, m / b = q := ⟨_, rfl⟩
      have hr16 : r < 16 := by have := Nat.mod_lt m hb0; omega
      have hri : (m : Int) % (b : Int) = (r : Int) := by rw [← hr]; simp
      have hqi : (m : Int) / (b : Int) = (q : Int) := by rw [← hqq]; simp
      have hr16i : (r : Int) < 16 := by omega
      have hqm : q < m := by rw [← hqq]; exact Nat.div_lt_self (by omega) (by have := HB.out; omega)
      have hqb : (q : Int) ≤ 1099511627776 := by have := HM.out; have := HN.out; omega
      have HT := hide (show txtN b m = txtN b q ++ [dgt r] by rw [txtN_hi HB.out hlt, hr, hqq])
      have hE := encD (r := r) hr16
      have hS1 : (⟨#[dgt r]⟩ : ByteArray).size = 1 := rfl
      clear hr hqq
      go_wp2_with fail
      go_roundw
      case rel => exact ⟨q, _, by go_num, rfl, by rw [cons_data, HO.out, HT.out]; simp, by have := HM.out; omega, hq⟩
      case measure => simp [intOf] <;> omega
    · have hd1 : decide ((b : Int) ≤ (m : Int)) = false := by simp; omega
      have hd0 : decide (b ≤ m) = false := by simp; omega
      have hm16i : (m : Int) ≤ 15 := by omega
      have hmi : (m : Int) < 16 := by omega
      have hm16 : m < 16 := by omega
      have HT := hide (show txtN b n = dgt m :: o.data.toList by rw [HO.out, txtN_lo (by omega)]; rfl)
      have HBA := hide (show (⟨#[dgt m]⟩ : ByteArray) ++ o = ⟨(txtN b n).toArray⟩ from ba_ext (by rw [cons_data, HT.out]))
      have hE := encD (r := m) hm16
      have hS1 : (⟨#[dgt m]⟩ : ByteArray).size = 1 := rfl
      clear hlt
      go_wp2_with fail
      go_ret
      exact ⟨congrArg (fun x => Ending.returned (Value.string x)) HBA.out, hq⟩
theorem txtI_nat (b n : Nat) : txtI b (n : Int) = txtN b n := by
  unfold txtI
  rw [if_neg (by omega)]
  rfl
theorem txtI_neg (b n : Nat) (h : 0 < n) : txtI b (-(n : Int)) = 45 :: txtN b n := by
  unfold txtI
  rw [if_pos (by omega)]
  congr 1
  congr 1
  omega
set_option maxRecDepth 100000 in
set_option maxHeartbeats 1000000 in
theorem written_any (b : Nat) (n : Int) (hb : 2 ≤ b) (hb2 : b ≤ 16) (h1 : -1099511627776 ≤ n) (h2 : n ≤ 1099511627776) (w : World) :
    Calls Tryd.prog 22 #[.int .i64 n, .int .i64 (b : Nat)] w fun e w' => e = .returned (.string ⟨(txtI b n).toArray⟩) ∧ Q w w' := by
  by_cases h0 : 0 ≤ n
  · obtain ⟨k, rfl⟩ : ∃ k : Nat, n = (k : Int) := ⟨n.toNat, by omega⟩
    rw [txtI_nat]
    exact written_nat b k hb hb2 (by omega) w
  · obtain ⟨k, rfl⟩ : ∃ k : Nat, n = -(k : Int) := ⟨(-n).toNat, by omega⟩
    rw [txtI_neg b k (by omega)]
    have C := hide (written_nat b k hb hb2 (by omega) w)
    have hl := txtN_len hb 40 k (Nat.lt_of_le_of_lt (by omega : k ≤ 1099511627776) (by decide))
    obtain ⟨T, hT⟩ : ∃ T : ByteArray, (⟨(txtN b k).toArray⟩ : ByteArray) = T := ⟨_, rfl⟩
    have hTs : T.size ≤ 41 := by rw [← hT]; show (txtN b k).toArray.size ≤ 41; simpa using hl
    have HBA := hide (show (⟨#[45]⟩ : ByteArray) ++ T = ⟨(45 :: txtN b k).toArray⟩ from ba_ext (by rw [cons_data, ← hT]))
    rw [hT] at C
    have d0 : decide (-(k : Int) < 0) = true := by simp; omega
    have hk0 : 0 < k := by omega
    have d1 : decide (0 < k) = true := by simp; omega
    have hk1 : (k : Int) ≤ 1099511627776 := by omega
    have hneg : -(-(k : Int)) = (k : Int) := by omega
    have hS1 : (⟨#[45]⟩ : ByteArray).size = 1 := rfl
    clear hl hT h0 h1 h2
    go_enter Tryd.func22, Tryd.ntmps22
    go_wp2_with fail
    refine C.out.mono ?_
    rintro e w1 ⟨rfl, hq⟩
    go_wp2_with fail
    go_ret
    exact ⟨congrArg (fun x => Ending.returned (Value.string x)) HBA.out, hq⟩
end Go.Proofs.YtcjljmegppnlcaaDoor
