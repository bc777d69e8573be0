/- The walks of the comparisons and of the number of bits, of the program and of the reference, and of the law NumCompares. Conditions: none beyond what each theorem says. -/
import Derived.Test.YtcjljmegppnlcaaNumW
import Derived.Test.YtcjljmegppnlcaaNumOnes
import Derived.Laws.Bits128
namespace Go.Proofs.Ytcjljmegppnlcaa
open Go.RowKit NP Ones
set_option linter.unusedVariables false

theorem u64_wrap_nat (a : Nat) (h : a < 18446744073709551616) : IntKind.u64.wrap (a : Int) = a := by
  rw [IntKind.wrap_u64]; omega
theorem and_le (a b : Nat) : a &&& b ≤ a := Nat.and_le_left
theorem ones64_any (x k : Nat) (w : World) (hx : x < 2 ^ k) (hk : k ≤ 31) :
    Calls Try.prog 70 #[.int .u64 x] w fun e w' => e = .returned (.int .i64 (cnt k x)) ∧ w = w' := by
  have hx32 : x < 4294967296 := Nat.lt_of_lt_of_le hx (show 2 ^ k ≤ 2 ^ 32 from Nat.pow_le_pow_right (by omega) (by omega))
  have h := ones x k hx (by omega)
  clear hx
  have x1 : (x : Int) < 4294967296 := by omega
  have H := hide h
  clear h
  go_enter Try.func70, Try.ntmps70
  go_wp2_with fail
  go_ret
  refine ⟨ret_int ?_, rfl⟩
  show bits BinOp.and IntKind.i64 _ 127 = _
  have l1 := and_le (x / 2) 6148914691236517205
  have l2 := and_le x 6148914691236517205
  have e1 : bits .and .u64 ((x : Int) / 2) 6148914691236517205 = ((x / 2 &&& 6148914691236517205 : Nat) : Int) := u64_and_nat (x / 2) 6148914691236517205 (by omega) (by omega)
  have e2 : bits .and .u64 (x : Int) 6148914691236517205 = ((x &&& 6148914691236517205 : Nat) : Int) := u64_and_nat x 6148914691236517205 (by omega) (by omega)
  rw [e1, e2, ← Int.natCast_add, u64_wrap_nat _ (by omega)]
  obtain ⟨s1, hs1⟩ : ∃ s1, st1 x 6148914691236517205 = s1 := ⟨_, rfl⟩
  rw [show (x / 2 &&& 6148914691236517205) + (x &&& 6148914691236517205) = s1 from hs1]
  have b1 : s1 < 8589934592 := by rw [← hs1]; unfold st1; omega
  have l3 := and_le (s1 / 4) 3689348814741910323
  have l4 := and_le s1 3689348814741910323
  have e3 : bits .and .u64 ((s1 : Int) / 4) 3689348814741910323 = ((s1 / 4 &&& 3689348814741910323 : Nat) : Int) := u64_and_nat (s1 / 4) 3689348814741910323 (by omega) (by omega)
  have e4 : bits .and .u64 (s1 : Int) 3689348814741910323 = ((s1 &&& 3689348814741910323 : Nat) : Int) := u64_and_nat s1 3689348814741910323 (by omega) (by omega)
  rw [e3, e4, ← Int.natCast_add, u64_wrap_nat _ (by omega)]
  obtain ⟨s2, hs2⟩ : ∃ s2, st2 s1 3689348814741910323 = s2 := ⟨_, rfl⟩
  rw [show (s1 / 4 &&& 3689348814741910323) + (s1 &&& 3689348814741910323) = s2 from hs2]
  have b2 : s2 < 17179869184 := by rw [← hs2]; unfold st2; omega
  rw [show (s2 : Int) / 16 + s2 = ((s2 / 16 + s2 : Nat) : Int) by simp, u64_wrap_nat _ (by omega)]
  have e5 : bits .and .u64 ((s2 / 16 + s2 : Nat) : Int) 1085102592571150095 = ((s2 / 16 + s2 &&& 1085102592571150095 : Nat) : Int) := u64_and_nat _ 1085102592571150095 (by omega) (by omega)
  rw [e5]
  have hb := H.out
  rw [hs1, hs2] at hb
  obtain ⟨hb1, hb2⟩ := hb
  obtain ⟨s3, hs3⟩ : ∃ s3, st3 s2 1085102592571150095 = s3 := ⟨_, rfl⟩
  rw [hs3] at hb1 hb2
  rw [show (s2 / 16 + s2 &&& 1085102592571150095) = s3 from hs3]
  rw [show (s3 : Int) + s3 / 256 = ((s3 + s3 / 256 : Nat) : Int) by simp, u64_wrap_nat _ (by omega)]
  rw [show ((s3 + s3 / 256 : Nat) : Int) + ((s3 + s3 / 256 : Nat) : Int) / 65536 = ((s3 + s3 / 256 + (s3 + s3 / 256) / 65536 : Nat) : Int) by simp, u64_wrap_nat _ (by omega)]
  rw [show ((s3 + s3 / 256 + (s3 + s3 / 256) / 65536 : Nat) : Int) + ((s3 + s3 / 256 + (s3 + s3 / 256) / 65536 : Nat) : Int) / 4294967296 = ((s3 + s3 / 256 + (s3 + s3 / 256) / 65536 + (s3 + s3 / 256 + (s3 + s3 / 256) / 65536) / 4294967296 : Nat) : Int) by simp, u64_wrap_nat _ (by omega)]
  have hr := hb2 s3 _ _ _ rfl rfl rfl rfl
  rw [i64_and127]
  rw [IntWalk.wrap64_in _ ⟨by omega, by omega⟩]
  omega
theorem onesCount_any (x k : Nat) (w : World) (hx : x < 2 ^ k) (hk : k ≤ 31) :
    Calls Try.prog 61 #[.int .u64 x] w fun e w' => e = .returned (.int .i64 (cnt k x)) ∧ w = w' := by
  have HX := hide hx
  clear hx
  go_enter Try.func61, Try.ntmps61
  go_wp2_with fail
  refine (ones64_any x k _ HX.out hk).mono ?_
  rintro e w1 ⟨rfl, rfl⟩
  go_wp2_with fail
  go_ret
  exact ⟨rfl, rfl⟩

def adjN (b n : Int) : Nat := (n % (18446744073709551616 : Int)).toNat % 2 ^ b.toNat
theorem and_mask_u (b n : Int) (h1 : 1 ≤ b) (h2 : b ≤ 31) : bits .and .u64 (IntKind.u64.wrap n) (IntKind.u64.wrap (IntKind.u64.wrap (2 ^ b.toNat) - 1)) = (adjN b n : Int) := by
  have hp := p2_bd b h1 h2
  have e : (2 : Int) ^ b.toNat = ((2 ^ b.toNat : Nat) : Int) := by simp
  have h31 : 2 ^ b.toNat ≤ 2 ^ 31 := Nat.pow_le_pow_right (by omega) (by omega)
  have hpos : 1 ≤ 2 ^ b.toNat := Nat.one_le_two_pow
  have ew : IntKind.u64.wrap (2 ^ b.toNat) = ((2 ^ b.toNat : Nat) : Int) := by rw [e, u64_wrap_nat _ (by omega)]
  have es : ((2 ^ b.toNat : Nat) : Int) - 1 = ((2 ^ b.toNat - 1 : Nat) : Int) := by rw [Int.natCast_sub hpos]; rfl
  rw [ew, es, u64_wrap_nat _ (by omega)]
  have en : IntKind.u64.wrap n = (((n % (18446744073709551616 : Int)).toNat : Nat) : Int) := by
    rw [IntKind.wrap_u64, Int.toNat_of_nonneg (Int.emod_nonneg _ (by decide))]
  have hlt : (n % (18446744073709551616 : Int)).toNat < 18446744073709551616 := by
    have := Int.emod_lt_of_pos n (show (0 : Int) < 18446744073709551616 by decide)
    have := Int.emod_nonneg n (show (18446744073709551616 : Int) ≠ 0 by decide)
    omega
  rw [en, u64_and_nat _ _ hlt (by omega), Nat.and_two_pow_sub_one_eq_mod]
  rfl
def onesF (s : Bool) (b n : Int) : Int × Int := if (decide (1 ≤ b ∧ b ≤ 31) && fitsB s b n) = true then (cnt b.toNat (adjN b n), 0) else (0, 1)
theorem Ones_any (s : Bool) (b n : Int) (w : World) :
    Calls Try.prog 36 #[.agg #[.bool s, .int .i64 b], .int .i64 n] w fun e w' => e = .returned (.tuple #[.int .i64 (onesF s b n).1, .int .i64 (onesF s b n).2]) ∧ Q w w' := by
  by_cases hv : 1 ≤ b ∧ b ≤ 31
  · obtain ⟨h1, h2⟩ := hv
    cases hx : fitsB s b n
    · rw [show onesF s b n = (0, 1) by simp [onesF, hx]]
      go_enter Try.func36, Try.ntmps36
      go_wp2_with fail
      refine (validate_ok _ _ _ h1 h2).mono ?_
      rintro e w1 ⟨rfl, hqw1⟩
      obtain ⟨hcw1, hfw1, hzw1⟩ := hqw1.facts
      try simp at hzw1
      try have hs0w1 : w.heap.size < w1.heap.size := by omega
      try have hs1w1 : w.heap.size + 1 < w1.heap.size := by omega
      go_wp2_with fail
      refine (fits_any _ _ _ _ h1 h2).mono ?_
      rintro e w2 ⟨rfl, hqw2⟩
      obtain ⟨hcw2, hfw2, hzw2⟩ := hqw2.facts
      try simp at hzw2
      try have hs0w2 : w.heap.size < w2.heap.size := by omega
      try have hs1w2 : w.heap.size + 1 < w2.heap.size := by omega
      go_wp2_with fail
      go_ret2
      exact ⟨rfl, (by repeat (first | exact Q.refl _ | assumption | refine Q.drew ?_ | refine Q.drewN ?_ _ | refine Q.alloc ?_ _ | refine Q.set ?_ (by first | (simp; done) | (simp; omega) | omega) _ | refine Q.trans ?_ (by assumption)))⟩
    · rw [show onesF s b n = (((cnt b.toNat (adjN b n) : Nat) : Int), 0) by simp [onesF, hx, h1, h2]]
      have em := and_mask_u b n h1 h2
      have EM := hide em
      clear em
      go_enter Try.func36, Try.ntmps36
      go_wp2_with fail
      refine (validate_ok _ _ _ h1 h2).mono ?_
      rintro e w1 ⟨rfl, hqw1⟩
      obtain ⟨hcw1, hfw1, hzw1⟩ := hqw1.facts
      try simp at hzw1
      try have hs0w1 : w.heap.size < w1.heap.size := by omega
      try have hs1w1 : w.heap.size + 1 < w1.heap.size := by omega
      go_wp2_with fail
      refine (fits_any _ _ _ _ h1 h2).mono ?_
      rintro e w2 ⟨rfl, hqw2⟩
      obtain ⟨hcw2, hfw2, hzw2⟩ := hqw2.facts
      try simp at hzw2
      try have hs0w2 : w.heap.size < w2.heap.size := by omega
      try have hs1w2 : w.heap.size + 1 < w2.heap.size := by omega
      go_wp2_with fail
      rw [EM.out]
      refine (onesCount_any (adjN b n) b.toNat _ (Nat.mod_lt _ (Nat.two_pow_pos _)) (by omega)).mono ?_
      rintro e w3 ⟨rfl, rfl⟩
      go_wp2_with fail
      go_ret2
      exact ⟨rfl, (by repeat (first | exact Q.refl _ | assumption | refine Q.drew ?_ | refine Q.drewN ?_ _ | refine Q.alloc ?_ _ | refine Q.set ?_ (by first | (simp; done) | (simp; omega) | omega) _ | refine Q.trans ?_ (by assumption)))⟩
  · rw [show onesF s b n = (0, 1) by simp [onesF, hv]]
    go_enter Try.func36, Try.ntmps36
    go_wp2_with fail
    refine (validate_bad _ _ _ hv).mono ?_
    rintro e w1 ⟨rfl, hqw1⟩
    obtain ⟨hcw1, hfw1, hzw1⟩ := hqw1.facts
    try simp at hzw1
    try have hs0w1 : w.heap.size < w1.heap.size := by omega
    try have hs1w1 : w.heap.size + 1 < w1.heap.size := by omega
    go_wp2_with fail
    go_ret2
    exact ⟨rfl, (by repeat (first | exact Q.refl _ | assumption | refine Q.drew ?_ | refine Q.drewN ?_ _ | refine Q.alloc ?_ _ | refine Q.set ?_ (by first | (simp; done) | (simp; omega) | omega) _ | refine Q.trans ?_ (by assumption)))⟩

theorem cnt_succ (j x : Nat) : cnt (j + 1) x = cnt j x + x / 2 ^ j % 2 := by
  unfold cnt; rw [List.range_succ, List.map_append, List.sum_append]; simp
theorem cnt_le (j x : Nat) : cnt j x ≤ j := by
  induction j with
  | zero => simp [cnt]
  | succ j ih => rw [cnt_succ]; omega
theorem rOnes_any (s : Bool) (b n : Int) (w : World) :
    Calls Try.prog 37 #[.agg #[.bool s, .int .i64 b], .int .i64 n] w fun e w' => e = .returned (.tuple #[.int .i64 (onesF s b n).1, .int .i64 (onesF s b n).2]) ∧ Q w w' := by
  cases ha : (decide (1 ≤ b ∧ b ≤ 31) && fitsB s b n)
  · rw [show onesF s b n = (0, 1) by simp only [onesF, ha]; simp]
    have ha' : (decide (1 ≤ b ∧ b ≤ 31) && (fitsB s b n && fitsB s b n)) = false := by rw [Bool.and_self]; exact ha
    have HA := hide ha'
    clear ha ha'
    go_enter Try.func37, Try.ntmps37
    go_wp2_with fail
    refine (rasked_bad _ _ _ _ _ HA.out).mono ?_
    rintro e w2 ⟨rfl, hqw2⟩
    obtain ⟨hcw2, hfw2, hzw2⟩ := hqw2.facts
    try simp at hzw2
    try have hs0w2 : w.heap.size < w2.heap.size := by omega
    try have hs1w2 : w.heap.size + 1 < w2.heap.size := by omega
    go_wp2_with fail
    go_ret2
    exact ⟨rfl, (by repeat (first | exact Q.refl _ | assumption | refine Q.drew ?_ | refine Q.drewN ?_ _ | refine Q.alloc ?_ _ | refine Q.set ?_ (by first | (simp; done) | (simp; omega) | omega) _ | refine Q.trans ?_ (by assumption)))⟩
  · have hp : (1 ≤ b ∧ b ≤ 31) ∧ fitsB s b n = true := by simpa using ha
    obtain ⟨⟨h1, h2⟩, hx⟩ := hp
    rw [show onesF s b n = (((cnt b.toNat (adjN b n) : Nat) : Int), 0) by simp only [onesF, ha]; simp]
    have hadj := adj_nat s b n h1 h2 hx
    have hadj' : adj b n = (adjN b n : Int) := hadj
    have HX := hide hx
    have HAD := hide hadj'
    clear ha hx hadj hadj'
    go_enter Try.func37, Try.ntmps37
    go_wp2_with fail
    refine (rasked_ok _ _ _ _ _ h1 h2 HX.out HX.out).mono ?_
    rintro e w2 ⟨rfl, hqw2⟩
    obtain ⟨hcw2, hfw2, hzw2⟩ := hqw2.facts
    try simp at hzw2
    try have hs0w2 : w.heap.size < w2.heap.size := by omega
    try have hs1w2 : w.heap.size + 1 < w2.heap.size := by omega
    go_wp2_with fail
    refine (digits_any _ _ _ _ h1 h2 HX.out).mono ?_
    rintro e w3 ⟨v, rfl, hown, hq3⟩
    obtain ⟨A, c, ev, hn1, hn2, hn3, hrd⟩ := own_form hown
    subst ev
    rw [HAD.out] at hrd
    obtain ⟨X, hX⟩ : ∃ X, adjN b n = X := ⟨_, rfl⟩
    rw [hX] at hrd
    have HXX := hide hX
    clear hX hown hn3
    have hN : ∃ N : Nat, b.toNat = N ∧ N ≤ 31 := ⟨_, rfl, by omega⟩
    obtain ⟨N, hN, hN31⟩ := hN
    rw [hN] at hrd hn1 ⊢
    have HN := hide hN
    clear hN
    have hqa : Q w w3 := (by repeat (first | exact Q.refl _ | assumption | refine Q.drew ?_ | refine Q.drewN ?_ _ | refine Q.alloc ?_ _ | refine Q.set ?_ (by first | (simp; done) | (simp; omega) | omega) _ | refine Q.trans ?_ (by assumption)))
    have hz3 := hq3.size
    clear hqw2 hcw2 hfw2 hq3
    go_wp2_with fail
    go_loop [6, 8] (fun v i => ∃ j : Nat, j ≤ N ∧ i = .int .i64 j ∧ v = .int .i64 (cnt j X)) (fun _ i => N - (intOf i).toNat)
    case atStart => exact ⟨0, by omega, by go_num, by simp [cnt]⟩
    case round =>
      obtain ⟨j, hj, rfl, rfl⟩ := hrel
      have hs := cnt_succ j X
      have hle := cnt_le j X
      by_cases hlt : j < N
      · obtain ⟨bb, o, rfl, hbb, hc⟩ := rd_bits hrd j hlt
        have hlt' : (j : Int) < (N : Int) := by omega
        have hd : (X : Int) / 2 ^ j % 2 = ((X / 2 ^ j % 2 : Nat) : Int) := by simp
        have hdl : X / 2 ^ j % 2 < 2 := Nat.mod_lt _ (by omega)
        rw [hd] at hc
        generalize X / 2 ^ j % 2 = d at *
        have HS := hide hs
        clear hs hd
        go_wp2_with fail
        go_round
        case rel => exact ⟨j + 1, by omega, by go_num, by rw [HS.out]; go_num⟩
        case measure => simp [intOf] <;> omega
      · have ej : j = N := by omega
        subst ej
        clear hs
        go_wp2_with fail
        go_ret2
        exact ⟨by rw [HXX.out, HN.out]; rfl, hqa⟩

def cmpB (op x y : Int) : Bool := if op = 18 then x == y else if op = 19 then x != y else if op = 20 then decide (x < y) else if op = 21 then decide (x ≤ y) else if op = 22 then decide (y < x) else decide (y ≤ x)
def cmpF (op : Int) (s : Bool) (b x y : Int) : Bool × Int :=
  if (decide (1 ≤ b ∧ b ≤ 31) && (fitsB s b x && fitsB s b y)) = true ∧ 18 ≤ op ∧ op ≤ 23 then (cmpB op x y, 0) else (false, 1)
theorem Compare_any (op : Int) (s : Bool) (b x y : Int) (w : World) :
    Calls Try.prog 34 #[.int .i64 op, .agg #[.bool s, .int .i64 b], .int .i64 x, .int .i64 y] w
      fun e w' => e = .returned (.tuple #[.bool (cmpF op s b x y).1, .int .i64 (cmpF op s b x y).2]) ∧ Q w w' := by
  by_cases hv : 1 ≤ b ∧ b ≤ 31
  · obtain ⟨h1, h2⟩ := hv
    cases hx : fitsB s b x
    · rw [show cmpF op s b x y = (false, 1) by simp [cmpF, hx]]
      go_enter Try.func34, Try.ntmps34
      go_wp2_with fail
      refine (validate_ok _ _ _ h1 h2).mono ?_
      rintro e w1 ⟨rfl, hqw1⟩
      obtain ⟨hcw1, hfw1, hzw1⟩ := hqw1.facts
      try simp at hzw1
      try have hs0w1 : w.heap.size < w1.heap.size := by omega
      try have hs1w1 : w.heap.size + 1 < w1.heap.size := by omega
      go_wp2_with fail
      refine (fits_any _ _ _ _ h1 h2).mono ?_
      rintro e w2 ⟨rfl, hqw2⟩
      obtain ⟨hcw2, hfw2, hzw2⟩ := hqw2.facts
      try simp at hzw2
      try have hs0w2 : w.heap.size < w2.heap.size := by omega
      try have hs1w2 : w.heap.size + 1 < w2.heap.size := by omega
      go_wp2_with fail
      go_ret2
      exact ⟨rfl, (by repeat (first | exact Q.refl _ | assumption | refine Q.drew ?_ | refine Q.drewN ?_ _ | refine Q.alloc ?_ _ | refine Q.set ?_ (by first | (simp; done) | (simp; omega) | omega) _ | refine Q.trans ?_ (by assumption)))⟩
    · cases hy : fitsB s b y
      · rw [show cmpF op s b x y = (false, 1) by simp [cmpF, hy]]
        go_enter Try.func34, Try.ntmps34
        go_wp2_with fail
        refine (validate_ok _ _ _ h1 h2).mono ?_
        rintro e w1 ⟨rfl, hqw1⟩
        obtain ⟨hcw1, hfw1, hzw1⟩ := hqw1.facts
        try simp at hzw1
        try have hs0w1 : w.heap.size < w1.heap.size := by omega
        try have hs1w1 : w.heap.size + 1 < w1.heap.size := by omega
        go_wp2_with fail
        refine (fits_any _ _ _ _ h1 h2).mono ?_
        rintro e w2 ⟨rfl, hqw2⟩
        obtain ⟨hcw2, hfw2, hzw2⟩ := hqw2.facts
        try simp at hzw2
        try have hs0w2 : w.heap.size < w2.heap.size := by omega
        try have hs1w2 : w.heap.size + 1 < w2.heap.size := by omega
        go_wp2_with fail
        refine (fits_any _ _ _ _ h1 h2).mono ?_
        rintro e w3 ⟨rfl, hqw3⟩
        obtain ⟨hcw3, hfw3, hzw3⟩ := hqw3.facts
        try simp at hzw3
        try have hs0w3 : w.heap.size < w3.heap.size := by omega
        try have hs1w3 : w.heap.size + 1 < w3.heap.size := by omega
        go_wp2_with fail
        go_ret2
        exact ⟨rfl, (by repeat (first | exact Q.refl _ | assumption | refine Q.drew ?_ | refine Q.drewN ?_ _ | refine Q.alloc ?_ _ | refine Q.set ?_ (by first | (simp; done) | (simp; omega) | omega) _ | refine Q.trans ?_ (by assumption)))⟩
      · by_cases ho : 18 ≤ op ∧ op ≤ 23
        · have hop : op = 18 ∨ op = 19 ∨ op = 20 ∨ op = 21 ∨ op = 22 ∨ op = 23 := by omega
          rcases hop with rfl | rfl | rfl | rfl | rfl | rfl
          · rw [show cmpF 18 s b x y = (x == y, 0) by simp [cmpF, cmpB, hx, hy, h1, h2]]
            go_enter Try.func34, Try.ntmps34
            go_wp2_with fail
            refine (validate_ok _ _ _ h1 h2).mono ?_
            rintro e w1 ⟨rfl, hqw1⟩
            obtain ⟨hcw1, hfw1, hzw1⟩ := hqw1.facts
            try simp at hzw1
            try have hs0w1 : w.heap.size < w1.heap.size := by omega
            try have hs1w1 : w.heap.size + 1 < w1.heap.size := by omega
            go_wp2_with fail
            refine (fits_any _ _ _ _ h1 h2).mono ?_
            rintro e w2 ⟨rfl, hqw2⟩
            obtain ⟨hcw2, hfw2, hzw2⟩ := hqw2.facts
            try simp at hzw2
            try have hs0w2 : w.heap.size < w2.heap.size := by omega
            try have hs1w2 : w.heap.size + 1 < w2.heap.size := by omega
            go_wp2_with fail
            refine (fits_any _ _ _ _ h1 h2).mono ?_
            rintro e w3 ⟨rfl, hqw3⟩
            obtain ⟨hcw3, hfw3, hzw3⟩ := hqw3.facts
            try simp at hzw3
            try have hs0w3 : w.heap.size < w3.heap.size := by omega
            try have hs1w3 : w.heap.size + 1 < w3.heap.size := by omega
            go_wp2_with fail
            go_ret2
            exact ⟨rfl, (by repeat (first | exact Q.refl _ | assumption | refine Q.drew ?_ | refine Q.drewN ?_ _ | refine Q.alloc ?_ _ | refine Q.set ?_ (by first | (simp; done) | (simp; omega) | omega) _ | refine Q.trans ?_ (by assumption)))⟩
          · rw [show cmpF 19 s b x y = (x != y, 0) by simp [cmpF, cmpB, hx, hy, h1, h2]]
            go_enter Try.func34, Try.ntmps34
            go_wp2_with fail
            refine (validate_ok _ _ _ h1 h2).mono ?_
            rintro e w1 ⟨rfl, hqw1⟩
            obtain ⟨hcw1, hfw1, hzw1⟩ := hqw1.facts
            try simp at hzw1
            try have hs0w1 : w.heap.size < w1.heap.size := by omega
            try have hs1w1 : w.heap.size + 1 < w1.heap.size := by omega
            go_wp2_with fail
            refine (fits_any _ _ _ _ h1 h2).mono ?_
            rintro e w2 ⟨rfl, hqw2⟩
            obtain ⟨hcw2, hfw2, hzw2⟩ := hqw2.facts
            try simp at hzw2
            try have hs0w2 : w.heap.size < w2.heap.size := by omega
            try have hs1w2 : w.heap.size + 1 < w2.heap.size := by omega
            go_wp2_with fail
            refine (fits_any _ _ _ _ h1 h2).mono ?_
            rintro e w3 ⟨rfl, hqw3⟩
            obtain ⟨hcw3, hfw3, hzw3⟩ := hqw3.facts
            try simp at hzw3
            try have hs0w3 : w.heap.size < w3.heap.size := by omega
            try have hs1w3 : w.heap.size + 1 < w3.heap.size := by omega
            go_wp2_with fail
            go_ret2
            exact ⟨rfl, (by repeat (first | exact Q.refl _ | assumption | refine Q.drew ?_ | refine Q.drewN ?_ _ | refine Q.alloc ?_ _ | refine Q.set ?_ (by first | (simp; done) | (simp; omega) | omega) _ | refine Q.trans ?_ (by assumption)))⟩
          · rw [show cmpF 20 s b x y = (decide (x < y), 0) by simp [cmpF, cmpB, hx, hy, h1, h2]]
            go_enter Try.func34, Try.ntmps34
            go_wp2_with fail
            refine (validate_ok _ _ _ h1 h2).mono ?_
            rintro e w1 ⟨rfl, hqw1⟩
            obtain ⟨hcw1, hfw1, hzw1⟩ := hqw1.facts
            try simp at hzw1
            try have hs0w1 : w.heap.size < w1.heap.size := by omega
            try have hs1w1 : w.heap.size + 1 < w1.heap.size := by omega
            go_wp2_with fail
            refine (fits_any _ _ _ _ h1 h2).mono ?_
            rintro e w2 ⟨rfl, hqw2⟩
            obtain ⟨hcw2, hfw2, hzw2⟩ := hqw2.facts
            try simp at hzw2
            try have hs0w2 : w.heap.size < w2.heap.size := by omega
            try have hs1w2 : w.heap.size + 1 < w2.heap.size := by omega
            go_wp2_with fail
            refine (fits_any _ _ _ _ h1 h2).mono ?_
            rintro e w3 ⟨rfl, hqw3⟩
            obtain ⟨hcw3, hfw3, hzw3⟩ := hqw3.facts
            try simp at hzw3
            try have hs0w3 : w.heap.size < w3.heap.size := by omega
            try have hs1w3 : w.heap.size + 1 < w3.heap.size := by omega
            go_wp2_with fail
            go_ret2
            exact ⟨rfl, (by repeat (first | exact Q.refl _ | assumption | refine Q.drew ?_ | refine Q.drewN ?_ _ | refine Q.alloc ?_ _ | refine Q.set ?_ (by first | (simp; done) | (simp; omega) | omega) _ | refine Q.trans ?_ (by assumption)))⟩
          · rw [show cmpF 21 s b x y = (decide (x ≤ y), 0) by simp [cmpF, cmpB, hx, hy, h1, h2]]
            go_enter Try.func34, Try.ntmps34
            go_wp2_with fail
            refine (validate_ok _ _ _ h1 h2).mono ?_
            rintro e w1 ⟨rfl, hqw1⟩
            obtain ⟨hcw1, hfw1, hzw1⟩ := hqw1.facts
            try simp at hzw1
            try have hs0w1 : w.heap.size < w1.heap.size := by omega
            try have hs1w1 : w.heap.size + 1 < w1.heap.size := by omega
            go_wp2_with fail
            refine (fits_any _ _ _ _ h1 h2).mono ?_
            rintro e w2 ⟨rfl, hqw2⟩
            obtain ⟨hcw2, hfw2, hzw2⟩ := hqw2.facts
            try simp at hzw2
            try have hs0w2 : w.heap.size < w2.heap.size := by omega
            try have hs1w2 : w.heap.size + 1 < w2.heap.size := by omega
            go_wp2_with fail
            refine (fits_any _ _ _ _ h1 h2).mono ?_
            rintro e w3 ⟨rfl, hqw3⟩
            obtain ⟨hcw3, hfw3, hzw3⟩ := hqw3.facts
            try simp at hzw3
            try have hs0w3 : w.heap.size < w3.heap.size := by omega
            try have hs1w3 : w.heap.size + 1 < w3.heap.size := by omega
            go_wp2_with fail
            go_ret2
            exact ⟨rfl, (by repeat (first | exact Q.refl _ | assumption | refine Q.drew ?_ | refine Q.drewN ?_ _ | refine Q.alloc ?_ _ | refine Q.set ?_ (by first | (simp; done) | (simp; omega) | omega) _ | refine Q.trans ?_ (by assumption)))⟩
          · rw [show cmpF 22 s b x y = (decide (y < x), 0) by simp [cmpF, cmpB, hx, hy, h1, h2]]
            go_enter Try.func34, Try.ntmps34
            go_wp2_with fail
            refine (validate_ok _ _ _ h1 h2).mono ?_
            rintro e w1 ⟨rfl, hqw1⟩
            obtain ⟨hcw1, hfw1, hzw1⟩ := hqw1.facts
            try simp at hzw1
            try have hs0w1 : w.heap.size < w1.heap.size := by omega
            try have hs1w1 : w.heap.size + 1 < w1.heap.size := by omega
            go_wp2_with fail
            refine (fits_any _ _ _ _ h1 h2).mono ?_
            rintro e w2 ⟨rfl, hqw2⟩
            obtain ⟨hcw2, hfw2, hzw2⟩ := hqw2.facts
            try simp at hzw2
            try have hs0w2 : w.heap.size < w2.heap.size := by omega
            try have hs1w2 : w.heap.size + 1 < w2.heap.size := by omega
            go_wp2_with fail
            refine (fits_any _ _ _ _ h1 h2).mono ?_
            rintro e w3 ⟨rfl, hqw3⟩
            obtain ⟨hcw3, hfw3, hzw3⟩ := hqw3.facts
            try simp at hzw3
            try have hs0w3 : w.heap.size < w3.heap.size := by omega
            try have hs1w3 : w.heap.size + 1 < w3.heap.size := by omega
            go_wp2_with fail
            go_ret2
            exact ⟨rfl, (by repeat (first | exact Q.refl _ | assumption | refine Q.drew ?_ | refine Q.drewN ?_ _ | refine Q.alloc ?_ _ | refine Q.set ?_ (by first | (simp; done) | (simp; omega) | omega) _ | refine Q.trans ?_ (by assumption)))⟩
          · rw [show cmpF 23 s b x y = (decide (y ≤ x), 0) by simp [cmpF, cmpB, hx, hy, h1, h2]]
            go_enter Try.func34, Try.ntmps34
            go_wp2_with fail
            refine (validate_ok _ _ _ h1 h2).mono ?_
            rintro e w1 ⟨rfl, hqw1⟩
            obtain ⟨hcw1, hfw1, hzw1⟩ := hqw1.facts
            try simp at hzw1
            try have hs0w1 : w.heap.size < w1.heap.size := by omega
            try have hs1w1 : w.heap.size + 1 < w1.heap.size := by omega
            go_wp2_with fail
            refine (fits_any _ _ _ _ h1 h2).mono ?_
            rintro e w2 ⟨rfl, hqw2⟩
            obtain ⟨hcw2, hfw2, hzw2⟩ := hqw2.facts
            try simp at hzw2
            try have hs0w2 : w.heap.size < w2.heap.size := by omega
            try have hs1w2 : w.heap.size + 1 < w2.heap.size := by omega
            go_wp2_with fail
            refine (fits_any _ _ _ _ h1 h2).mono ?_
            rintro e w3 ⟨rfl, hqw3⟩
            obtain ⟨hcw3, hfw3, hzw3⟩ := hqw3.facts
            try simp at hzw3
            try have hs0w3 : w.heap.size < w3.heap.size := by omega
            try have hs1w3 : w.heap.size + 1 < w3.heap.size := by omega
            go_wp2_with fail
            go_ret2
            exact ⟨rfl, (by repeat (first | exact Q.refl _ | assumption | refine Q.drew ?_ | refine Q.drewN ?_ _ | refine Q.alloc ?_ _ | refine Q.set ?_ (by first | (simp; done) | (simp; omega) | omega) _ | refine Q.trans ?_ (by assumption)))⟩
        · rw [show cmpF op s b x y = (false, 1) by unfold cmpF; rw [if_neg (by omega)]]
          have o1 : (op == 18) = false := by simp; omega
          have o2 : (op == 19) = false := by simp; omega
          have o3 : (op == 20) = false := by simp; omega
          have o4 : (op == 21) = false := by simp; omega
          have o5 : (op == 22) = false := by simp; omega
          have o6 : (op == 23) = false := by simp; omega
          clear ho
          go_enter Try.func34, Try.ntmps34
          go_wp2_with fail
          refine (validate_ok _ _ _ h1 h2).mono ?_
          rintro e w1 ⟨rfl, hqw1⟩
          obtain ⟨hcw1, hfw1, hzw1⟩ := hqw1.facts
          try simp at hzw1
          try have hs0w1 : w.heap.size < w1.heap.size := by omega
          try have hs1w1 : w.heap.size + 1 < w1.heap.size := by omega
          go_wp2_with fail
          refine (fits_any _ _ _ _ h1 h2).mono ?_
          rintro e w2 ⟨rfl, hqw2⟩
          obtain ⟨hcw2, hfw2, hzw2⟩ := hqw2.facts
          try simp at hzw2
          try have hs0w2 : w.heap.size < w2.heap.size := by omega
          try have hs1w2 : w.heap.size + 1 < w2.heap.size := by omega
          go_wp2_with fail
          refine (fits_any _ _ _ _ h1 h2).mono ?_
          rintro e w3 ⟨rfl, hqw3⟩
          obtain ⟨hcw3, hfw3, hzw3⟩ := hqw3.facts
          try simp at hzw3
          try have hs0w3 : w.heap.size < w3.heap.size := by omega
          try have hs1w3 : w.heap.size + 1 < w3.heap.size := by omega
          go_wp2_with fail
          go_ret2
          exact ⟨rfl, (by repeat (first | exact Q.refl _ | assumption | refine Q.drew ?_ | refine Q.drewN ?_ _ | refine Q.alloc ?_ _ | refine Q.set ?_ (by first | (simp; done) | (simp; omega) | omega) _ | refine Q.trans ?_ (by assumption)))⟩
  · rw [show cmpF op s b x y = (false, 1) by simp [cmpF, hv]]
    go_enter Try.func34, Try.ntmps34
    go_wp2_with fail
    refine (validate_bad _ _ _ hv).mono ?_
    rintro e w1 ⟨rfl, hqw1⟩
    obtain ⟨hcw1, hfw1, hzw1⟩ := hqw1.facts
    try simp at hzw1
    try have hs0w1 : w.heap.size < w1.heap.size := by omega
    try have hs1w1 : w.heap.size + 1 < w1.heap.size := by omega
    go_wp2_with fail
    go_ret2
    exact ⟨rfl, (by repeat (first | exact Q.refl _ | assumption | refine Q.drew ?_ | refine Q.drewN ?_ _ | refine Q.alloc ?_ _ | refine Q.set ?_ (by first | (simp; done) | (simp; omega) | omega) _ | refine Q.trans ?_ (by assumption)))⟩
theorem Holds_any (op x y : Int) (w : World) (h : 18 ≤ op ∧ op ≤ 23) : Calls Try.prog 60 #[.int .i64 op, .int .i64 x, .int .i64 y] w fun e w' => e = .returned (.bool (cmpB op x y)) ∧ w = w' := by
  have hop : op = 18 ∨ op = 19 ∨ op = 20 ∨ op = 21 ∨ op = 22 ∨ op = 23 := by omega
  clear h
  rcases hop with rfl | rfl | rfl | rfl | rfl | rfl
  · go_enter Try.func60, Try.ntmps60
    go_wp2_with fail
    go_ret
    exact ⟨rfl, rfl⟩
  · go_enter Try.func60, Try.ntmps60
    go_wp2_with fail
    go_ret
    exact ⟨rfl, rfl⟩
  · go_enter Try.func60, Try.ntmps60
    go_wp2_with fail
    go_ret
    exact ⟨rfl, rfl⟩
  · go_enter Try.func60, Try.ntmps60
    go_wp2_with fail
    go_ret
    exact ⟨rfl, rfl⟩
  · go_enter Try.func60, Try.ntmps60
    go_wp2_with fail
    go_ret
    exact ⟨rfl, rfl⟩
  · go_enter Try.func60, Try.ntmps60
    go_wp2_with fail
    go_ret
    exact ⟨rfl, rfl⟩
theorem rCompare_any (op : Int) (s : Bool) (b x y : Int) (w : World) :
    Calls Try.prog 35 #[.int .i64 op, .agg #[.bool s, .int .i64 b], .int .i64 x, .int .i64 y] w
      fun e w' => e = .returned (.tuple #[.bool (cmpF op s b x y).1, .int .i64 (cmpF op s b x y).2]) ∧ Q w w' := by
  by_cases ho : 18 ≤ op ∧ op ≤ 23
  · have hi : withinB op 18 23 = true := by simp [withinB]; omega
    cases ha : (decide (1 ≤ b ∧ b ≤ 31) && (fitsB s b x && fitsB s b y))
    · rw [show cmpF op s b x y = (false, 1) by unfold cmpF; rw [ha]; simp]
      have HA := hide ha
      clear ha
      go_enter Try.func35, Try.ntmps35
      go_wp2_with fail
      refine (Within_any _ _ _ _).mono ?_
      rintro e w1 ⟨rfl, rfl⟩
      go_wp2_with fail
      refine (rasked_bad _ _ _ _ _ HA.out).mono ?_
      rintro e w2 ⟨rfl, hqw2⟩
      obtain ⟨hcw2, hfw2, hzw2⟩ := hqw2.facts
      try simp at hzw2
      try have hs0w2 : w.heap.size < w2.heap.size := by omega
      try have hs1w2 : w.heap.size + 1 < w2.heap.size := by omega
      go_wp2_with fail
      go_ret2
      exact ⟨rfl, (by repeat (first | exact Q.refl _ | assumption | refine Q.drew ?_ | refine Q.drewN ?_ _ | refine Q.alloc ?_ _ | refine Q.set ?_ (by first | (simp; done) | (simp; omega) | omega) _ | refine Q.trans ?_ (by assumption)))⟩
    · rw [show cmpF op s b x y = (cmpB op x y, 0) by unfold cmpF; rw [ha, if_pos ⟨rfl, ho⟩]]
      have hp : (1 ≤ b ∧ b ≤ 31) ∧ fitsB s b x = true ∧ fitsB s b y = true := by simpa using ha
      obtain ⟨⟨h1, h2⟩, hx, hy⟩ := hp
      clear ha
      go_enter Try.func35, Try.ntmps35
      go_wp2_with fail
      refine (Within_any _ _ _ _).mono ?_
      rintro e w1 ⟨rfl, rfl⟩
      go_wp2_with fail
      refine (rasked_ok _ _ _ _ _ h1 h2 hx hy).mono ?_
      rintro e w2 ⟨rfl, hqw2⟩
      obtain ⟨hcw2, hfw2, hzw2⟩ := hqw2.facts
      try simp at hzw2
      try have hs0w2 : w.heap.size < w2.heap.size := by omega
      try have hs1w2 : w.heap.size + 1 < w2.heap.size := by omega
      go_wp2_with fail
      refine (Holds_any _ _ _ _ ho).mono ?_
      rintro e w3 ⟨rfl, rfl⟩
      go_wp2_with fail
      go_ret2
      exact ⟨rfl, (by repeat (first | exact Q.refl _ | assumption | refine Q.drew ?_ | refine Q.drewN ?_ _ | refine Q.alloc ?_ _ | refine Q.set ?_ (by first | (simp; done) | (simp; omega) | omega) _ | refine Q.trans ?_ (by assumption)))⟩
  · have hi : withinB op 18 23 = false := by simp [withinB]; omega
    rw [show cmpF op s b x y = (false, 1) by unfold cmpF; rw [if_neg (by omega)]]
    clear ho
    go_enter Try.func35, Try.ntmps35
    go_wp2_with fail
    refine (Within_any _ _ _ _).mono ?_
    rintro e w1 ⟨rfl, rfl⟩
    go_wp2_with fail
    go_ret2
    exact ⟨rfl, (by repeat (first | exact Q.refl _ | assumption | refine Q.drew ?_ | refine Q.drewN ?_ _ | refine Q.alloc ?_ _ | refine Q.set ?_ (by first | (simp; done) | (simp; omega) | omega) _ | refine Q.trans ?_ (by assumption)))⟩
theorem NumCompares_walk (op : Int) (s : Bool) (b x y : Int) (w : World) :
    Calls Try.prog 10 #[.int .i64 op, .agg #[.bool s, .int .i64 b], .agg #[.int .i64 x, .int .i64 y]] w fun e w' => e = .returned (.bool true) ∧ Q w w' := by
  have c1 := Compare_any op s b x y
  have c2 := rCompare_any op s b x y
  have c3 := Ones_any s b x
  have c4 := rOnes_any s b x
  generalize cmpF op s b x y = C at *
  generalize onesF s b x = O at *
  obtain ⟨d1, d2⟩ := C
  obtain ⟨o1, o2⟩ := O
  dsimp only at c1 c2 c3 c4
  have C1 := hide c1
  have C2 := hide c2
  have C3 := hide c3
  have C4 := hide c4
  clear c1 c2 c3 c4
  go_enter Try.func10, Try.ntmps10
  go_wp2_with fail
  refine (C1.out _).mono ?_
  rintro e w1 ⟨rfl, hqw1⟩
  obtain ⟨hcw1, hfw1, hzw1⟩ := hqw1.facts
  try simp at hzw1
  try have hs0w1 : w.heap.size < w1.heap.size := by omega
  try have hs1w1 : w.heap.size + 1 < w1.heap.size := by omega
  go_wp2_with fail
  refine (C2.out _).mono ?_
  rintro e w2 ⟨rfl, hqw2⟩
  obtain ⟨hcw2, hfw2, hzw2⟩ := hqw2.facts
  try simp at hzw2
  try have hs0w2 : w.heap.size < w2.heap.size := by omega
  try have hs1w2 : w.heap.size + 1 < w2.heap.size := by omega
  go_wp2_with fail
  refine (C3.out _).mono ?_
  rintro e w3 ⟨rfl, hqw3⟩
  obtain ⟨hcw3, hfw3, hzw3⟩ := hqw3.facts
  try simp at hzw3
  try have hs0w3 : w.heap.size < w3.heap.size := by omega
  try have hs1w3 : w.heap.size + 1 < w3.heap.size := by omega
  go_wp2_with fail
  refine (C4.out _).mono ?_
  rintro e w4 ⟨rfl, hqw4⟩
  obtain ⟨hcw4, hfw4, hzw4⟩ := hqw4.facts
  try simp at hzw4
  try have hs0w4 : w.heap.size < w4.heap.size := by omega
  try have hs1w4 : w.heap.size + 1 < w4.heap.size := by omega
  go_wp2_with fail
  refine (known_any _).mono ?_
  rintro e w5 ⟨rfl, hqw5⟩
  obtain ⟨hcw5, hfw5, hzw5⟩ := hqw5.facts
  try simp at hzw5
  try have hs0w5 : w.heap.size < w5.heap.size := by omega
  try have hs1w5 : w.heap.size + 1 < w5.heap.size := by omega
  go_wp2_with fail
  go_ret
  exact ⟨rfl, (by repeat (first | exact Q.refl _ | assumption | refine Q.drew ?_ | refine Q.drewN ?_ _ | refine Q.alloc ?_ _ | refine Q.set ?_ (by first | (simp; done) | (simp; omega) | omega) _ | refine Q.trans ?_ (by assumption)))⟩
end Go.Proofs.Ytcjljmegppnlcaa
