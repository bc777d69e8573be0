/- The walks of the digests, of the program and of the reference. Conditions: the slice reads as bytes. -/
import Derived.Test.YtfiopjgpokdnoaaRows
import Derived.Test.YtfiopjgpokdnoaaBy
import Derived.Test.YtfiopjgpokdnoaaPackPlain
import Derived.WalkLawsBesides
import Derived.WalkSpells
import Derived.Outline
namespace Go.Proofs.Ytfiopjgpokdnoaa
open Go.RowKit PP
set_option linter.unusedVariables false

theorem foldl_take {α : Type} (f : α → Nat → α) (x : α) (bs : List Nat) (k v : Nat) (h : bs.take (k + 1) = bs.take k ++ [v]) : (bs.take (k + 1)).foldl f x = f ((bs.take k).foldl f x) v := by
  rw [h, List.foldl_append]; rfl

theorem u32_xor_n (a b : Nat) (ha : a < 4294967296) (hb : b < 4294967296) : bits .xor .u32 (a : Int) (b : Int) = ((a ^^^ b : Nat) : Int) := by
  have hx := xor_lt32 ha hb
  show IntKind.u32.wrap ((BitVec.ofInt 32 (a : Int) ^^^ BitVec.ofInt 32 (b : Int)).toNat : Int) = _
  rw [BitVec.toNat_xor, BitVec.ofInt_natCast, BitVec.ofInt_natCast, BitVec.toNat_ofNat, BitVec.toNat_ofNat, Nat.mod_eq_of_lt (by simpa using ha), Nat.mod_eq_of_lt (by simpa using hb), IntKind.wrap_u32']
  omega
theorem u32_or_n (a b : Nat) (ha : a < 4294967296) (hb : b < 4294967296) : bits .or .u32 (a : Int) (b : Int) = ((a ||| b : Nat) : Int) := by
  have hx : a ||| b < 4294967296 := Nat.or_lt_two_pow (n := 32) ha hb
  show IntKind.u32.wrap ((BitVec.ofInt 32 (a : Int) ||| BitVec.ofInt 32 (b : Int)).toNat : Int) = _
  rw [BitVec.toNat_or, BitVec.ofInt_natCast, BitVec.ofInt_natCast, BitVec.toNat_ofNat, BitVec.toNat_ofNat, Nat.mod_eq_of_lt (by simpa using ha), Nat.mod_eq_of_lt (by simpa using hb), IntKind.wrap_u32']
  omega

theorem u32_shl_or (a b : Nat) (ha : a < 65536) (hb : b < 65536) : bits .or .u32 ((a : Int) * 65536) (b : Int) = ((a * 65536 + b : Nat) : Int) := by
  have e : (a : Int) * 65536 = ((a * 65536 : Nat) : Int) := by simp
  rw [e, u32_or_n _ _ (by omega) (by omega)]
  have := Nat.two_pow_add_eq_or_of_lt (i := 16) (b := b) (by simpa using hb) a
  simp only [Nat.reducePow] at this
  rw [Nat.mul_comm a 65536, ← this]
theorem Sum_any (A : Option Addr) (n c : Nat) (bs : List Nat) (w : World) (h : Bytes w A n c bs) (hn : n ≤ 4096) :
    Calls Try.prog 12 #[.slice A n c] w fun e w' => e = .returned (.tuple #[.int .u32 ((sumF bs).2 * 65536 + (sumF bs).1 : Nat), .int .i64 0]) ∧ w = w' := by
  obtain ⟨hr, hl, hs, _, _⟩ := h
  subst hl
  have HS := hide hs
  clear hs
  have hlen : (bs.length : Int) ≤ 4096 := by omega
  go_enter Try.func12, Try.ntmps12
  go_wp2_with fail
  go_loop [4, 5, 13] (fun x y i => ∃ k : Nat, k ≤ bs.length ∧ i = .int .i64 k ∧ x = .int .u32 (sumF (bs.take k)).1 ∧ y = .int .u32 (sumF (bs.take k)).2) (fun _ _ i => bs.length - (intOf i).toNat)
  case atStart => exact ⟨0, by omega, by go_num, rfl, rfl⟩
  case round =>
    obtain ⟨k, hk, rfl, rfl, rfl⟩ := hrel
    obtain ⟨q1, q2⟩ := sumF_bd (bs.take k)
    by_cases hlt : k < bs.length
    · obtain ⟨bb, o, v, rfl, hbb, hc, hv, _, ht⟩ := rd_byte hr HS.out k hlt
      have hf := foldl_take sStep (1, 0) bs k v ht
      change sumF (bs.take (k + 1)) = sStep (sumF (bs.take k)) v at hf
      have HF := hide hf
      clear hf ht
      generalize sumF (bs.take k) = S at *
      obtain ⟨s1, s2⟩ := S
      dsimp only at q1 q2 ⊢
      have hlt' : (k : Int) < (bs.length : Int) := by omega
      go_wp2_with fail
      go_round
      case rel => exact ⟨k + 1, by omega, by go_num, by rw [HF.out]; exact congrArg (Value.int .u32) (by simp [sStep]), by rw [HF.out]; exact congrArg (Value.int .u32) (by simp [sStep])⟩
      case measure => simp [intOf] <;> omega
    · have ek : k = bs.length := by omega
      subst ek
      rw [List.take_length] at q1 q2 ⊢
      obtain ⟨S, hS⟩ : ∃ S, sumF bs = S := ⟨_, rfl⟩
      rw [hS] at q1 q2 ⊢
      have HSS := hide hS
      clear hS
      obtain ⟨s1, s2⟩ := S
      dsimp only at q1 q2 ⊢
      go_wp2_with fail
      go_ret2
      refine ⟨?_, rfl⟩
      rw [HSS.out]
      have e := u32_shl_or s2 s1 (by omega) (by omega)
      show Ending.returned (.tuple #[.int .u32 (bits .or .u32 ((s2 : Int) * 65536) (s1 : Int)), .int .i64 0]) = _
      rw [e]
      simp

theorem mix_any (A : Option Addr) (n c : Nat) (bs : List Nat) (x0 : Nat) (w : World) (h : Bytes w A n c bs) (hx0 : x0 < 4294967296) :
    Calls Try.prog 42 #[.int .u32 (x0 : Nat), .slice A n c] w fun e w' => e = .returned (.int .u32 (bs.foldl mStep x0 : Nat)) ∧ w = w' := by
  obtain ⟨hr, hl, hs, hc1, hc2⟩ := h
  subst hl
  have HS := hide hs
  clear hs
  have hlen : (bs.length : Int) ≤ 9223372036854775807 := by omega
  go_enter Try.func42, Try.ntmps42
  go_wp2_with fail
  go_loop [0, 9] (fun x i => ∃ k : Nat, k ≤ bs.length ∧ i = .int .i64 k ∧ x = .int .u32 ((bs.take k).foldl mStep x0 : Nat)) (fun _ i => bs.length - (intOf i).toNat)
  case atStart => exact ⟨0, by omega, by go_num, rfl⟩
  case round =>
    obtain ⟨k, hk, rfl, rfl⟩ := hrel
    by_cases hlt : k < bs.length
    · obtain ⟨bb, o, v, rfl, hbb, hc, hv, _, ht⟩ := rd_byte hr HS.out k hlt
      have hX : (bs.take k).foldl mStep x0 < 4294967296 := foldl_lt (fun x c _ _ => mStep_lt x c) _ _ hx0 (fun d hd => HS.out d (List.mem_of_mem_take hd))
      have hf := foldl_take mStep x0 bs k v ht
      have HF := hide hf
      clear hf ht
      generalize (bs.take k).foldl mStep x0 = X at *
      have hlt' : (k : Int) < (bs.length : Int) := by omega
      have e1 := u32_xor_n X v hX (by omega)
      have e2 : IntKind.u32.wrap (((X ^^^ v : Nat) : Int) * 16777619) = (mStep X v : Int) := by
        rw [IntKind.wrap_u32']; unfold mStep; simp
      have hy := xor_lt32 hX (show v < 4294967296 by omega)
      have hZ := mStep_lt X v
      generalize mStep X v = Z at *
      generalize X ^^^ v = Y at *
      go_wp2_with fail
      go_round
      case rel => exact ⟨k + 1, by omega, by go_num, by rw [HF.out]⟩
      case measure => simp [intOf] <;> omega
    · have ek : k = bs.length := by omega
      subst ek
      rw [List.take_length]
      go_wp2_with fail
      go_ret
      exact ⟨rfl, rfl⟩
theorem Mix_any (A : Option Addr) (n c : Nat) (bs : List Nat) (w : World) (h : Bytes w A n c bs) (hn : n ≤ 4096) :
    Calls Try.prog 16 #[.slice A n c] w fun e w' => e = .returned (.tuple #[.int .u32 (mixF bs : Nat), .int .i64 0]) ∧ w = w' := by
  have hn' : (n : Int) ≤ 4096 := by omega
  have H := hide h
  clear h
  go_enter Try.func16, Try.ntmps16
  go_wp2_with fail
  refine (mix_any A n c bs 2166136261 _ H.out (by omega)).mono ?_
  rintro e w1 ⟨rfl, rfl⟩
  go_wp2_with fail
  go_ret2
  exact ⟨rfl, rfl⟩

theorem cStep_take (k : Nat) (t : Nat) : cbs (k + 1) t = cb (cbs k t) := cbs_succ k t
theorem u32_and1 (t : Nat) (h : t < 4294967296) : bits .and .u32 (t : Int) 1 = ((t % 2 : Nat) : Int) := by
  have hx : t &&& 1 < 4294967296 := Nat.lt_of_le_of_lt Nat.and_le_left h
  show IntKind.u32.wrap ((BitVec.ofInt 32 (t : Int) &&& BitVec.ofInt 32 ((1 : Nat) : Int)).toNat : Int) = _
  rw [BitVec.toNat_and, BitVec.ofInt_natCast, BitVec.ofInt_natCast, BitVec.toNat_ofNat, BitVec.toNat_ofNat, Nat.mod_eq_of_lt (by simpa using h), IntKind.wrap_u32']
  rw [show 1 % 2 ^ 32 = 1 by decide, Nat.and_one_is_mod]
  omega
theorem Cyclic_any (A : Option Addr) (n c : Nat) (bs : List Nat) (w : World) (h : Bytes w A n c bs) (hn : n ≤ 4096) :
    Calls Try.prog 14 #[.slice A n c] w fun e w' => e = .returned (.tuple #[.int .u32 (cycF bs ^^^ 4294967295 : Nat), .int .i64 0]) ∧ w = w' := by
  obtain ⟨hr, hl, hs, hc1, hc2⟩ := h
  subst hl
  have HS := hide hs
  clear hs
  have hlen : (bs.length : Int) ≤ 4096 := by omega
  go_enter Try.func14, Try.ntmps14
  go_wp2_with fail
  go_loop [4, 13] (fun x i => ∃ k : Nat, k ≤ bs.length ∧ i = .int .i64 k ∧ x = .int .u32 (cycF (bs.take k) : Nat)) (fun _ i => bs.length - (intOf i).toNat)
  case atStart => exact ⟨0, by omega, by go_num, rfl⟩
  case round =>
    obtain ⟨k, hk, rfl, rfl⟩ := hrel
    by_cases hlt : k < bs.length
    · obtain ⟨bb, o, v, rfl, hbb, hc, hv, _, ht⟩ := rd_byte hr HS.out k hlt
      have hX := cycF_lt (bs.take k) (fun d hd => HS.out d (List.mem_of_mem_take hd))
      have hf := foldl_take cStep 4294967295 bs k v ht
      change cycF (bs.take (k + 1)) = cStep (cycF (bs.take k)) v at hf
      have HF := hide hf
      clear hf ht
      generalize cycF (bs.take k) = X at *
      have hlt' : (k : Int) < (bs.length : Int) := by omega
      have e1 := u32_xor_n X v hX (by omega)
      have hy := xor_lt32 hX (show v < 4294967296 by omega)
      have hfin : cStep X v = cbs 8 (X ^^^ v) := rfl
      have HFIN := hide hfin
      clear hfin
      generalize X ^^^ v = Y at *
      go_wp2_with fail
      go_loop [4, 21] (fun x j => ∃ m : Nat, m ≤ 8 ∧ j = .int .i64 m ∧ x = .int .u32 (cbs m Y : Nat)) (fun _ j => 8 - (intOf j).toNat)
      case atStart => exact ⟨0, by omega, by go_num, rfl⟩
      case round =>
        obtain ⟨m, hm, rfl, rfl⟩ := hrel
        have hT := cbs_lt m hy
        have hs := cbs_succ m Y
        obtain ⟨T, hTe⟩ : ∃ T, cbs m Y = T := ⟨_, rfl⟩
        rw [hTe] at hT hs ⊢
        have HS2 := hide hs
        have HTE := hide hTe
        clear hs hTe
        by_cases hlm : m < 8
        · have f1 := u32_and1 T hT
          have f2 : bits .xor .u32 ((T : Int) / 2) 3988292384 = ((T / 2 ^^^ 3988292384 : Nat) : Int) := u32_xor_n (T / 2) 3988292384 (by omega) (by omega)
          by_cases hb : T % 2 = 1
          · have hcb : cb T = T / 2 ^^^ 3988292384 := by unfold cb; rw [if_pos hb]
            rw [hb] at f1
            have HB := hide hcb
            have hr := xor_lt32 (show T / 2 < 4294967296 by omega) (show 3988292384 < 4294967296 by omega)
            clear hb hcb
            generalize T / 2 ^^^ 3988292384 = R at *
            go_wp2_with fail
            go_round
            case rel => exact ⟨m + 1, by omega, by go_num, by rw [HS2.out, HB.out]⟩
            case measure => simp [intOf] <;> omega
          · have hb0 : T % 2 = 0 := by omega
            have hcb : cb T = T / 2 := by unfold cb; rw [if_neg hb]
            rw [hb0] at f1
            have HB := hide hcb
            clear hb hb0 hcb
            go_wp2_with fail
            go_round
            case rel => exact ⟨m + 1, by omega, by go_num, by rw [HS2.out, HB.out]; exact congrArg (Value.int .u32) (by simp)⟩
            case measure => simp [intOf] <;> omega
        · have em : m = 8 := by omega
          subst em
          go_wp2_with fail
          go_round
          case rel => exact ⟨k + 1, by omega, by go_num, by rw [HF.out, HFIN.out, HTE.out]⟩
          case measure => simp [intOf] <;> omega
    · have ek : k = bs.length := by omega
      subst ek
      rw [List.take_length]
      have hX := cycF_lt bs HS.out
      obtain ⟨X, hS⟩ : ∃ X, cycF bs = X := ⟨_, rfl⟩
      rw [hS] at hX ⊢
      have HSS := hide hS
      clear hS
      go_wp2_with fail
      go_ret2
      refine ⟨?_, rfl⟩
      rw [HSS.out, Nat.xor_comm]
      have e : bits .xor .u32 IntKind.u32.max (X : Int) = ((4294967295 ^^^ X : Nat) : Int) := u32_xor_n 4294967295 X (by omega) hX
      show Ending.returned (.tuple #[.int .u32 (bits .xor .u32 IntKind.u32.max (X : Int)), .int .i64 0]) = _
      rw [e]

/-! ### the reference -/
theorem i64_xor_n (a b : Nat) (ha : a < 4294967296) (hb : b < 4294967296) : bits .xor .i64 (a : Int) (b : Int) = ((a ^^^ b : Nat) : Int) := by
  have hx := xor_lt32 ha hb
  show IntKind.i64.wrap ((BitVec.ofInt 64 (a : Int) ^^^ BitVec.ofInt 64 (b : Int)).toNat : Int) = _
  rw [BitVec.toNat_xor, BitVec.ofInt_natCast, BitVec.ofInt_natCast, BitVec.toNat_ofNat, BitVec.toNat_ofNat, Nat.mod_eq_of_lt (by omega), Nat.mod_eq_of_lt (by omega)]
  simp [IntKind.wrap, IntKind.bits, IntKind.signed]
  omega
theorem fits_ok (A : Option Addr) (n c : Nat) (w : World) (hn : n ≤ 4096) : Calls Try.prog 41 #[.slice A n c] w fun e w' => e = .returned (.int .i64 0) ∧ w = w' := by
  have hn' : (n : Int) ≤ 4096 := by omega
  go_enter Try.func41, Try.ntmps41
  go_wp2_with fail
  go_ret
  exact ⟨rfl, rfl⟩
theorem fits_big (A : Option Addr) (n c : Nat) (w : World) (hn : 4096 < n) : Calls Try.prog 41 #[.slice A n c] w fun e w' => e = .returned (.int .i64 3) ∧ w = w' := by
  have hn' : 4096 < (n : Int) := by omega
  go_enter Try.func41, Try.ntmps41
  go_wp2_with fail
  go_ret
  exact ⟨rfl, rfl⟩
theorem rSum_any (A : Option Addr) (n c : Nat) (bs : List Nat) (w : World) (h : Bytes w A n c bs) (hn : n ≤ 4096) :
    Calls Try.prog 13 #[.slice A n c] w fun e w' => e = .returned (.tuple #[.int .u32 ((sumF bs).2 * 65536 + (sumF bs).1 : Nat), .int .i64 0]) ∧ w = w' := by
  obtain ⟨hr, hl, hs, _, _⟩ := h
  subst hl
  have HS := hide hs
  clear hs
  have hlen : (bs.length : Int) ≤ 4096 := by omega
  go_enter Try.func13, Try.ntmps13
  go_wp2_with fail
  refine (fits_ok _ _ _ _ hn).mono ?_
  rintro e w1 ⟨rfl, rfl⟩
  go_wp2_with fail
  go_loop [5, 6, 7] (fun x y i => ∃ k : Nat, k ≤ bs.length ∧ i = .int .i64 k ∧ x = .int .i64 (sumF (bs.take k)).1 ∧ y = .int .i64 (sumF (bs.take k)).2) (fun _ _ i => bs.length - (intOf i).toNat)
  case atStart => exact ⟨0, by omega, by go_num, rfl, rfl⟩
  case round =>
    obtain ⟨k, hk, rfl, rfl, rfl⟩ := hrel
    obtain ⟨q1, q2⟩ := sumF_bd (bs.take k)
    by_cases hlt : k < bs.length
    · obtain ⟨bb, o, v, rfl, hbb, hc, hv, _, ht⟩ := rd_byte hr HS.out k hlt
      have hf := foldl_take sStep (1, 0) bs k v ht
      change sumF (bs.take (k + 1)) = sStep (sumF (bs.take k)) v at hf
      have HF := hide hf
      clear hf ht
      generalize sumF (bs.take k) = S at *
      obtain ⟨s1, s2⟩ := S
      dsimp only at q1 q2 ⊢
      have hlt' : (k : Int) < (bs.length : Int) := by omega
      go_wp2_with fail
      go_round
      case rel => exact ⟨k + 1, by omega, by go_num, by rw [HF.out]; exact congrArg (Value.int .i64) (by simp [sStep]), by rw [HF.out]; exact congrArg (Value.int .i64) (by simp [sStep])⟩
      case measure => simp [intOf] <;> omega
    · have ek : k = bs.length := by omega
      subst ek
      rw [List.take_length] at q1 q2 ⊢
      obtain ⟨S, hS⟩ : ∃ S, sumF bs = S := ⟨_, rfl⟩
      rw [hS] at q1 q2 ⊢
      have HSS := hide hS
      clear hS
      obtain ⟨s1, s2⟩ := S
      dsimp only at q1 q2 ⊢
      go_wp2_with fail
      go_ret2
      refine ⟨?_, rfl⟩
      rw [HSS.out]
      show Ending.returned (.tuple #[.int .u32 (65536 * (s2 : Int) + (s1 : Int)), .int .i64 0]) = _
      rw [Int.mul_comm]

theorem Mixed_any (A : Option Addr) (n c : Nat) (bs : List Nat) (w : World) (h : Bytes w A n c bs) :
    Calls Try.prog 43 #[.slice A n c] w fun e w' => e = .returned (.int .u32 (mixF bs : Nat)) ∧ w = w' := by
  obtain ⟨hr, hl, hs, hc1, hc2⟩ := h
  subst hl
  have HS := hide hs
  clear hs
  have hlen : (bs.length : Int) ≤ 9223372036854775807 := by omega
  go_enter Try.func43, Try.ntmps43
  go_wp2_with fail
  go_loop [3, 4] (fun x i => ∃ k : Nat, k ≤ bs.length ∧ i = .int .i64 k ∧ x = .int .i64 (mixF (bs.take k) : Nat)) (fun _ i => bs.length - (intOf i).toNat)
  case atStart => exact ⟨0, by omega, by go_num, rfl⟩
  case round =>
    obtain ⟨k, hk, rfl, rfl⟩ := hrel
    have hX := mixF_lt (bs.take k) (fun d hd => HS.out d (List.mem_of_mem_take hd))
    by_cases hlt : k < bs.length
    · obtain ⟨bb, o, v, rfl, hbb, hc, hv, _, ht⟩ := rd_byte hr HS.out k hlt
      have hf := foldl_take mStep 2166136261 bs k v ht
      change mixF (bs.take (k + 1)) = mStep (mixF (bs.take k)) v at hf
      have HF := hide hf
      clear hf ht
      generalize mixF (bs.take k) = X at *
      have hlt' : (k : Int) < (bs.length : Int) := by omega
      have e1 := i64_xor_n X v hX (by omega)
      have hy := xor_lt32 hX (show v < 4294967296 by omega)
      have hm : mStep X v = (X ^^^ v) * 16777619 % 4294967296 := rfl
      have HM := hide hm
      clear hm
      generalize X ^^^ v = Y at *
      go_wp2_with fail
      go_round
      case rel => exact ⟨k + 1, by omega, by go_num, by rw [HF.out, HM.out]; exact congrArg (Value.int .i64) (by simp)⟩
      case measure => simp [intOf] <;> omega
    · have ek : k = bs.length := by omega
      subst ek
      rw [List.take_length] at hX ⊢
      go_wp2_with fail
      go_ret
      exact ⟨rfl, rfl⟩
theorem rMix_any (A : Option Addr) (n c : Nat) (bs : List Nat) (w : World) (h : Bytes w A n c bs) (hn : n ≤ 4096) :
    Calls Try.prog 17 #[.slice A n c] w fun e w' => e = .returned (.tuple #[.int .u32 (mixF bs : Nat), .int .i64 0]) ∧ w = w' := by
  have H := hide h
  clear h
  go_enter Try.func17, Try.ntmps17
  go_wp2_with fail
  refine (fits_ok _ _ _ _ hn).mono ?_
  rintro e w1 ⟨rfl, rfl⟩
  go_wp2_with fail
  refine (Mixed_any A n c bs _ H.out).mono ?_
  rintro e w1 ⟨rfl, rfl⟩
  go_wp2_with fail
  go_ret2
  exact ⟨rfl, rfl⟩

theorem u32_and1' (t : Nat) (h : t < 4294967296) (k : Nat) : bits .and .u32 ((t : Int) / 2 ^ k) 1 = ((t / 2 ^ k % 2 : Nat) : Int) := by
  have := u32_and1 (t / 2 ^ k) (Nat.lt_of_le_of_lt (Nat.div_le_self _ _) h)
  simpa using this
theorem rCyclic_any (A : Option Addr) (n c : Nat) (bs : List Nat) (w : World) (h : Bytes w A n c bs) (hn : n ≤ 4096) :
    Calls Try.prog 15 #[.slice A n c] w fun e w' => e = .returned (.tuple #[.int .u32 (cycF bs ^^^ 4294967295 : Nat), .int .i64 0]) ∧ w = w' := by
  obtain ⟨hr, hl, hs, hc1, hc2⟩ := h
  subst hl
  have HS := hide hs
  clear hs
  have hlen : (bs.length : Int) ≤ 4096 := by omega
  go_enter Try.func15, Try.ntmps15
  go_wp2_with fail
  refine (fits_ok _ _ _ _ hn).mono ?_
  rintro e w1 ⟨rfl, rfl⟩
  go_wp2_with fail
  go_loop [5, 6] (fun x i => ∃ k : Nat, k ≤ bs.length ∧ i = .int .i64 k ∧ x = .int .u32 (cycF (bs.take k) : Nat)) (fun _ i => bs.length - (intOf i).toNat)
  case atStart => exact ⟨0, by omega, by go_num, rfl⟩
  case round =>
    obtain ⟨k, hk, rfl, rfl⟩ := hrel
    have hX := cycF_lt (bs.take k) (fun d hd => HS.out d (List.mem_of_mem_take hd))
    by_cases hlt : k < bs.length
    · obtain ⟨bb, o, v, rfl, hbb, hc, hv, _, ht⟩ := rd_byte hr HS.out k hlt
      have hf := foldl_take cStep 4294967295 bs k v ht
      change cycF (bs.take (k + 1)) = cStep (cycF (bs.take k)) v at hf
      rw [cStep_rbs _ _ hv] at hf
      have HF := hide hf
      clear hf ht
      generalize cycF (bs.take k) = X at *
      have hlt' : (k : Int) < (bs.length : Int) := by omega
      go_wp2_with fail
      go_loop [5, 7] (fun x j => ∃ m : Nat, m ≤ 8 ∧ j = .int .i64 m ∧ x = .int .u32 (rbs v m X : Nat)) (fun _ j => 8 - (intOf j).toNat)
      case atStart => exact ⟨0, by omega, by go_num, rfl⟩
      case round =>
        obtain ⟨m, hm, rfl, rfl⟩ := hrel
        have hT := rbs_lt v m hX
        have hs : rbs v (m + 1) X = rb (rbs v m X) (v / 2 ^ m % 2) := rfl
        obtain ⟨T, hTe⟩ : ∃ T, rbs v m X = T := ⟨_, rfl⟩
        rw [hTe] at hT hs ⊢
        have HS2 := hide hs
        have HTE := hide hTe
        clear hs hTe
        by_cases hlm : m < 8
        · have f1 := u32_and1 T hT
          have f2 : bits .xor .u32 ((T : Int) / 2) 3988292384 = ((T / 2 ^^^ 3988292384 : Nat) : Int) := u32_xor_n (T / 2) 3988292384 (by omega) (by omega)
          have f4 := u32_and1' v (by omega) m
          have ec : ((T : Int) % 2 = (v : Int) / 2 ^ m % 2) ↔ T % 2 = v / 2 ^ m % 2 := by
            have h1 : (v : Int) / 2 ^ m % 2 = ((v / 2 ^ m % 2 : Nat) : Int) := by simp
            rw [h1]; omega
          by_cases hb : T % 2 = v / 2 ^ m % 2
          · have g : ((T : Int) % 2 != (v : Int) / 2 ^ m % 2) = false := by simpa using ec.2 hb
            have hcb : rb T (v / 2 ^ m % 2) = T / 2 := by unfold rb; rw [if_pos hb]
            have HB := hide hcb
            clear hb hcb ec
            go_wp2_with fail
            go_round
            case rel => exact ⟨m + 1, by omega, by go_num, by rw [HS2.out, HB.out]; exact congrArg (Value.int .u32) (by simp)⟩
            case measure => simp [intOf] <;> omega
          · have g : ((T : Int) % 2 != (v : Int) / 2 ^ m % 2) = true := by simpa using fun e => hb (ec.1 e)
            have hcb : rb T (v / 2 ^ m % 2) = T / 2 ^^^ 3988292384 := by unfold rb; rw [if_neg hb]
            have HB := hide hcb
            clear hb hcb ec
            go_wp2_with fail
            go_round
            case rel => exact ⟨m + 1, by omega, by go_num, by rw [HS2.out, HB.out]⟩
            case measure => simp [intOf] <;> omega
        · have em : m = 8 := by omega
          subst em
          go_wp2_with fail
          go_round
          case rel => exact ⟨k + 1, by omega, by go_num, by rw [HF.out, HTE.out]⟩
          case measure => simp [intOf] <;> omega
    · have ek : k = bs.length := by omega
      subst ek
      rw [List.take_length] at hX ⊢
      obtain ⟨X, hS⟩ : ∃ X, cycF bs = X := ⟨_, rfl⟩
      rw [hS] at hX ⊢
      have HSS := hide hS
      clear hS
      have e : bits .xor .u32 (X : Int) 4294967295 = ((X ^^^ 4294967295 : Nat) : Int) := u32_xor_n X 4294967295 hX (by omega)
      go_wp2_with fail
      go_ret2
      refine ⟨?_, rfl⟩
      rw [HSS.out]
      rfl
end Go.Proofs.Ytfiopjgpokdnoaa
