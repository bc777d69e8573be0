/- The walks of Name and TypeName. Conditions: as each theorem says. -/
import Derived.Test.YtcjljmegppnlcaaDoorNumNp
namespace Go.Proofs.YtcjljmegppnlcaaDoor
open Go.RowKit NP
set_option linter.unusedVariables false
theorem dec_small_ : ∀ i : Nat, i < 32 → Lib.decDigits i = if i < 10 then [dgt i] else [dgt (i / 10), dgt (i % 10)] := by decide +kernel
theorem dec_txt {i : Nat} (h : i < 32) : Lib.decDigits i = txtN 10 i := by
  rw [dec_small_ i h]
  split
  · rw [txtN_lo (by omega)]
  · rw [txtN_hi (by omega) (by omega), txtN_lo (by omega)]
    rfl
theorem cons_strB (c : UInt8) (l : List UInt8) : (⟨#[c]⟩ : ByteArray) ++ strB l = strB (c :: l) := by
  refine ba_ext ?_
  rw [cons_data, toList_strB]
theorem nameL_size (s : Bool) {k : Nat} (h : k ≤ 31) : (strB (nameL s k)).size ≤ 42 := by
  rw [strB_size]
  unfold nameL
  have := txtN_len (b := 10) (by omega) 40 k (by omega)
  simp
  omega
theorem Name_ok (s : Bool) (k : Nat) (h1 : 1 ≤ k) (h2 : k ≤ 31) (w : World) : Calls Tryd.prog 4 #[.agg #[.bool s, .int .i64 (k : Nat)]] w fun e w' => e = .returned (.tuple #[.string (strB (nameL s k)), .int .i64 0]) ∧ Q w w' := by
  have C1 := hide (fun w => validate_ok s k w (by omega) (by omega))
  obtain ⟨T, hT⟩ : ∃ T, strB (txtN 10 k) = T := ⟨_, rfl⟩
  have C2 := hide (fun w => show Calls Tryd.prog 10 #[.int .i64 (k : Nat)] w fun e w' => e = .returned (.string T) ∧ w' = w from by have h := Tryd.strconv_Itoa_small k (by omega) w; rw [dec_txt (by omega)] at h; exact hT ▸ h)
  have hTs : T.size ≤ 41 := by rw [← hT, strB_size]; exact txtN_len (b := 10) (by omega) 40 k (by omega)
  have hk : (k : Int) ≤ 31 := by omega
  have hs1 : (⟨#[117]⟩ : ByteArray).size = 1 := rfl
  have hs2 : (⟨#[105]⟩ : ByteArray).size = 1 := rfl
  have hw2 : w.heap.size < (w.alloc (.cells #[.bool s, .int .i64 k] 23)).heap.size := by simp
  obtain ⟨w1, hw1⟩ : ∃ w1, w.alloc (.cells #[.bool s, .int .i64 (k : Nat)] 23) = w1 := ⟨_, rfl⟩
  have HW1 := hide hw1
  have hb1 : w1.heap[w.heap.size]? = some (.cells #[.bool s, .int .i64 (k : Nat)] 23 (0, 0)) := by rw [← hw1]; exact heap_alloc_new w _
  have HB1 := hide hb1
  have HQ1 := hide (show Q w w1 by rw [← hw1]; exact (Q.refl w).alloc _)
  have hs1' : w.heap.size < w1.heap.size := by rw [← hw1]; simp
  clear hw1 hw2 hb1
  cases s with
  | true =>
    have HBA := hide (show (⟨#[105]⟩ : ByteArray) ++ T = strB (nameL true k) by rw [← hT]; exact cons_strB _ _)
    clear hT
    go_enter Tryd.func4, Tryd.ntmps4
    go_wp2_with fail
    rw [HW1.out]
    refine (C1.out _).mono ?_
    rintro e w2 ⟨rfl, hq2⟩
    have hb2 := (hq2.below.block _ hs1').trans HB1.out
    have k0 : w2.cell? ⟨w.heap.size, 0, none⟩ = some (.bool true) := by rw [cell_of_row w2 _ 0 _ _ _ hb2]; rfl
    have k1 : w2.cell? ⟨w.heap.size, 1, none⟩ = some (.int .i64 (k : Nat)) := by rw [cell_of_row w2 _ 1 _ _ _ hb2]; rfl
    have HQ2 := hide (HQ1.out.trans hq2)
    clear hb2 hq2
    go_wp2_with fail
    refine (C2.out _).mono ?_
    rintro e w3 ⟨rfl, rfl⟩
    go_wp2_with fail
    go_ret2
    exact ⟨congrArg (fun x => Ending.returned (Value.tuple #[Value.string x, .int .i64 0])) HBA.out, HQ2.out⟩
  | false =>
    have HBA := hide (show (⟨#[117]⟩ : ByteArray) ++ T = strB (nameL false k) by rw [← hT]; exact cons_strB _ _)
    clear hT
    go_enter Tryd.func4, Tryd.ntmps4
    go_wp2_with fail
    rw [HW1.out]
    refine (C1.out _).mono ?_
    rintro e w2 ⟨rfl, hq2⟩
    have hb2 := (hq2.below.block _ hs1').trans HB1.out
    have k0 : w2.cell? ⟨w.heap.size, 0, none⟩ = some (.bool false) := by rw [cell_of_row w2 _ 0 _ _ _ hb2]; rfl
    have k1 : w2.cell? ⟨w.heap.size, 1, none⟩ = some (.int .i64 (k : Nat)) := by rw [cell_of_row w2 _ 1 _ _ _ hb2]; rfl
    have HQ2 := hide (HQ1.out.trans hq2)
    clear hb2 hq2
    go_wp2_with fail
    refine (C2.out _).mono ?_
    rintro e w3 ⟨rfl, rfl⟩
    go_wp2_with fail
    go_ret2
    exact ⟨congrArg (fun x => Ending.returned (Value.tuple #[Value.string x, .int .i64 0])) HBA.out, HQ2.out⟩
theorem Name_bad (s : Bool) (b : Int) (h : ¬ (1 ≤ b ∧ b ≤ 31)) (w : World) : Calls Tryd.prog 4 #[.agg #[.bool s, .int .i64 b]] w fun e w' => e = .returned (.tuple #[.string ByteArray.empty, .int .i64 1]) ∧ Q w w' := by
  have C1 := hide (fun w => validate_bad s b w h)
  clear h
  go_enter Tryd.func4, Tryd.ntmps4
  go_wp2_with fail
  refine (C1.out _).mono ?_
  rintro e w2 ⟨rfl, hq2⟩
  have HQ2 := hide (((Q.refl w).alloc _).trans hq2)
  clear hq2
  go_wp2_with fail
  go_ret2
  exact ⟨rfl, HQ2.out⟩
theorem Decimal_any (k : Nat) (h : k ≤ 31) (w : World) : Calls Tryd.prog 18 #[.int .i64 (k : Nat)] w fun e w' => e = .returned (.string (strB (txtN 10 k))) ∧ Q w w' := by
  have C := hide (fun w => based_any 10 (k : Int) (by omega) (by omega) (by omega) (by omega) w)
  rw [txtI_nat] at C
  clear h
  go_enter Tryd.func18, Tryd.ntmps18
  go_wp2_with fail
  refine (C.out _).mono ?_
  rintro e w2 ⟨rfl, hq2⟩
  go_wp2_with fail
  go_ret
  exact ⟨rfl, hq2⟩
theorem TypeName_any (s : Bool) (k : Nat) (h : k ≤ 31) (w : World) : Calls Tryd.prog 12 #[.agg #[.bool s, .int .i64 (k : Nat)]] w fun e w' => e = .returned (.string (strB (nameL s k))) ∧ Q w w' := by
  obtain ⟨T, hT⟩ : ∃ T, strB (txtN 10 k) = T := ⟨_, rfl⟩
  have C := hide (fun w => hT ▸ Decimal_any k h w)
  have hTs : T.size ≤ 41 := by rw [← hT, strB_size]; exact txtN_len (b := 10) (by omega) 40 k (by omega)
  have hs1 : (⟨#[117]⟩ : ByteArray).size = 1 := rfl
  have hs2 : (⟨#[105]⟩ : ByteArray).size = 1 := rfl
  cases s with
  | true =>
    have HBA := hide (show (⟨#[105]⟩ : ByteArray) ++ T = strB (nameL true k) by rw [← hT]; exact cons_strB _ _)
    clear hT
    go_enter Tryd.func12, Tryd.ntmps12
    go_wp2_with fail
    refine (C.out _).mono ?_
    rintro e w2 ⟨rfl, hq2⟩
    have HQ2 := hide (((Q.refl w).alloc _).trans hq2)
    clear hq2
    go_wp2_with fail
    go_ret
    exact ⟨congrArg (fun x => Ending.returned (Value.string x)) HBA.out, HQ2.out⟩
  | false =>
    have HBA := hide (show (⟨#[117]⟩ : ByteArray) ++ T = strB (nameL false k) by rw [← hT]; exact cons_strB _ _)
    clear hT
    go_enter Tryd.func12, Tryd.ntmps12
    go_wp2_with fail
    refine (C.out _).mono ?_
    rintro e w2 ⟨rfl, hq2⟩
    have HQ2 := hide (((Q.refl w).alloc _).trans hq2)
    clear hq2
    go_wp2_with fail
    go_ret
    exact ⟨congrArg (fun x => Ending.returned (Value.string x)) HBA.out, HQ2.out⟩
end Go.Proofs.YtcjljmegppnlcaaDoor
