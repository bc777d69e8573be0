/- The walks of package lex's run, isSign and first. Conditions: the table lies in memory. -/
import Derived.Test.YtofigpjabamnhaaDoorLexA
namespace Go.Proofs.YtofigpjabamnhaaDoor
open Go.RowKit LX
set_option linter.unusedVariables false
/-- the table lies in block b -/
def Tab (w : World) (b : Nat) : Prop := b < w.heap.size ∧ ∀ i, i < 256 → w.cell? ⟨b, i, none⟩ = some (.int .u8 (clsN i : Nat))
theorem Tab.q {w w' : World} {b : Nat} (h : Tab w b) (hq : Q w w') : Tab w' b := ⟨by have := h.1; have := hq.size; omega, fun i hi => (hq.facts.1 b i h.1).trans (h.2 i hi)⟩
theorem runL_drop (l : List Nat) (k c : Nat) (hc : l[k]? = some c) : runL (l.drop k) = if 2 ≤ clsN c then runL (l.drop (k + 1)) + 1 else 0 := by
  obtain ⟨hk, e⟩ := List.getElem?_eq_some_iff.1 hc
  rw [List.drop_eq_getElem_cons hk, e, runL]
theorem run_any (b : Nat) (s : ByteArray) (w : World) (hs : s.size ≤ maxLen) (hT : Tab w b) : Calls Tryd.prog 10 #[.pointer (some ⟨b, 0, none⟩), .string s] w fun e w' => e = .returned (.int .i64 (runL (nat s) : Nat)) ∧ Q w w' := by
  unfold maxLen at hs
  have hnl := nat_length s
  have HNL := hide hnl
  have HT := hide hT
  clear hnl hT
  go_enter Tryd.func10, Tryd.ntmps10
  go_wp2_with fail
  go_loopw [5] (fun v wr => ∃ k : Nat, k ≤ s.size ∧ v = .int .i64 k ∧ runL (nat s) = k + runL ((nat s).drop k) ∧ Q w wr) (fun v _ => s.size - (intOf v).toNat)
  case atStart => exact ⟨0, by omega, by go_num, by simp, Q.refl _⟩
  case round =>
    obtain ⟨k, hk, rfl, hR, hq⟩ := hrel
    have hsi : (s.size : Int) ≤ 9223372036854775807 := by omega
    by_cases hlt : k < s.size
    · have hg := nat_get s k hlt
      have hrd := runL_drop _ _ _ hg
      have h256 : s[k].toNat < 256 := s[k].toNat_lt
      have hTk := (HT.out.q hq).2 _ h256
      have hbl := (HT.out.q hq).1
      have hd1 : decide (k < s.size) = true := by simpa using hlt
      have hlti : (k : Int) < (s.size : Int) := by omega
      have HR := hide hR
      have HRD := hide hrd
      clear hg hR hrd
      by_cases h2 : 2 ≤ clsN s[k].toNat
      · have hd2 : decide (2 ≤ clsN s[k].toNat) = true := by simpa using h2
        go_wp2_with fail
        have hxc := ext_cell
        refine wp_region_ext (by kernel_rfl) (by kernel_rfl) ?_
        repeat (go_big_quiet_step ((fail)))
        clear hxc
        refine wpQuiet_nil ?_
        intro wz hwwz
        have hqwz := q_of_ext hwwz
        clear hwwz
        obtain ⟨hcwz, hfwz, hzwz⟩ := hqwz.facts
        try simp at hzwz
        try have hs0wz : w.heap.size < wz.heap.size := by omega
        try have hs1wz : w.heap.size + 1 < wz.heap.size := by omega
        have hq2 := hq.trans hqwz
        clear hcwz hfwz
        go_wp2_with fail
        go_roundw
        case rel => exact ⟨k + 1, by omega, by go_num, by rw [HR.out, HRD.out, if_pos h2]; omega, hq2⟩
        case measure => simp [intOf] <;> omega
      · have hd2 : decide (2 ≤ clsN s[k].toNat) = false := by simpa using h2
        go_wp2_with fail
        have hxc := ext_cell
        refine wp_region_ext (by kernel_rfl) (by kernel_rfl) ?_
        repeat (go_big_quiet_step ((fail)))
        clear hxc
        refine wpQuiet_nil ?_
        intro wz hwwz
        have hqwz := q_of_ext hwwz
        clear hwwz
        obtain ⟨hcwz, hfwz, hzwz⟩ := hqwz.facts
        try simp at hzwz
        try have hs0wz : w.heap.size < wz.heap.size := by omega
        try have hs1wz : w.heap.size + 1 < wz.heap.size := by omega
        have hq2 := hq.trans hqwz
        clear hcwz hfwz
        go_wp2_with fail
        go_ret
        exact ⟨ret_int (by rw [HR.out, HRD.out, if_neg h2]; omega), hq2⟩
    · have hd1 : decide (k < s.size) = false := by simpa using hlt
      have ek : k = s.size := by omega
      have hr0 : runL ((nat s).drop k) = 0 := by rw [ek, List.drop_of_length_le (by rw [HNL.out]; omega)]; rfl
      rw [hr0] at hR
      have HR := hide hR
      clear hR hr0
      go_wp2_with fail
      have hxc := ext_cell
      refine wp_region_ext (by kernel_rfl) (by kernel_rfl) ?_
      repeat (go_big_quiet_step ((fail)))
      clear hxc
      refine wpQuiet_nil ?_
      intro wz hwwz
      have hqwz := q_of_ext hwwz
      clear hwwz
      obtain ⟨hcwz, hfwz, hzwz⟩ := hqwz.facts
      try simp at hzwz
      try have hs0wz : w.heap.size < wz.heap.size := by omega
      try have hs1wz : w.heap.size + 1 < wz.heap.size := by omega
      have hq2 := hq.trans hqwz
      clear hcwz hfwz
      go_wp2_with fail
      go_ret
      exact ⟨ret_int (by rw [HR.out]; omega), hq2⟩
theorem nat_toList (s : ByteArray) : nat s = s.toList.map UInt8.toNat := by unfold nat; rw [ByteArray.toList_eq]
theorem beq_nat (l m : List UInt8) : (l.map UInt8.toNat == m.map UInt8.toNat) = (l == m) := by
  rw [Bool.eq_iff_iff, beq_iff_eq, beq_iff_eq]
  exact ⟨fun h => (List.map_inj_right (f := UInt8.toNat) (fun x y e => UInt8.toNat_inj.1 e)).1 h, fun h => by rw [h]⟩
theorem sgn_or (s : ByteArray) : isSgn (nat s) = (s.toList == [40] || s.toList == [41] || s.toList == [123] || s.toList == [125] || s.toList == [44] || s.toList == [59] || s.toList == [58] || s.toList == [61] || s.toList == [61, 61] || s.toList == [33, 61] || s.toList == [33] || s.toList == [60] || s.toList == [60, 61] || s.toList == [62] || s.toList == [62, 61] || s.toList == [43] || s.toList == [43, 37] || s.toList == [43, 124] || s.toList == [45] || s.toList == [45, 37] || s.toList == [45, 124] || s.toList == [42] || s.toList == [42, 37] || s.toList == [47] || s.toList == [37] || s.toList == [38] || s.toList == [124] || s.toList == [94] || s.toList == [63] || s.toList == [46] || s.toList == [46, 46] || s.toList == [46, 63] || s.toList == [61, 62]) := by
  have key : ∀ m : List UInt8, (nat s == m.map UInt8.toNat) = (s.toList == m) := fun m => by rw [nat_toList, beq_nat]
  have k0 : (nat s == [61, 61]) = (s.toList == [61, 61]) := key [61, 61]
  have k1 : (nat s == [33, 61]) = (s.toList == [33, 61]) := key [33, 61]
  have k2 : (nat s == [60, 61]) = (s.toList == [60, 61]) := key [60, 61]
  have k3 : (nat s == [62, 61]) = (s.toList == [62, 61]) := key [62, 61]
  have k4 : (nat s == [43, 37]) = (s.toList == [43, 37]) := key [43, 37]
  have k5 : (nat s == [43, 124]) = (s.toList == [43, 124]) := key [43, 124]
  have k6 : (nat s == [45, 37]) = (s.toList == [45, 37]) := key [45, 37]
  have k7 : (nat s == [45, 124]) = (s.toList == [45, 124]) := key [45, 124]
  have k8 : (nat s == [42, 37]) = (s.toList == [42, 37]) := key [42, 37]
  have k9 : (nat s == [46, 46]) = (s.toList == [46, 46]) := key [46, 46]
  have k10 : (nat s == [46, 63]) = (s.toList == [46, 63]) := key [46, 63]
  have k11 : (nat s == [61, 62]) = (s.toList == [61, 62]) := key [61, 62]
  have k12 : (nat s == [40]) = (s.toList == [40]) := key [40]
  have k13 : (nat s == [41]) = (s.toList == [41]) := key [41]
  have k14 : (nat s == [123]) = (s.toList == [123]) := key [123]
  have k15 : (nat s == [125]) = (s.toList == [125]) := key [125]
  have k16 : (nat s == [44]) = (s.toList == [44]) := key [44]
  have k17 : (nat s == [59]) = (s.toList == [59]) := key [59]
  have k18 : (nat s == [58]) = (s.toList == [58]) := key [58]
  have k19 : (nat s == [61]) = (s.toList == [61]) := key [61]
  have k20 : (nat s == [33]) = (s.toList == [33]) := key [33]
  have k21 : (nat s == [60]) = (s.toList == [60]) := key [60]
  have k22 : (nat s == [62]) = (s.toList == [62]) := key [62]
  have k23 : (nat s == [43]) = (s.toList == [43]) := key [43]
  have k24 : (nat s == [45]) = (s.toList == [45]) := key [45]
  have k25 : (nat s == [42]) = (s.toList == [42]) := key [42]
  have k26 : (nat s == [47]) = (s.toList == [47]) := key [47]
  have k27 : (nat s == [37]) = (s.toList == [37]) := key [37]
  have k28 : (nat s == [38]) = (s.toList == [38]) := key [38]
  have k29 : (nat s == [124]) = (s.toList == [124]) := key [124]
  have k30 : (nat s == [94]) = (s.toList == [94]) := key [94]
  have k31 : (nat s == [63]) = (s.toList == [63]) := key [63]
  have k32 : (nat s == [46]) = (s.toList == [46]) := key [46]
  unfold isSgn signsL
  simp only [List.contains_cons, List.contains_nil, Bool.or_false, k0, k1, k2, k3, k4, k5, k6, k7, k8, k9, k10, k11, k12, k13, k14, k15, k16, k17, k18, k19, k20, k21, k22, k23, k24, k25, k26, k27, k28, k29, k30, k31, k32]
  clear k0 k1 k2 k3 k4 k5 k6 k7 k8 k9 k10 k11 k12 k13 k14 k15 k16 k17 k18 k19 k20 k21 k22 k23 k24 k25 k26 k27 k28 k29 k30 k31 k32
  ac_rfl
set_option maxHeartbeats 1000000 in
theorem isSign_any (s : ByteArray) (w : World) : Calls Tryd.prog 31 #[.string s] w fun e w' => e = .returned (.bool (isSgn (nat s))) ∧ w = w' := by
  rw [sgn_or]
  obtain ⟨b0, h0⟩ : ∃ b, (s.toList == [40]) = b := ⟨_, rfl⟩
  obtain ⟨b1, h1⟩ : ∃ b, (s.toList == [41]) = b := ⟨_, rfl⟩
  obtain ⟨b2, h2⟩ : ∃ b, (s.toList == [123]) = b := ⟨_, rfl⟩
  obtain ⟨b3, h3⟩ : ∃ b, (s.toList == [125]) = b := ⟨_, rfl⟩
  obtain ⟨b4, h4⟩ : ∃ b, (s.toList == [44]) = b := ⟨_, rfl⟩
  obtain ⟨b5, h5⟩ : ∃ b, (s.toList == [59]) = b := ⟨_, rfl⟩
  obtain ⟨b6, h6⟩ : ∃ b, (s.toList == [58]) = b := ⟨_, rfl⟩
  obtain ⟨b7, h7⟩ : ∃ b, (s.toList == [61]) = b := ⟨_, rfl⟩
  obtain ⟨b8, h8⟩ : ∃ b, (s.toList == [61, 61]) = b := ⟨_, rfl⟩
  obtain ⟨b9, h9⟩ : ∃ b, (s.toList == [33, 61]) = b := ⟨_, rfl⟩
  obtain ⟨b10, h10⟩ : ∃ b, (s.toList == [33]) = b := ⟨_, rfl⟩
  obtain ⟨b11, h11⟩ : ∃ b, (s.toList == [60]) = b := ⟨_, rfl⟩
  obtain ⟨b12, h12⟩ : ∃ b, (s.toList == [60, 61]) = b := ⟨_, rfl⟩
  obtain ⟨b13, h13⟩ : ∃ b, (s.toList == [62]) = b := ⟨_, rfl⟩
  obtain ⟨b14, h14⟩ : ∃ b, (s.toList == [62, 61]) = b := ⟨_, rfl⟩
  obtain ⟨b15, h15⟩ : ∃ b, (s.toList == [43]) = b := ⟨_, rfl⟩
  obtain ⟨b16, h16⟩ : ∃ b, (s.toList == [43, 37]) = b := ⟨_, rfl⟩
  obtain ⟨b17, h17⟩ : ∃ b, (s.toList == [43, 124]) = b := ⟨_, rfl⟩
  obtain ⟨b18, h18⟩ : ∃ b, (s.toList == [45]) = b := ⟨_, rfl⟩
  obtain ⟨b19, h19⟩ : ∃ b, (s.toList == [45, 37]) = b := ⟨_, rfl⟩
  obtain ⟨b20, h20⟩ : ∃ b, (s.toList == [45, 124]) = b := ⟨_, rfl⟩
  obtain ⟨b21, h21⟩ : ∃ b, (s.toList == [42]) = b := ⟨_, rfl⟩
  obtain ⟨b22, h22⟩ : ∃ b, (s.toList == [42, 37]) = b := ⟨_, rfl⟩
  obtain ⟨b23, h23⟩ : ∃ b, (s.toList == [47]) = b := ⟨_, rfl⟩
  obtain ⟨b24, h24⟩ : ∃ b, (s.toList == [37]) = b := ⟨_, rfl⟩
  obtain ⟨b25, h25⟩ : ∃ b, (s.toList == [38]) = b := ⟨_, rfl⟩
  obtain ⟨b26, h26⟩ : ∃ b, (s.toList == [124]) = b := ⟨_, rfl⟩
  obtain ⟨b27, h27⟩ : ∃ b, (s.toList == [94]) = b := ⟨_, rfl⟩
  obtain ⟨b28, h28⟩ : ∃ b, (s.toList == [63]) = b := ⟨_, rfl⟩
  obtain ⟨b29, h29⟩ : ∃ b, (s.toList == [46]) = b := ⟨_, rfl⟩
  obtain ⟨b30, h30⟩ : ∃ b, (s.toList == [46, 46]) = b := ⟨_, rfl⟩
  obtain ⟨b31, h31⟩ : ∃ b, (s.toList == [46, 63]) = b := ⟨_, rfl⟩
  obtain ⟨b32, h32⟩ : ∃ b, (s.toList == [61, 62]) = b := ⟨_, rfl⟩
  rw [h0, h1, h2, h3, h4, h5, h6, h7, h8, h9, h10, h11, h12, h13, h14, h15, h16, h17, h18, h19, h20, h21, h22, h23, h24, h25, h26, h27, h28, h29, h30, h31, h32]
  go_enter Tryd.func31, Tryd.ntmps31
  go_wp2_with fail
  all_goals clear h0 h1 h2 h3 h4 h5 h6 h7 h8 h9 h10 h11 h12 h13 h14 h15 h16 h17 h18 h19 h20 h21 h22 h23 h24 h25 h26 h27 h28 h29 h30 h31 h32
  all_goals first
    | (exfalso; simp_all; done)
    | (go_ret; exact ⟨ret_bool (by simp_all), rfl⟩)
end Go.Proofs.YtofigpjabamnhaaDoor
