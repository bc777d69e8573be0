/- The walk of the reference's Join. Conditions: the tokens' texts have at most 6,000 bytes together. -/
import Derived.Test.YtofigpjabamnhaaLexJf
namespace Go.Proofs.Ytofigpjabamnhaa
open Go.RowKit LX
set_option linter.unusedVariables false
theorem sumG_take (ks : List G) (i : Nat) : sumG (ks.take i) ≤ sumG ks := by
  conv => rhs; rw [← List.take_append_drop i ks]
  rw [sumG_append]
  omega
theorem join_cons2 (x y : List UInt8) (r : List (List UInt8)) (sep : List UInt8) : Lib.join (x :: y :: r) sep = x ++ sep ++ Lib.join (y :: r) sep := by
  simp [Lib.join, List.intercalate]
theorem joinL_snoc : ∀ (ks : List G) (g : G), joinL (ks ++ [g]) = if ks = [] then g.2.2.data.toList else joinL ks ++ [32] ++ g.2.2.data.toList
  | [], g => by simp [joinL, txs, Lib.join_one]
  | [a], g => by simp [joinL, txs, Lib.join_one, join_cons2]
  | a :: b :: r, g => by
    have ih := joinL_snoc (b :: r) g
    rw [if_neg (by simp)] at ih ⊢
    simp only [joinL, txs, List.cons_append, List.map_cons, join_cons2] at ih ⊢
    rw [ih]
    simp
set_option maxHeartbeats 1000000 in
theorem rJoin_any (A : Option Addr) (n c : Nat) (ks : List G) (w : World) (hG : GToks w A n c ks) (hn : n ≤ 1200) (hs : sumG ks ≤ 6000) :
    Calls Try.prog 23 #[.slice A n c] w fun e w' => e = .returned (.tuple (if allTok ks = true then #[.string ⟨(joinL ks).toArray⟩, .int .i64 0] else #[.string ⟨#[]⟩, .int .i64 1])) ∧ Q w w' := by
  have hlen := hG.len
  have HG := hide hG
  have HLEN := hide hlen
  have HS := hide hs
  obtain ⟨R, hR⟩ : ∃ R, allTok ks = R := ⟨_, rfl⟩
  rw [hR]
  have HR := hide hR
  clear hG hlen hs hR
  have hni : (n : Int) ≤ 1200 := by omega
  go_enter Try.func23, Try.ntmps23
  go_wp2_with fail
  go_loopw [4, 5] (fun v vi wr => ∃ (i : Nat) (S : ByteArray), i ≤ n ∧ v = .string S ∧ vi = .int .i64 i ∧ S.data.toList = joinL (ks.take i) ∧ (∀ j g, j < i → ks[j]? = some g → isTokB g.1 g.2.2 = true) ∧ Q w wr) (fun _ vi _ => n - (intOf vi).toNat)
  case atStart => exact ⟨0, ⟨#[]⟩, by omega, rfl, by go_num, by simp [joinL, txs, Lib.join, List.intercalate], fun j g hj => by omega, Q.refl _⟩
  case round =>
    obtain ⟨i, S, hi, rfl, rfl, hS, hall, hq⟩ := hrel
    have HALL := hide hall
    have hjl := joinL_length (ks.take i)
    have hst := sumG_take ks i
    have hS6 : S.size ≤ 7200 := by
      have h1 := HS.out
      have h2 : S.size = S.data.toList.length := by simp
      rw [h2, hS]
      simp at hjl
      omega
    have HSS := hide hS
    clear hall hjl hst hS
    have hSi : (S.size : Int) ≤ 7200 := by omega
    have hii : (i : Int) ≤ (n : Int) := by omega
    have hsz := hq.size
    by_cases hlt : i < n
    · have hd0 : decide (i < n) = true := by simpa using hlt
      have hd1 : decide ((i : Int) < (n : Int)) = true := by simpa using hlt
      have hlti : (i : Int) < (n : Int) := by omega
      obtain ⟨b1, o1, k1, a1, t1, rfl, hb1, g1, x1, x2, x3⟩ := (HG.out.up hq).at_ i hlt
      have ht6 : t1.size ≤ 6000 := by have h1 := sumG_mem (List.mem_of_getElem? g1); have h2 := HS.out; dsimp only at h1; omega
      have ht7 : (t1.size : Int) ≤ 6000 := by omega
      have hsn := joinL_snoc (ks.take i) (k1, a1, t1)
      rw [show ks.take i ++ [(k1, a1, t1)] = ks.take (i + 1) by rw [List.take_add_one, g1]; rfl] at hsn
      have HSN := hide hsn
      have G1 := hide g1
      clear g1 hsn
      cases hT : isTokB k1 t1
      · have hf := allTok_false G1.out hT
        rw [HR.out] at hf
        subst hf
        have hT2 := hide (fun w => hT ▸ risTok_any k1 t1 w ht6)
        clear hT
        go_wp2_with fail
        have hxc := ext_cell
        refine wp_region_ext (by kernel_rfl) (by kernel_rfl) ?_
        repeat (go_big_quiet_step ((first | (go_at_call 36; exact ext_call (hT2.out _)))))
        clear hxc
        refine wpQuiet_nil ?_
        intro wz hwwz
        have hqwz := q_of_ext hwwz
        clear hwwz
        obtain ⟨hcwz, hfwz, hzwz⟩ := hqwz.facts
        try simp at hzwz
        try have hs0wz : w.heap.size < wz.heap.size := by omega
        try have hs1wz : w.heap.size + 1 < wz.heap.size := by omega
        have hqz := hq.trans hqwz
        clear hcwz hfwz
        go_wp2_with fail
        go_ret2
        exact ⟨rfl, hqz⟩
      · have HT := hide hT
        have hT2 := hide (fun w => hT ▸ risTok_any k1 t1 w ht6)
        clear hT
        go_wp2_with fail
        have hxc := ext_cell
        refine wp_region_ext (by kernel_rfl) (by kernel_rfl) ?_
        repeat (go_big_quiet_step ((first | (go_at_call 36; exact ext_call (hT2.out _)))))
        clear hxc
        refine wpQuiet_nil ?_
        intro wz hwwz
        have hqwz := q_of_ext hwwz
        clear hwwz
        obtain ⟨hcwz, hfwz, hzwz⟩ := hqwz.facts
        try simp at hzwz
        try have hs0wz : w.heap.size < wz.heap.size := by omega
        try have hs1wz : w.heap.size + 1 < wz.heap.size := by omega
        have hqz := hq.trans hqwz
        have z3 := (hqwz.facts.1 _ _ hb1).trans x3
        have hb1z := Nat.lt_of_lt_of_le hb1 hqwz.size
        clear hcwz hfwz x1 x2 x3
        by_cases hi0 : i = 0
        · have di1 : decide (0 < (i : Int)) = false := by simp; omega
          have di2 : decide (0 < i) = false := by simp; omega
          have HI0 := hide hi0
          clear hi0
          go_wp2_with fail
          go_roundw
          case rel => exact ⟨i + 1, S ++ t1, by omega, rfl, by go_num, by
            have hi0 := HI0.out
            subst hi0
            rw [HSN.out, if_pos (by simp)]
            have := HSS.out
            simp [joinL, txs, Lib.join, List.intercalate] at this ⊢
            simp [this], fun j g hj hg => by
            by_cases e : j = i
            · subst e
              rw [G1.out] at hg
              cases hg
              exact HT.out
            · exact HALL.out j g (by omega) hg, hqz⟩
          case measure => simp [intOf] <;> omega
        · have di1 : decide (0 < (i : Int)) = true := by simp; omega
          have di2 : decide (0 < i) = true := by simp; omega
          go_wp2_with fail
          go_roundw
          case rel => exact ⟨i + 1, S ++ ⟨#[32]⟩ ++ t1, by omega, rfl, by go_num, by
            rw [HSN.out, if_neg (by intro h; have := congrArg List.length h; have h2 := HLEN.out; rw [List.length_take] at this; simp only [List.length_nil] at this; omega), ← HSS.out]
            simp, fun j g hj hg => by
            by_cases e : j = i
            · subst e
              rw [G1.out] at hg
              cases hg
              exact HT.out
            · exact HALL.out j g (by omega) hg, hqz⟩
          case measure => simp [intOf] <;> omega
    · have hd0 : decide (i < n) = false := by simpa using hlt
      have hd1 : decide ((i : Int) < (n : Int)) = false := by simpa using hlt
      have e : i = n := by omega
      subst e
      have hf := allTok_true (fun j g hg => HALL.out j g (by have := (List.getElem?_eq_some_iff.1 hg).1; have := HLEN.out; omega) hg)
      rw [HR.out] at hf
      subst hf
      have hS2 : S = ⟨(joinL ks).toArray⟩ := by
        have := HSS.out
        rw [List.take_of_length_le (by have := HLEN.out; omega)] at this
        rw [← this]
      have HS2 := hide hS2
      clear hS2
      go_wp2_with fail
      go_ret2
      exact ⟨by rw [← HS2.out]; rfl, hq⟩
end Go.Proofs.Ytofigpjabamnhaa
