/- known of the lists: the walk. What is closed, or nil, answers: listClosed, mapClosed, queueClosed, and the law ListNils. Conditions: as each theorem says. -/
import Derived.Test.YtdaklffbfadghaaGreatLsU16
namespace Go.Proofs.YtdaklffbfadghaaGreat
open Go.RowKit HP Go.Maps
set_option linter.unusedVariables false
set_option linter.unusedSimpArgs false
theorem sl_lit (W : World) (xs : List Int) (h : xs.length ≤ 1000) : Sl 1 (encI .i64) (W.alloc (.cells (intsV xs).toArray 3)) (some ⟨W.heap.size, 0, none⟩) xs.length xs.length xs := by
  refine ⟨.inr ⟨W.heap.size, 0, rfl, by simp, fun j u hu => ?_⟩, rfl, Nat.le_refl _, by omega⟩
  rw [flat_ints] at hu
  rw [World.cell?_alloc_new]
  simpa using hu
theorem own_sl {W : World} {B : Nat} {A : Option Addr} {n c : Nat} {xs : List Int} (hn : n = xs.length) (h : W.ownsRow B 3 1 (.slice A n c) n (intsV xs)) : Sl 1 (encI .i64) W A n c xs := by
  rw [← flat_ints] at h
  exact Sl.own (own_low h (Nat.zero_le _)) (fun _ => rfl) (by decide)
set_option maxHeartbeats 4000000 in
set_option maxRecDepth 100000 in
theorem known_lists (w : World) : Calls Tryz.prog 38 #[] w fun e w' => e = .returned (.bool true) ∧ Q w w' := by
  have hs : shapeB 0 4096 0 = true := by decide
  have HN : Hid (Calls Tryz.prog 8 #[.int .i64 0, .int .i64 4096, .int .i64 0] w fun e w' => ∃ g, e = .returned (.tuple #[.pointer (some ⟨g, 0, none⟩), .int .i64 0]) ∧ Own w w' g (newM 0 4096 0)) := hide (own_new hs w)
  have HNL : Hid (∀ W g, Own w W g (newM 0 4096 0) → Calls Tryz.prog 13 #[.pointer (some ⟨g, 0, none⟩)] W fun e w' => ∃ lb, e = .returned (.tuple #[.pointer (some ⟨lb, 0, none⟩), .int .i64 0]) ∧ KL w w' g lb [] 0) := fun W g O => kl_new _ O (newM_inv hs) (Int.le_refl _) fun T => Low.zero rfl rfl rfl rfl T
  have HA1 : Hid (∀ W g lb, KL w W g lb [] 0 → Calls Tryz.prog 17 #[.pointer (some ⟨lb, 0, none⟩), .int .i64 1] W fun e w' => e = .returned (.int .i64 0) ∧ KL w w' g lb [1] 1) := fun W g lb K => kl_add K (by decide) 1 (by decide) (by decide)
  have HA2 : Hid (∀ W g lb, KL w W g lb [1] 1 → Calls Tryz.prog 17 #[.pointer (some ⟨lb, 0, none⟩), .int .i64 2] W fun e w' => e = .returned (.int .i64 0) ∧ KL w w' g lb [1, 2] 2) := fun W g lb K => kl_add K (by decide) 2 (by decide) (by decide)
  have HA3 : Hid (∀ W g lb, KL w W g lb [1, 2] 2 → Calls Tryz.prog 46 #[.pointer (some ⟨lb, 0, none⟩), .int .i64 0, .int .i64 9] W fun e w' => e = .returned (.int .i64 0) ∧ KL w w' g lb [9, 1, 2] 3) := fun W g lb K => kl_insert K (by decide) 0 9 (by decide) (by decide) (by decide)
  have HAL : Hid (∀ W g lb, KL w W g lb [9, 1, 2] 3 → Calls Tryz.prog 52 #[.pointer (some ⟨lb, 0, none⟩)] W fun e w' => ∃ A cp, e = .returned (.slice A 3 cp) ∧ KA w w' g [9, 1, 2] 3 (.slice A 3 cp)) := fun W g lb K => kl_all K
  have HNM : Hid (∀ W g A cp, KA w W g [9, 1, 2] 3 (.slice A 3 cp) → Calls Tryz.prog 14 #[.pointer (some ⟨g, 0, none⟩)] W fun e w' => ∃ mb, e = .returned (.tuple #[.pointer (some ⟨mb, 0, none⟩), .int .i64 0]) ∧ KM w w' mb [] 3 (.slice A 3 cp) [9, 1, 2]) := fun W g A cp K => km_new K (by decide) (by decide)
  have HP1 : Hid (∀ W mb v, KM w W mb [] 3 v [9, 1, 2] → Calls Tryz.prog 21 #[.pointer (some ⟨mb, 0, none⟩), .int .i64 5, .int .i64 1] W fun e w' => ∃ z, e = .returned z ∧ KM w w' mb [(5, 1)] 4 v [9, 1, 2]) := fun W mb v K => km_put K (by decide) 5 1 (by decide) (by decide) (by decide)
  have HP2 : Hid (∀ W mb v, KM w W mb [(5, 1)] 4 v [9, 1, 2] → Calls Tryz.prog 21 #[.pointer (some ⟨mb, 0, none⟩), .int .i64 3, .int .i64 1] W fun e w' => ∃ z, e = .returned z ∧ KM w w' mb [(5, 1), (3, 1)] 5 v [9, 1, 2]) := fun W mb v K => km_put K (by decide) 3 1 (by decide) (by decide) (by decide)
  have HDE : Hid (∀ W mb v, KM w W mb [(5, 1), (3, 1)] 5 v [9, 1, 2] → Calls Tryz.prog 23 #[.pointer (some ⟨mb, 0, none⟩), .int .i64 5] W fun e w' => ∃ z, e = .returned z ∧ KM w w' mb [(3, 1)] 5 v [9, 1, 2]) := fun W mb v K => km_del K 5 1 (by decide) 0 rfl
  have HP3 : Hid (∀ W mb v, KM w W mb [(3, 1)] 5 v [9, 1, 2] → Calls Tryz.prog 21 #[.pointer (some ⟨mb, 0, none⟩), .int .i64 5, .int .i64 2] W fun e w' => ∃ z, e = .returned z ∧ KM w w' mb [(3, 1), (5, 2)] 6 v [9, 1, 2]) := fun W mb v K => km_put K (by decide) 5 2 (by decide) (by decide) (by decide)
  have HS1 : Hid (∀ W mb A cp, KM w W mb [(3, 1), (5, 2)] 6 (.slice A 3 cp) [9, 1, 2] → Calls Tryz.prog 33 #[.slice A 3 cp, .slice (some ⟨W.heap.size, 0, none⟩) 3 3] (W.alloc (.cells #[.int .i64 9, .int .i64 1, .int .i64 2] 3)) fun e w' => e = .returned (.bool true) ∧ Q (W.alloc (.cells #[.int .i64 9, .int .i64 1, .int .i64 2] 3)) w') := fun W mb A cp K => SameInts_same _ _ _ _ _ [9, 1, 2] _ ((own_sl (xs := [9, 1, 2]) rfl K.own).up ((Q.refl _).alloc _)) (sl_lit W [9, 1, 2] (by decide)) (by decide)
  have HKQ : Hid (∀ W W2 mb kv c v ys, KM w W mb kv c v ys → Q W W2 → KM w W2 mb kv c v ys) := by
    rintro W W2 mb kv c v ys ⟨h, r, mb', n, d, D, L, S, o, ha, hmo, hW, hl, e2, hcc, hnn, h5, hn, ho, hv⟩ hq
    have X := (MS.start L o ha).q hq
    exact ⟨h, r, mb', n, d, D, X.lr, S, X.own, ha, hmo, hW, hl, e2, hcc, hnn, h5.trans hq, hn, own_same ho fun g hg => hq.below.block g (ho.lt g hg).2, hv⟩
  have HKE : Hid (∀ W mb v, KM w W mb [(3, 1), (5, 2)] 6 v [9, 1, 2] → Calls Tryz.prog 34 #[.pointer (some ⟨mb, 0, none⟩)] W fun e w' => ∃ A cp, e = .returned (.slice A 2 cp) ∧ Sl 1 (encI .i64) w' A 2 cp [3, 5] ∧ Q w w') := fun W mb v K => (km_keys K).mono fun e w' ⟨A, cp, he, ho, K2⟩ => ⟨A, cp, he, own_sl (xs := [3, 5]) rfl ho, K2.toQ⟩
  have HS2 : Hid (∀ W A cp, Sl 1 (encI .i64) W A 2 cp [3, 5] → Calls Tryz.prog 33 #[.slice A 2 cp, .slice (some ⟨W.heap.size, 0, none⟩) 2 2] (W.alloc (.cells #[.int .i64 3, .int .i64 5] 3)) fun e w' => e = .returned (.bool true) ∧ Q (W.alloc (.cells #[.int .i64 3, .int .i64 5] 3)) w') := fun W A cp S => SameInts_same _ _ _ _ _ [3, 5] _ (S.up ((Q.refl _).alloc _)) (sl_lit W [3, 5] (by decide)) (by decide)
  clear hs
  go_enter Tryz.func38, Tryz.ntmps38
  go_wp2_with fail
  go_at_call 8
  refine (HN.out).mono ?_
  rintro e w1 ⟨g, rfl, hO⟩
  have HO := hide hO
  clear hO
  go_wp2_with fail
  go_at_call 13
  refine (HNL.out _ _ HO.out).mono ?_
  rintro e w2 ⟨lb, rfl, hK⟩
  have HK0 := hide hK
  clear hK
  go_wp2_with fail
  go_at_call 17
  refine (HA1.out _ _ _ HK0.out).mono ?_
  rintro e w3 ⟨rfl, hK⟩
  have HK1 := hide hK
  clear hK
  go_wp2_with fail
  go_at_call 17
  refine (HA2.out _ _ _ HK1.out).mono ?_
  rintro e w4 ⟨rfl, hK⟩
  have HK2 := hide hK
  clear hK
  go_wp2_with fail
  go_at_call 46
  refine (HA3.out _ _ _ HK2.out).mono ?_
  rintro e w5 ⟨rfl, hK⟩
  have HK3 := hide hK
  clear hK
  go_wp2_with fail
  go_at_call 52
  refine (HAL.out _ _ _ HK3.out).mono ?_
  rintro e w6 ⟨A, cp, rfl, hK⟩
  have HK4 := hide hK
  clear hK
  go_wp2_with fail
  go_at_call 14
  refine (HNM.out _ _ _ _ HK4.out).mono ?_
  rintro e w7 ⟨mb, rfl, hK⟩
  have HM0 := hide hK
  clear hK
  go_wp2_with fail
  go_at_call 21
  refine (HP1.out _ _ _ HM0.out).mono ?_
  rintro e w8 ⟨z1, rfl, hK⟩
  have HM1 := hide hK
  clear hK
  go_wp2_with fail
  go_at_call 21
  refine (HP2.out _ _ _ HM1.out).mono ?_
  rintro e w9 ⟨z2, rfl, hK⟩
  have HM2 := hide hK
  clear hK
  go_wp2_with fail
  go_at_call 23
  refine (HDE.out _ _ _ HM2.out).mono ?_
  rintro e w10 ⟨z3, rfl, hK⟩
  have HM3 := hide hK
  clear hK
  go_wp2_with fail
  go_at_call 21
  refine (HP3.out _ _ _ HM3.out).mono ?_
  rintro e w11 ⟨z4, rfl, hK⟩
  have HM4 := hide hK
  clear hK
  go_wp2_with fail
  go_at_call 33
  refine (HS1.out _ _ _ _ HM4.out).mono ?_
  rintro e w12 ⟨rfl, hq⟩
  have HM5 := hide (HKQ.out _ _ _ _ _ _ _ HM4.out (((Q.refl _).alloc _).trans hq))
  clear hq
  go_wp2_with fail
  go_at_call 34
  refine (HKE.out _ _ _ HM5.out).mono ?_
  rintro e w13 ⟨A2, cp2, rfl, hS, hq⟩
  have HS3 := hide hS
  have HQ3 := hide hq
  clear hS hq
  go_wp2_with fail
  go_at_call 33
  refine (HS2.out _ _ _ HS3.out).mono ?_
  rintro e w14 ⟨rfl, hq⟩
  have HQ4 := hide (HQ3.out.trans (((Q.refl _).alloc _).trans hq))
  clear hq
  go_wp2_with fail
  go_ret
  exact ⟨rfl, HQ4.out⟩
end Go.Proofs.YtdaklffbfadghaaGreat

namespace Go.Proofs.YtdaklffbfadghaaGreat
open Go.RowKit HP
set_option linter.unusedVariables false
set_option linter.unusedSimpArgs false
section
variable {w : World} {v : Value}
set_option maxHeartbeats 4000000 in
set_option maxRecDepth 100000 in
theorem listClosed_any (D : DeadL v w) : Calls Tryz.prog 51 #[v] w fun e w' => e = .returned (.bool true) ∧ Q w w' := by
  have HRe : Hid (∀ W, Q w W → Calls Tryz.prog 19 #[v, .int .i64 0] W fun e w' => e = .returned (.tuple #[.int .i64 0, .int .i64 9]) ∧ Q W w') := fun W hq => dead_remove (D.q hq) _
  have HGe : Hid (∀ W, Q w W → Calls Tryz.prog 47 #[v, .int .i64 0] W fun e w' => e = .returned (.tuple #[.int .i64 0, .int .i64 9]) ∧ Q W w') := fun W hq => dead_get (D.q hq) _
  have HAd : Hid (∀ W, Q w W → Calls Tryz.prog 17 #[v, .int .i64 1099511627776] W fun e w' => e = .returned (.int .i64 9) ∧ Q W w') := fun W hq => dead_add (D.q hq) _
  have HIn : Hid (∀ W, Q w W → Calls Tryz.prog 46 #[v, .int .i64 (-1), .int .i64 0] W fun e w' => e = .returned (.int .i64 9) ∧ Q W w') := fun W hq => dead_insert (D.q hq) _ _
  have HSe : Hid (∀ W, Q w W → Calls Tryz.prog 49 #[v, .int .i64 0, .int .i64 0] W fun e w' => e = .returned (.int .i64 9) ∧ Q W w') := fun W hq => dead_set (D.q hq) _ _
  have HCl : Hid (∀ W, Q w W → Calls Tryz.prog 31 #[v] W fun e w' => e = .returned (.int .i64 9) ∧ Q W w') := fun W hq => dead_close (D.q hq)
  have HAl : Hid (∀ W, Q w W → Calls Tryz.prog 52 #[v] W fun e w' => e = .returned (.slice none 0 0) ∧ Q W w') := fun W hq => dead_all (D.q hq)
  clear D
  have HQ := hide (Q.refl w)
  go_enter Tryz.func51, Tryz.ntmps51
  go_wp2_with (first
    | (go_at_call 19; refine (HRe.out _ HQ.out).mono ?_; rintro e wz ⟨rfl, hq⟩; have HQ := hide (HQ.out.trans hq); clear hq)
    | (go_at_call 47; refine (HGe.out _ HQ.out).mono ?_; rintro e wz ⟨rfl, hq⟩; have HQ := hide (HQ.out.trans hq); clear hq)
    | (go_at_call 17; refine (HAd.out _ HQ.out).mono ?_; rintro e wz ⟨rfl, hq⟩; have HQ := hide (HQ.out.trans hq); clear hq)
    | (go_at_call 46; refine (HIn.out _ HQ.out).mono ?_; rintro e wz ⟨rfl, hq⟩; have HQ := hide (HQ.out.trans hq); clear hq)
    | (go_at_call 49; refine (HSe.out _ HQ.out).mono ?_; rintro e wz ⟨rfl, hq⟩; have HQ := hide (HQ.out.trans hq); clear hq)
    | (go_at_call 31; refine (HCl.out _ HQ.out).mono ?_; rintro e wz ⟨rfl, hq⟩; have HQ := hide (HQ.out.trans hq); clear hq)
    | (go_at_call 52; refine (HAl.out _ HQ.out).mono ?_; rintro e wz ⟨rfl, hq⟩; have HQ := hide (HQ.out.trans hq); clear hq))
  go_ret
  exact ⟨rfl, HQ.out⟩
set_option maxHeartbeats 4000000 in
set_option maxRecDepth 100000 in
theorem mapClosed_any (D : DeadM v w) : Calls Tryz.prog 44 #[v] w fun e w' => e = .returned (.bool true) ∧ Q w w' := by
  have HPu : Hid (∀ W, Q w W → Calls Tryz.prog 21 #[v, .int .i64 1099511627776, .int .i64 0] W fun e w' => e = .returned (.tuple #[.int .i64 0, .bool false, .int .i64 9]) ∧ Q W w') := fun W hq => deadM_Put (D.q hq) _ _
  have HMg : Hid (∀ W, Q w W → Calls Tryz.prog 42 #[v, .int .i64 0] W fun e w' => e = .returned (.tuple #[.int .i64 0, .bool false, .int .i64 9]) ∧ Q W w') := fun W hq => deadM_Get (D.q hq) _
  have HDe : Hid (∀ W, Q w W → Calls Tryz.prog 23 #[v, .int .i64 0] W fun e w' => e = .returned (.tuple #[.int .i64 0, .bool false, .int .i64 9]) ∧ Q W w') := fun W hq => deadM_Delete (D.q hq) _
  have HMc : Hid (∀ W, Q w W → Calls Tryz.prog 35 #[v] W fun e w' => e = .returned (.int .i64 9) ∧ Q W w') := fun W hq => deadM_Close (D.q hq)
  have HKe : Hid (∀ W, Q w W → Calls Tryz.prog 34 #[v] W fun e w' => e = .returned (.slice none 0 0) ∧ Q W w') := fun W hq => deadM_Keys (D.q hq)
  clear D
  have HQ := hide (Q.refl w)
  go_enter Tryz.func44, Tryz.ntmps44
  go_wp2_with (first
    | (go_at_call 21; refine (HPu.out _ HQ.out).mono ?_; rintro e wz ⟨rfl, hq⟩; have HQ := hide (HQ.out.trans hq); clear hq)
    | (go_at_call 42; refine (HMg.out _ HQ.out).mono ?_; rintro e wz ⟨rfl, hq⟩; have HQ := hide (HQ.out.trans hq); clear hq)
    | (go_at_call 23; refine (HDe.out _ HQ.out).mono ?_; rintro e wz ⟨rfl, hq⟩; have HQ := hide (HQ.out.trans hq); clear hq)
    | (go_at_call 35; refine (HMc.out _ HQ.out).mono ?_; rintro e wz ⟨rfl, hq⟩; have HQ := hide (HQ.out.trans hq); clear hq)
    | (go_at_call 34; refine (HKe.out _ HQ.out).mono ?_; rintro e wz ⟨rfl, hq⟩; have HQ := hide (HQ.out.trans hq); clear hq))
  go_ret
  exact ⟨rfl, HQ.out⟩
set_option maxHeartbeats 4000000 in
set_option maxRecDepth 100000 in
theorem queueClosed_any (D : DeadQ v w) : Calls Tryz.prog 55 #[v] w fun e w' => e = .returned (.bool true) ∧ Q w w' := by
  have HPo : Hid (∀ W, Q w W → Calls Tryz.prog 27 #[v] W fun e w' => e = .returned (.tuple #[.int .i64 0, .int .i64 0, .bool false, .int .i64 9]) ∧ Q W w') := fun W hq => deadQ_Pop (D.q hq)
  have HPe : Hid (∀ W, Q w W → Calls Tryz.prog 53 #[v] W fun e w' => e = .returned (.tuple #[.int .i64 0, .int .i64 0, .bool false, .int .i64 9]) ∧ Q W w') := fun W hq => dead_Peek (D.q hq)
  have HPs : Hid (∀ W, Q w W → Calls Tryz.prog 25 #[v, .int .i64 1099511627776, .int .i64 0] W fun e w' => e = .returned (.int .i64 9) ∧ Q W w') := fun W hq => deadQ_Push (D.q hq) _ _
  have HQc : Hid (∀ W, Q w W → Calls Tryz.prog 32 #[v] W fun e w' => e = .returned (.int .i64 9) ∧ Q W w') := fun W hq => deadQ_Close (D.q hq)
  have HLe : Hid (∀ W, Q w W → Calls Tryz.prog 56 #[v] W fun e w' => e = .returned (.int .i64 0) ∧ Q W w') := fun W hq => deadQ_Len (D.q hq)
  clear D
  have HQ := hide (Q.refl w)
  go_enter Tryz.func55, Tryz.ntmps55
  go_wp2_with (first
    | (go_at_call 27; refine (HPo.out _ HQ.out).mono ?_; rintro e wz ⟨rfl, hq⟩; have HQ := hide (HQ.out.trans hq); clear hq)
    | (go_at_call 53; refine (HPe.out _ HQ.out).mono ?_; rintro e wz ⟨rfl, hq⟩; have HQ := hide (HQ.out.trans hq); clear hq)
    | (go_at_call 25; refine (HPs.out _ HQ.out).mono ?_; rintro e wz ⟨rfl, hq⟩; have HQ := hide (HQ.out.trans hq); clear hq)
    | (go_at_call 32; refine (HQc.out _ HQ.out).mono ?_; rintro e wz ⟨rfl, hq⟩; have HQ := hide (HQ.out.trans hq); clear hq)
    | (go_at_call 56; refine (HLe.out _ HQ.out).mono ?_; rintro e wz ⟨rfl, hq⟩; have HQ := hide (HQ.out.trans hq); clear hq))
  go_ret
  exact ⟨rfl, HQ.out⟩
set_option maxHeartbeats 4000000 in
set_option maxRecDepth 100000 in
theorem nils_any (i n : Int) : Calls Tryz.prog 7 #[.int .i64 i, .int .i64 n] w fun e w' => e = .returned (.bool true) ∧ Q w w' := by
  have HNl : Hid (∀ W, Q w W → Calls Tryz.prog 13 #[.pointer none] W fun e w' => e = .returned (.tuple #[.pointer none, .int .i64 1]) ∧ Q W w') := fun W hq => newList_nil _
  have HNm : Hid (∀ W, Q w W → Calls Tryz.prog 14 #[.pointer none] W fun e w' => e = .returned (.tuple #[.pointer none, .int .i64 1]) ∧ Q W w') := fun W hq => newMap_nil _
  have HNq : Hid (∀ W, Q w W → Calls Tryz.prog 15 #[.pointer none] W fun e w' => e = .returned (.tuple #[.pointer none, .int .i64 1]) ∧ Q W w') := fun W hq => newQueue_nil _
  have HRe : Hid (∀ W, Q w W → Calls Tryz.prog 19 #[.pointer none, .int .i64 i] W fun e w' => e = .returned (.tuple #[.int .i64 0, .int .i64 9]) ∧ Q W w') := fun W hq => dead_remove (deadL_nil _) _
  have HGe : Hid (∀ W, Q w W → Calls Tryz.prog 47 #[.pointer none, .int .i64 i] W fun e w' => e = .returned (.tuple #[.int .i64 0, .int .i64 9]) ∧ Q W w') := fun W hq => dead_get (deadL_nil _) _
  have HAd : Hid (∀ W, Q w W → Calls Tryz.prog 17 #[.pointer none, .int .i64 n] W fun e w' => e = .returned (.int .i64 9) ∧ Q W w') := fun W hq => dead_add (deadL_nil _) _
  have HIn : Hid (∀ W, Q w W → Calls Tryz.prog 46 #[.pointer none, .int .i64 i, .int .i64 n] W fun e w' => e = .returned (.int .i64 9) ∧ Q W w') := fun W hq => dead_insert (deadL_nil _) _ _
  have HSe : Hid (∀ W, Q w W → Calls Tryz.prog 49 #[.pointer none, .int .i64 i, .int .i64 n] W fun e w' => e = .returned (.int .i64 9) ∧ Q W w') := fun W hq => dead_set (deadL_nil _) _ _
  have HCl : Hid (∀ W, Q w W → Calls Tryz.prog 31 #[.pointer none] W fun e w' => e = .returned (.int .i64 9) ∧ Q W w') := fun W hq => dead_close (deadL_nil _)
  have HAl : Hid (∀ W, Q w W → Calls Tryz.prog 52 #[.pointer none] W fun e w' => e = .returned (.slice none 0 0) ∧ Q W w') := fun W hq => dead_all (deadL_nil _)
  have HPu : Hid (∀ W, Q w W → Calls Tryz.prog 21 #[.pointer none, .int .i64 i, .int .i64 n] W fun e w' => e = .returned (.tuple #[.int .i64 0, .bool false, .int .i64 9]) ∧ Q W w') := fun W hq => deadM_Put (deadM_nil _) _ _
  have HMg : Hid (∀ W, Q w W → Calls Tryz.prog 42 #[.pointer none, .int .i64 i] W fun e w' => e = .returned (.tuple #[.int .i64 0, .bool false, .int .i64 9]) ∧ Q W w') := fun W hq => deadM_Get (deadM_nil _) _
  have HDe : Hid (∀ W, Q w W → Calls Tryz.prog 23 #[.pointer none, .int .i64 i] W fun e w' => e = .returned (.tuple #[.int .i64 0, .bool false, .int .i64 9]) ∧ Q W w') := fun W hq => deadM_Delete (deadM_nil _) _
  have HMc : Hid (∀ W, Q w W → Calls Tryz.prog 35 #[.pointer none] W fun e w' => e = .returned (.int .i64 9) ∧ Q W w') := fun W hq => deadM_Close (deadM_nil _)
  have HKe : Hid (∀ W, Q w W → Calls Tryz.prog 34 #[.pointer none] W fun e w' => e = .returned (.slice none 0 0) ∧ Q W w') := fun W hq => deadM_Keys (deadM_nil _)
  have HPo : Hid (∀ W, Q w W → Calls Tryz.prog 27 #[.pointer none] W fun e w' => e = .returned (.tuple #[.int .i64 0, .int .i64 0, .bool false, .int .i64 9]) ∧ Q W w') := fun W hq => deadQ_Pop (deadQ_nil _)
  have HPe : Hid (∀ W, Q w W → Calls Tryz.prog 53 #[.pointer none] W fun e w' => e = .returned (.tuple #[.int .i64 0, .int .i64 0, .bool false, .int .i64 9]) ∧ Q W w') := fun W hq => dead_Peek (deadQ_nil _)
  have HPs : Hid (∀ W, Q w W → Calls Tryz.prog 25 #[.pointer none, .int .i64 i, .int .i64 n] W fun e w' => e = .returned (.int .i64 9) ∧ Q W w') := fun W hq => deadQ_Push (deadQ_nil _) _ _
  have HQc : Hid (∀ W, Q w W → Calls Tryz.prog 32 #[.pointer none] W fun e w' => e = .returned (.int .i64 9) ∧ Q W w') := fun W hq => deadQ_Close (deadQ_nil _)
  have HLe : Hid (∀ W, Q w W → Calls Tryz.prog 56 #[.pointer none] W fun e w' => e = .returned (.int .i64 0) ∧ Q W w') := fun W hq => deadQ_Len (deadQ_nil _)
  have HKn : Hid (∀ W, Q w W → Calls Tryz.prog 38 #[] W fun e w' => e = .returned (.bool true) ∧ Q W w') := fun W hq => known_lists _
  have HQ := hide (Q.refl w)
  go_enter Tryz.func7, Tryz.ntmps7
  go_wp2_with (first
    | (go_at_call 13; refine (HNl.out _ HQ.out).mono ?_; rintro e wz ⟨rfl, hq⟩; have HQ := hide (HQ.out.trans hq); clear hq)
    | (go_at_call 14; refine (HNm.out _ HQ.out).mono ?_; rintro e wz ⟨rfl, hq⟩; have HQ := hide (HQ.out.trans hq); clear hq)
    | (go_at_call 15; refine (HNq.out _ HQ.out).mono ?_; rintro e wz ⟨rfl, hq⟩; have HQ := hide (HQ.out.trans hq); clear hq)
    | (go_at_call 19; refine (HRe.out _ HQ.out).mono ?_; rintro e wz ⟨rfl, hq⟩; have HQ := hide (HQ.out.trans hq); clear hq)
    | (go_at_call 47; refine (HGe.out _ HQ.out).mono ?_; rintro e wz ⟨rfl, hq⟩; have HQ := hide (HQ.out.trans hq); clear hq)
    | (go_at_call 17; refine (HAd.out _ HQ.out).mono ?_; rintro e wz ⟨rfl, hq⟩; have HQ := hide (HQ.out.trans hq); clear hq)
    | (go_at_call 46; refine (HIn.out _ HQ.out).mono ?_; rintro e wz ⟨rfl, hq⟩; have HQ := hide (HQ.out.trans hq); clear hq)
    | (go_at_call 49; refine (HSe.out _ HQ.out).mono ?_; rintro e wz ⟨rfl, hq⟩; have HQ := hide (HQ.out.trans hq); clear hq)
    | (go_at_call 31; refine (HCl.out _ HQ.out).mono ?_; rintro e wz ⟨rfl, hq⟩; have HQ := hide (HQ.out.trans hq); clear hq)
    | (go_at_call 52; refine (HAl.out _ HQ.out).mono ?_; rintro e wz ⟨rfl, hq⟩; have HQ := hide (HQ.out.trans hq); clear hq)
    | (go_at_call 21; refine (HPu.out _ HQ.out).mono ?_; rintro e wz ⟨rfl, hq⟩; have HQ := hide (HQ.out.trans hq); clear hq)
    | (go_at_call 42; refine (HMg.out _ HQ.out).mono ?_; rintro e wz ⟨rfl, hq⟩; have HQ := hide (HQ.out.trans hq); clear hq)
    | (go_at_call 23; refine (HDe.out _ HQ.out).mono ?_; rintro e wz ⟨rfl, hq⟩; have HQ := hide (HQ.out.trans hq); clear hq)
    | (go_at_call 35; refine (HMc.out _ HQ.out).mono ?_; rintro e wz ⟨rfl, hq⟩; have HQ := hide (HQ.out.trans hq); clear hq)
    | (go_at_call 34; refine (HKe.out _ HQ.out).mono ?_; rintro e wz ⟨rfl, hq⟩; have HQ := hide (HQ.out.trans hq); clear hq)
    | (go_at_call 27; refine (HPo.out _ HQ.out).mono ?_; rintro e wz ⟨rfl, hq⟩; have HQ := hide (HQ.out.trans hq); clear hq)
    | (go_at_call 53; refine (HPe.out _ HQ.out).mono ?_; rintro e wz ⟨rfl, hq⟩; have HQ := hide (HQ.out.trans hq); clear hq)
    | (go_at_call 25; refine (HPs.out _ HQ.out).mono ?_; rintro e wz ⟨rfl, hq⟩; have HQ := hide (HQ.out.trans hq); clear hq)
    | (go_at_call 32; refine (HQc.out _ HQ.out).mono ?_; rintro e wz ⟨rfl, hq⟩; have HQ := hide (HQ.out.trans hq); clear hq)
    | (go_at_call 56; refine (HLe.out _ HQ.out).mono ?_; rintro e wz ⟨rfl, hq⟩; have HQ := hide (HQ.out.trans hq); clear hq)
    | (go_at_call 38; refine (HKn.out _ HQ.out).mono ?_; rintro e wz ⟨rfl, hq⟩; have HQ := hide (HQ.out.trans hq); clear hq))
  go_ret
  exact ⟨rfl, HQ.out⟩
end
end Go.Proofs.YtdaklffbfadghaaGreat
