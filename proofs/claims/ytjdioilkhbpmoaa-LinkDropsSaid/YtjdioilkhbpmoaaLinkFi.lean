/- The walk of the law LinkFinds. Conditions: the objects read as a list. -/
import Derived.Test.YtjdioilkhbpmoaaLinkKn
import Derived.Test.YtjdioilkhbpmoaaLinkM
import Derived.Test.YtjdioilkhbpmoaaLinkLo
namespace Go.Proofs.Ytjdioilkhbpmoaa
open Go.RowKit LK
set_option linter.unusedVariables false
theorem startsR_len (os : List OV) : (startsR os).length ≤ 9 := by
  unfold startsR
  split
  · have := (listed_zero2 (by assumption)).1
    simp [startsL]
    omega
  · simp
theorem usersR_len (os : List OV) (s : ByteArray) : (usersR os s).length ≤ 8 := by
  unfold usersR
  split
  · have := (listed_zero2 (by assumption)).1
    exact Nat.le_trans (usersTo_len _ _ _) this
  · simp
theorem flat64 : ∀ xs : List Int, List.flatMap (encI .i64) xs = xs.map (Value.int .i64)
  | [] => rfl
  | x :: r => by rw [List.flatMap_cons, flat64 r]; rfl
theorem Sl.of_own {w : World} {B : Nat} {e : TypeId} {v : Value} {xs : List Int} (h : w.ownsRow B e 1 v xs.length (xs.map (Value.int .i64))) : ∃ A c, v = .slice A xs.length c ∧ Sl 1 (encI .i64) w A xs.length c xs := by
  obtain ⟨A, c, rfl, h1, h2, h3, hr⟩ := own_form h
  exact ⟨A, c, rfl, by rw [flat64]; exact hr, rfl, h1, by unfold maxLen at h2; omega⟩
set_option maxRecDepth 100000 in
set_option maxHeartbeats 4000000 in
theorem LinkFinds_true (A : Option Addr) (n c : Nat) (os : List OV) (s : ByteArray) (w : World) (hO : ObsR w A n c os) (hc : c ≤ 140737488351232) (hs : s.size ≤ 9223372036854775807) :
    Calls Try.prog 3 #[.slice A n c, .string s] w fun e w' => e = .returned (.bool true) ∧ Q w w' := by
  have HLo := hide (Long_any A n c os w hO hc)
  have HO := hide hO
  clear hO
  go_enter Try.func3, Try.ntmps3
  go_wp2_with fail
  refine HLo.out.mono ?_
  rintro e w1 ⟨rfl, hq1⟩
  cases hlb : longB os with
  | true =>
    go_wp2_with fail
    refine (known_any w1).mono ?_
    rintro e w2 ⟨rfl, hq2⟩
    go_wp2_with fail
    go_ret
    exact ⟨rfl, hq1.trans hq2⟩
  | false =>
    obtain ⟨er, her⟩ : ∃ er, listedO os = er := ⟨_, rfl⟩
    obtain ⟨st, hst⟩ : ∃ st, startsR os = st := ⟨_, rfl⟩
    obtain ⟨us, hus⟩ : ∃ us, usersR os s = us := ⟨_, rfl⟩
    obtain ⟨⟨fa, fb⟩, hfi⟩ : ∃ x, findR os s = x := ⟨_, rfl⟩
    have hstl := startsR_len os
    have husl := usersR_len os s
    have C1 := hide (fun w1 h => her ▸ hst ▸ Starts_any A n c os w1 h)
    have C2 := hide (fun w1 h => her ▸ hst ▸ rStarts_any A n c os w1 h)
    have C3 := hide (fun w1 h => her ▸ hfi ▸ Find_any A n c os s w1 h hs)
    have C4 := hide (fun w1 h => her ▸ hfi ▸ rFind_any A n c os s w1 h)
    have C5 := hide (fun w1 h => her ▸ hus ▸ Users_any A n c os s w1 h)
    have C6 := hide (fun w1 h => her ▸ hus ▸ rUsers_any A n c os s w1 h)
    rw [hst] at hstl
    rw [hus] at husl
    clear her hst hus hfi hlb
    have HQ1 := hide hq1
    clear hq1
    go_wp2_with fail
    refine (C1.out w1 (HO.out.up HQ1.out)).mono ?_
    rintro e w2 ⟨v1, rfl, hown, hq⟩
    obtain ⟨A1, c1, rfl, hsl⟩ := Sl.of_own hown
    have S1 := hide hsl
    have HQ2 := hide (HQ1.out.trans hq)
    clear hown hq hsl
    go_wp2_with fail
    refine (C2.out w2 (HO.out.up HQ2.out)).mono ?_
    rintro e w3 ⟨v1, rfl, hown, hq⟩
    obtain ⟨A2, c2, rfl, hsl⟩ := Sl.of_own hown
    have S2 := hide hsl
    have S1 := hide (S1.out.up hq)
    have HQ3 := hide (HQ2.out.trans hq)
    clear hown hq hsl
    go_wp2_with fail
    refine (C3.out w3 (HO.out.up HQ3.out)).mono ?_
    rintro e w4 ⟨rfl, hq⟩
    have S1 := hide (S1.out.up hq)
    have S2 := hide (S2.out.up hq)
    have HQ4 := hide (HQ3.out.trans hq)
    clear hq
    go_wp2_with fail
    refine (C4.out w4 (HO.out.up HQ4.out)).mono ?_
    rintro e w5 ⟨rfl, hq⟩
    have S1 := hide (S1.out.up hq)
    have S2 := hide (S2.out.up hq)
    have HQ5 := hide (HQ4.out.trans hq)
    clear hq
    go_wp2_with fail
    refine (C5.out w5 (HO.out.up HQ5.out)).mono ?_
    rintro e w6 ⟨v1, rfl, hown, hq⟩
    obtain ⟨A3, c3, rfl, hsl⟩ := Sl.of_own hown
    have S3 := hide hsl
    have S1 := hide (S1.out.up hq)
    have S2 := hide (S2.out.up hq)
    have HQ6 := hide (HQ5.out.trans hq)
    clear hown hq hsl
    go_wp2_with fail
    refine (C6.out w6 (HO.out.up HQ6.out)).mono ?_
    rintro e w7 ⟨v1, rfl, hown, hq⟩
    obtain ⟨A4, c4, rfl, hsl⟩ := Sl.of_own hown
    have S4 := hide hsl
    have S1 := hide (S1.out.up hq)
    have S2 := hide (S2.out.up hq)
    have S3 := hide (S3.out.up hq)
    have HQ7 := hide (HQ6.out.trans hq)
    clear hown hq hsl
    go_wp2_with fail
    refine (SameInts_same _ _ _ _ _ _ _ S1.out S2.out (by omega)).mono ?_
    rintro e w8 ⟨rfl, hq⟩
    have S3 := hide (S3.out.up hq)
    have S4 := hide (S4.out.up hq)
    have HQ8 := hide (HQ7.out.trans hq)
    clear hq
    go_wp2_with fail
    refine (SameInts_same _ _ _ _ _ _ _ S3.out S4.out (by omega)).mono ?_
    rintro e w9 ⟨rfl, hq⟩
    have HQ9 := hide (HQ8.out.trans hq)
    clear hq
    go_wp2_with fail
    refine (known_any w9).mono ?_
    rintro e w10 ⟨rfl, hq⟩
    have HQ10 := hide (HQ9.out.trans hq)
    clear hq
    go_wp2_with fail
    go_ret
    exact ⟨rfl, HQ10.out⟩
end Go.Proofs.Ytjdioilkhbpmoaa
