/- The law PackPacks, walked. Conditions: the slice reads as bytes. -/
import Derived.Test.YtfiopjgpokdnoaaPackPh
import Derived.Test.YtfiopjgpokdnoaaPackPj
import Derived.Test.YtfiopjgpokdnoaaPackK
namespace Go.Proofs.Ytfiopjgpokdnoaa
open Go.RowKit PP
set_option linter.unusedVariables false
set_option linter.unusedSimpArgs false
theorem Pack_big (A : Option Addr) (n c : Nat) (w : World) (hn : 4096 < n) : Calls Try.prog 33 #[.slice A n c] w fun e w' => e = .returned (.tuple #[.slice none 0 0, .int .i64 3]) ∧ Q w w' := by
  have hn' : decide (4096 < (n : Int)) = true := decide_eq_true (by omega)
  go_enter Try.func33, Try.ntmps33
  go_wp2_with fail
  go_ret2
  exact ⟨rfl, Q.refl _⟩
theorem Shortest_big (A : Option Addr) (n c : Nat) (w : World) (hn : 200 < n) : Calls Try.prog 35 #[.slice A n c] w fun e w' => e = .returned (.tuple #[.int .i64 0, .int .i64 3]) ∧ Q w w' := by
  have hn' : decide (200 < (n : Int)) = true := decide_eq_true (by omega)
  go_enter Try.func35, Try.ntmps35
  go_wp2_with fail
  go_ret2
  exact ⟨rfl, Q.refl _⟩
theorem rShortest_big (A : Option Addr) (n c : Nat) (w : World) (hn : 200 < n) : Calls Try.prog 36 #[.slice A n c] w fun e w' => e = .returned (.tuple #[.int .i64 0, .int .i64 3]) ∧ Q w w' := by
  have hn' : decide (200 < (n : Int)) = true := decide_eq_true (by omega)
  go_enter Try.func36, Try.ntmps36
  go_wp2_with fail
  go_ret2
  exact ⟨rfl, Q.refl _⟩
theorem packed_back {bs x : List Nat} (h : PackR bs x) (hn : bs.length ≤ 4096) : ∃ k, unpackF x = (bs, k, 0) := by
  obtain ⟨k, hk⟩ := h.1.whole
  refine ⟨k, ?_⟩
  have := h.2.1
  unfold unpackF
  rw [if_neg (by omega), hk]
  show (if 4096 < bs.length then _ else _) = _
  rw [if_neg (by omega)]
theorem packed_least {bs x : List Nat} (h : PackR bs x) : shortF bs ≤ x.length := by
  obtain ⟨k, hk⟩ := h.1.whole
  have := least_items _ _ _ _ _ h.2.2 hk
  unfold Lat at this
  unfold shortF
  have e : (lsF bs bs.length).headD 0 = (lsF bs (bs.length - ([] : List Nat).length)).getD 0 0 := by
    rw [List.length_nil, Nat.sub_zero]
    cases lsF bs bs.length <;> rfl
  rw [e]
  exact this
theorem refItems_any (A : Option Addr) (n c : Nat) (x bs : List Nat) (k : Nat) (w : World) (h : Bytes w A n c x) (hu : unpackF x = (bs, k, 0)) :
    Calls Try.prog 34 #[.slice A n c] w fun e w' => ∃ v, e = .returned (.tuple #[.int .i64 (k : Int), v, .bool true]) ∧ w'.ownsRow w.heap.size 5 1 v bs.length (bs.map byteV) ∧ Q w w' := by
  have hi := rItems_any A n c x
  have hu2 := rUnpack_any A n c x
  unfold UnpackPost at hu2
  rw [hu] at hi
  simp only [hu] at hu2
  have HI := hide hi
  have HU := hide hu2
  have H := hide h
  clear hi hu2 h hu
  go_enter Try.func34, Try.ntmps34
  go_wp2_with fail
  refine (HI.out w H.out).mono ?_
  rintro e w1 ⟨rfl, hq1⟩
  go_wp2_with fail
  refine (HU.out w1 (H.out.up hq1)).mono ?_
  rintro e w2 ⟨v, rfl, hown, hq2⟩
  have HO := hide (own_mono hown hq1.size)
  have HQ := hide (hq1.trans hq2)
  obtain ⟨A2, c2, e2, -⟩ := own_form hown
  subst e2
  clear hown hq1 hq2
  go_wp2_with fail
  go_ret3
  exact ⟨_, rfl, HO.out, HQ.out⟩
set_option maxHeartbeats 4000000 in
set_option maxRecDepth 40000 in
theorem PackPacks_true (A : Option Addr) (n c : Nat) (bs : List Nat) (w : World) (h : Bytes w A n c bs) (hN : A = none → n = 0 ∧ c = 0) : Calls Try.prog 9 #[.slice A n c] w fun e w' => e = .returned (.bool true) ∧ Q w w' := by
  have hl := h.len
  have H := hide h
  have HN := hide hN
  clear h hN
  by_cases h2 : 20000 < n
  · have h2' : decide (20000 < (n : Int)) = true := decide_eq_true (by omega)
    go_enter Try.func9, Try.ntmps9
    go_wp2_with fail
    refine (known_any _).mono ?_
    rintro e w1 ⟨rfl, hq⟩
    go_wp2_with fail
    go_ret
    exact ⟨rfl, hq⟩
  have h2' : decide (20000 < (n : Int)) = false := decide_eq_false (by omega)
  by_cases h4 : 4096 < n
  · have h4' : decide (4096 < (n : Int)) = true := decide_eq_true (by omega)
    go_enter Try.func9, Try.ntmps9
    go_wp2_with (first
      | (go_at_call 33; refine (Pack_big A n c _ h4).mono ?_; rintro e w1 ⟨rfl, hq⟩; have HQ1 := hide hq; clear hq)
      | (go_at_call 11; refine (known_any _).mono ?_; rintro e w2 ⟨rfl, hq⟩; have HQ2 := hide hq; clear hq))
    go_ret
    exact ⟨rfl, HQ1.out.trans HQ2.out⟩
  have h4' : decide (4096 < (n : Int)) = false := decide_eq_false (by omega)
  go_enter Try.func9, Try.ntmps9
  go_upto_region 6 with (go_at_call 33; refine (Pack_any A n c bs w H.out HN.out (by omega)).mono ?_; rintro e w1 ⟨x, v, rfl, hR, hown, hq⟩; have HR := hide hR; have HO := hide hown; have HQ1 := hide hq; clear hR hown hq; obtain ⟨Ax, cx, ex, ho1, ho2, ho3, -⟩ := own_form HO.out; subst ex)
  obtain ⟨k, hu⟩ := packed_back HR.out (by omega)
  have hxl := HR.out.2.1
  rw [hl] at hxl
  have HXB : Hid (∀ W, Q w1 W → Bytes W (Ax) x.length cx x) := fun W hq => (Bytes.mk (own_rd HO.out) rfl HR.out.2.2 ho1 (by unfold maxLen at ho2; omega)).up hq
  have hu1 := Unpack_any Ax x.length cx x
  unfold UnpackPost at hu1
  simp only [hu] at hu1
  have HU := hide hu1
  have HRI := hide (fun W h => refItems_any Ax x.length cx x bs k W h hu)
  have HLE := hide (packed_least HR.out)
  clear hu hu1 ho3
  obtain ⟨xl, exl⟩ : ∃ xl, xl = x.length := ⟨_, rfl⟩
  rw [← exl] at hxl HXB HU HRI HLE ⊢
  have hxi : (xl : Int) ≤ 5000 := by omega
  have hq128 : ((n : Int) + 127) / 128 = (((n + 127) / 128 : Nat) : Int) := by omega
  have d6 : decide ((n : Int) + (((n + 127) / 128 : Nat) : Int) < (xl : Int)) = false := decide_eq_false (by omega)
  have d6b : decide ((n : Int) + ((n : Int) + 127) / 128 < (xl : Int)) = false := decide_eq_false (by omega)
  have hno : ¬ (n : Int) + ((n : Int) + 127) / 128 < (xl : Int) := by omega
  clear exl hxl ho1 ho2 hq128
  go_upto_region 10 with (first
    | (go_at_call 18; go_loud (refine (HU.out w1 (HXB.out w1 (Q.refl _))).mono ?_); rintro e w2 ⟨v2, rfl, hown, hq⟩; have HO2 := hide hown; have HQ2 := hide hq; clear hown hq; obtain ⟨A2, c2, e2, -⟩ := own_form HO2.out; subst e2)
    | (go_at_call 34; go_loud (refine (HRI.out w2 (HXB.out w2 HQ2.out)).mono ?_); rintro e w3 ⟨v3, rfl, hown, hq⟩; have HO3 := hide hown; have HQ3 := hide hq; clear hown hq; obtain ⟨A3, c3, e3, -⟩ := own_form HO3.out; subst e3))
  have k1 := conv_rd Try.underlying22 Try.underlying5 Try.underlying9 (own_rd (own_q HO2.out HQ3.out)) H.out.small bs.length c2 rfl
  have k2 := conv_rd Try.underlying22 Try.underlying5 Try.underlying9 (own_rd HO3.out) H.out.small bs.length c3 rfl
  have HQ13 := hide (HQ2.out.trans HQ3.out)
  have HQ03 := hide (HQ1.out.trans HQ13.out)
  have k3 := conv_rd Try.underlying22 Try.underlying5 Try.underlying9 (H.out.up HQ03.out).rd H.out.small n c hl
  rw [hl] at k1 k2
  clear HO2 HO3 HQ2 HQ3 HU HRI
  go_upto_region 12 with fail
  clear k1 k2 k3
  have HLEI := HLE.out
  by_cases h5 : n ≤ 200
  · have hs1 := Shortest_any A n c bs
    have hs2 := rShortest_any A n c bs
    obtain ⟨Z, hZ⟩ : ∃ Z, shortF bs = Z := ⟨_, rfl⟩
    rw [hZ] at HLEI
    simp only [hZ] at hs1 hs2
    have HS1 := hide hs1
    have HS2 := hide hs2
    clear hs1 hs2 hZ HLE
    have d9 : decide ((Z : Int) ≤ (xl : Int)) = true := decide_eq_true (by omega)
    go_wp2_with (first
      | (go_at_call 35; go_loud (refine (HS1.out w3 (H.out.up HQ03.out) h5).mono ?_); rintro e w4 ⟨rfl, hq⟩; have HQ4 := hide (HQ03.out.trans hq); clear hq)
      | (go_at_call 36; go_loud (refine (HS2.out w4 (H.out.up HQ4.out) h5).mono ?_); rintro e w5 ⟨rfl, hq⟩; have HQ5 := hide (HQ4.out.trans hq); clear hq)
      | (go_at_call 11; refine (known_any _).mono ?_; rintro e w6 ⟨rfl, hq⟩; have HQ6 := hide (HQ5.out.trans hq); clear hq))
    go_ret
    exact ⟨rfl, HQ6.out⟩
  · have h5' : 200 < n := by omega
    clear HLEI HLE
    go_wp2_with (first
      | (go_at_call 35; go_loud (refine (Shortest_big A n c w3 h5').mono ?_); rintro e w4 ⟨rfl, hq⟩; have HQ4 := hide (HQ03.out.trans hq); clear hq)
      | (go_at_call 36; go_loud (refine (rShortest_big A n c w4 h5').mono ?_); rintro e w5 ⟨rfl, hq⟩; have HQ5 := hide (HQ4.out.trans hq); clear hq)
      | (go_at_call 11; refine (known_any _).mono ?_; rintro e w6 ⟨rfl, hq⟩; have HQ6 := hide (HQ5.out.trans hq); clear hq))
    go_ret
    exact ⟨rfl, HQ6.out⟩
end Go.Proofs.Ytfiopjgpokdnoaa
