/- The walk of the law LinkDrops. Conditions: the objects and the roots read as lists. -/
import Derived.Test.YtjdioilkhbpmoaaLinkDf
import Derived.Test.YtjdioilkhbpmoaaLinkFi
import Derived.Test.YtjdioilkhbpmoaaLinkRd
namespace Go.Proofs.Ytjdioilkhbpmoaa
open Go.RowKit LK
set_option linter.unusedVariables false
def DropR (os : List OV) (rs : List ByteArray) (xs : List Int) (er : Nat) : Prop :=
  (listedO os ≠ 0 ∧ xs = [] ∧ er = listedO os) ∨ (listedO os = 0 ∧ (∃ r ∈ rs, objAt (tabF 0 0 os) r = none) ∧ xs = [] ∧ er = 4) ∨ (listedO os = 0 ∧ (∀ r ∈ rs, objAt (tabF 0 0 os) r ≠ none) ∧ ∃ N, Marks os (tabF 0 0 os) rs N ∧ xs = dropL N ∧ er = 0)
theorem DropR.eq {os : List OV} {rs : List ByteArray} {xs ys : List Int} {a b : Nat} (h : DropR os rs xs a) (k : DropR os rs ys b) : xs = ys ∧ a = b := by
  rcases h with ⟨h1, rfl, rfl⟩ | ⟨h1, ⟨r, hr, hn⟩, rfl, rfl⟩ | ⟨h1, ha, N, hM, rfl, rfl⟩ <;> rcases k with ⟨k1, rfl, rfl⟩ | ⟨k1, ⟨r', kr, kn⟩, rfl, rfl⟩ | ⟨k1, ka, M, kM, rfl, rfl⟩
  · exact ⟨rfl, rfl⟩
  · exact absurd k1 h1
  · exact absurd k1 h1
  · exact absurd h1 k1
  · exact ⟨rfl, rfl⟩
  · exact absurd hn (ka r hr)
  · exact absurd h1 k1
  · exact absurd kn (ha r' kr)
  · exact ⟨by rw [hM.eq kM], rfl⟩
theorem DropR.len {os : List OV} {rs : List ByteArray} {xs : List Int} {a : Nat} (h : DropR os rs xs a) : xs.length ≤ 8 := by
  rcases h with ⟨h1, rfl, rfl⟩ | ⟨h1, _, rfl, rfl⟩ | ⟨h1, ha, N, hM, rfl, rfl⟩
  · simp
  · simp
  · have h8 := (listed_zero2 h1).1
    have := dropTo_len N N.length
    have h3 := hM.1
    unfold dropTo at this
    unfold dropL
    omega
theorem DropPost.out {w w' : World} {os : List OV} {rs : List ByteArray} {e : Ending} (h : DropPost w os rs e w') : ∃ A c xs er, e = .returned (.tuple #[.slice A xs.length c, .int .i64 (er : Nat)]) ∧ Sl 1 (encI .i64) w' A xs.length c xs ∧ Q w w' ∧ DropR os rs xs er := by
  obtain ⟨hq, ⟨h1, rfl⟩ | ⟨h1, h2, rfl⟩ | ⟨h1, h2, N, v, h3, rfl, ho⟩⟩ := h
  · exact ⟨none, 0, [], _, rfl, Sl.nil _, hq, .inl ⟨h1, rfl, rfl⟩⟩
  · exact ⟨none, 0, [], 4, rfl, Sl.nil _, hq, .inr (.inl ⟨h1, h2, rfl, rfl⟩)⟩
  · obtain ⟨A, c, rfl, hs⟩ := Sl.of_own ho
    exact ⟨A, c, _, 0, rfl, hs, hq, .inr (.inr ⟨h1, h2, N, h3, rfl, rfl⟩)⟩
set_option maxRecDepth 100000 in
set_option maxHeartbeats 4000000 in
theorem LinkDrops_true (A : Option Addr) (n c : Nat) (os : List OV) (Ar : Option Addr) (m cr : Nat) (rs : List ByteArray) (w : World) (hO : ObsR w A n c os) (hc : c ≤ 140737488351232) (hR : Sl 1 encS w Ar m cr rs) (hrs : ∀ r ∈ rs, r.size ≤ 140737488351232) (hRn : Ar = none → m = 0 ∧ cr = 0) :
    Calls Try.prog 4 #[.slice A n c, .slice Ar m cr] w fun e w' => e = .returned (.bool true) ∧ Q w w' := by
  have HLo := hide (Long_any A n c os w hO hc)
  have HO := hide hO
  have HR := hide hR
  have HRS := hide hrs
  have HRN := hide hRn
  have hcap := hR.cap
  have hmost := hR.most
  have hmi : (m : Int) ≤ 9223372036854775807 := by omega
  clear hO hR hrs hRn
  go_enter Try.func4, Try.ntmps4
  go_wp2_with fail
  refine HLo.out.mono ?_
  rintro e w1 ⟨rfl, hq1⟩
  cases hlb : longB os with
  | true =>
    go_wp2_with fail
    refine (known_any w1).mono ?_
    rintro e w2 ⟨rfl, hq2⟩
    go_wp2_with fail
    go_ret
    exact ⟨rfl, hq1.trans hq2⟩
  | false =>
    clear hlb
    have HQ1 := hide hq1
    clear hq1
    by_cases hm : 40 < m
    · have d0 : decide ((40 : Int) < (m : Int)) = true := by simp; omega
      have d1 : decide (40 < m) = true := by simp; omega
      go_wp2_with fail
      refine (known_any w1).mono ?_
      rintro e w2 ⟨rfl, hq2⟩
      go_wp2_with fail
      go_ret
      exact ⟨rfl, HQ1.out.trans hq2⟩
    · have d0 : decide ((40 : Int) < (m : Int)) = false := by simp; omega
      have d1 : decide (40 < m) = false := by simp; omega
      have hm40 : m ≤ 40 := by omega
      go_wp2_with fail
      refine (Drop_any A n c os Ar m cr rs w1 (HO.out.up HQ1.out) (HR.out.up HQ1.out) HRS.out hm40).mono ?_
      intro e w2 hp
      obtain ⟨A1, c1, xs, er, rfl, hs1, hq2, hd1⟩ := hp.out
      have S1 := hide hs1
      have HD1 := hide hd1
      have HQ2 := hide (HQ1.out.trans hq2)
      clear hp hs1 hd1 hq2
      go_wp2_with fail
      refine (rDrop_any A n c os Ar m cr rs w2 (HO.out.up HQ2.out) (HR.out.up HQ2.out) HRS.out hm40 HRN.out).mono ?_
      intro e w3 hp
      obtain ⟨A2, c2, ys, fr, rfl, hs2, hq3, hd2⟩ := hp.out
      obtain ⟨rfl, rfl⟩ := HD1.out.eq hd2
      have hxl := hd2.len
      have S1 := hide (S1.out.up hq3)
      have S2 := hide hs2
      have HQ3 := hide (HQ2.out.trans hq3)
      clear hp hs2 hd2 hq3 HD1
      go_wp2_with fail
      refine (SameInts_same _ _ _ _ _ _ _ S1.out S2.out (by omega)).mono ?_
      rintro e w4 ⟨rfl, hq⟩
      have HQ4 := hide (HQ3.out.trans hq)
      clear hq
      go_wp2_with fail
      refine (known_any w4).mono ?_
      rintro e w5 ⟨rfl, hq⟩
      have HQ5 := hide (HQ4.out.trans hq)
      clear hq
      go_wp2_with fail
      go_ret
      exact ⟨rfl, HQ5.out⟩
theorem rdTexts : Rdr Try.prog 34 1 (encV (α := ByteArray)) (SlOk 1 encS (fun _ s => s.size ≤ 140737488351232)) :=
  Rdr.slice' (Rdr.str Try.underlying9 (by kernel_rfl)) (by decide) Try.underlying34 (by kernel_rfl) (show Try.prog.bytesOf 9 = 16 by kernel_rfl) (by decide)
end Go.Proofs.Ytjdioilkhbpmoaa
