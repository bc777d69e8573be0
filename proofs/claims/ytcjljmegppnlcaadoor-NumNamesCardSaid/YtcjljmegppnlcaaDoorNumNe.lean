/- The law NumNames, joined. Conditions: the text is not longer than a text can be. -/
import Derived.Test.YtcjljmegppnlcaaDoorNumNd
namespace Go.Proofs.YtcjljmegppnlcaaDoor
open Go.RowKit NP
set_option linter.unusedVariables false
theorem readR_total (l : List UInt8) : ∃ s b er, ReadR l s b er := by
  by_cases h : ∃ (t : Bool) (k : Nat), 1 ≤ k ∧ k ≤ 31 ∧ l = nameL t k
  · obtain ⟨t, k, h1, h2, h3⟩ := h
    exact ⟨t, k, 0, .inl ⟨rfl, k, rfl, h1, h2, h3⟩⟩
  · exact ⟨false, 0, 2, .inr ⟨rfl, rfl, rfl, fun t k h1 h2 e => h ⟨t, k, h1, h2, e⟩⟩⟩
theorem rd_fix {l : List UInt8} {s : Bool} {b : Int} {er : Nat} (h : ReadR l s b er) {w w' : World} {e : Ending} (hp : RdPost w l e w') : e = .returned (.tuple #[.agg #[.bool s, .int .i64 b], .int .i64 (er : Nat)]) ∧ Q w w' := by
  obtain ⟨s', b', er', rfl, hr, hq⟩ := hp
  obtain ⟨rfl, rfl, rfl⟩ := h.eq hr
  exact ⟨rfl, hq⟩
theorem NumNames_true (ts : Bool) (tb : Int) (S : ByteArray) (hS : S.size ≤ 9223372036854775807) (w : World) :
    Calls Tryd.prog 3 #[.agg #[.bool ts, .int .i64 tb], .string S] w fun z w' => z = .returned (.bool true) ∧ Q w w' := by
  obtain ⟨l, rfl⟩ : ∃ l, S = strB l := ⟨S.data.toList, by simp [strB]⟩
  rw [strB_size] at hS
  obtain ⟨cs, cb, g, hr⟩ := readR_total l
  have hR : ∀ W, Calls Tryd.prog 6 #[.string (strB l)] W fun z w' => z = .returned (.tuple #[.agg #[.bool cs, .int .i64 cb], .int .i64 (g : Nat)]) ∧ Q W w' := fun W => (Read_any l hS W).mono fun e w' hp => rd_fix hr hp
  have hR2 : ∀ W, Calls Tryd.prog 7 #[.string (strB l)] W fun z w' => z = .returned (.tuple #[.agg #[.bool cs, .int .i64 cb], .int .i64 (g : Nat)]) ∧ Q W w' := fun W => (rRead_any l W).mono fun e w' hp => rd_fix hr hp
  obtain ⟨Y, j, hN3, h2⟩ : ∃ (Y : ByteArray) (j : Int), (∀ W, Calls Tryd.prog 4 #[.agg #[.bool cs, .int .i64 cb]] W fun z w' => z = .returned (.tuple #[.string Y, .int .i64 j]) ∧ Q W w') ∧ ((g : Int) = 0 → j = 0 ∧ Y = strB l) := by
    rcases hr with ⟨rfl, k, rfl, h1, h2, h3⟩ | ⟨rfl, rfl, rfl, _⟩
    · exact ⟨_, 0, fun W => Name_ok cs k h1 h2 W, fun _ => ⟨rfl, by rw [h3]⟩⟩
    · exact ⟨_, 1, fun W => Name_bad false 0 (by omega) W, fun h => by cases h⟩
  by_cases hv : 1 ≤ tb ∧ tb ≤ 31
  · obtain ⟨k, rfl⟩ : ∃ k : Nat, tb = (k : Int) := ⟨tb.toNat, by omega⟩
    have h1 : 1 ≤ k := by omega
    have h31 : k ≤ 31 := by omega
    have hra : ReadR (nameL ts k) ts (k : Nat) 0 := .inl ⟨rfl, k, rfl, h1, h31, rfl⟩
    have hsz := nameL_size ts h31
    rw [strB_size] at hsz
    exact NumNames_core ts k _ _ Y 0 cs cb g ts k ((0 : Nat) : Int) j (fun W => Name_ok ts k h1 h31 W) (fun W => rName_ok ts k h1 h31 W) hR hR2 (fun W => (Read_any (nameL ts k) (by omega) W).mono fun e w' hp => rd_fix hra hp) hN3 (fun _ => ⟨rfl, rfl, rfl⟩) h2 w
  · have hra : ReadR [] false 0 2 := bad_short (by simp)
    exact NumNames_core ts tb _ ByteArray.empty Y 1 cs cb g false 0 ((2 : Nat) : Int) j (fun W => Name_bad ts tb hv W) (fun W => rName_bad ts tb hv W) hR hR2 (fun W => (Read_any [] (by simp) W).mono fun e w' hp => rd_fix hra hp) hN3 (fun h => by cases h) h2 w
end Go.Proofs.YtcjljmegppnlcaaDoor
