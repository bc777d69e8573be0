/- The walks of both isName, and of within. Conditions: none. -/
import Derived.Test.YtjdioilkhbpmoaaRows
import Derived.Test.YtjdioilkhbpmoaaRdr
import Derived.Test.YtjdioilkhbpmoaaMk
import Derived.Test.YtjdioilkhbpmoaaLinkPlain
import Derived.WalkLawsBesides
import Derived.WalkSpells
import Derived.Outline
namespace Go.Proofs.Ytjdioilkhbpmoaa
open Go.RowKit LK
set_option linter.unusedVariables false
theorem bytes_of_string {P : Program} (w : World) (src dst e : TypeId) (s : ByteArray) (hs : P.underlying src = some .string) (hd : P.underlying dst = some (.slice e)) (he : P.underlying e = some (.int .u8)) :
    ∃ c W, (convert src dst (.string s)).run P w = .ok (.slice (some ⟨w.heap.size, 0, none⟩) s.size c) W ∧ Q w W ∧ w.heap.size < W.heap.size ∧ s.size ≤ c ∧ ∀ k, (h : k < s.size) → W.cell? ⟨w.heap.size, k, none⟩ = some (.int .u8 (s[k].toNat : Int)) := by
  refine ⟨_, _, run_bytes_of_string w src dst e s hs hd he, (Q.refl w).drew.alloc _, by simp, grownCap_ge _ _ _ _, fun k h => ?_⟩
  have := World.cell?_alloc_mark w.drew (bytesRow s (grownCap w s.size 0 e)) e ((bytesRow s (grownCap w s.size 0 e)).size, (bytesRow s (grownCap w s.size 0 e)).size + 1) k
  exact this.trans (bytesRow_at s _ k h)
theorem nc_cases (v : Nat) (hv : v < 256) : (0 ≤ v ∧ v ≤ 47) ∨ (48 ≤ v ∧ v ≤ 57) ∨ (58 ≤ v ∧ v ≤ 64) ∨ (65 ≤ v ∧ v ≤ 90) ∨ (91 ≤ v ∧ v ≤ 94) ∨ (95 ≤ v ∧ v ≤ 95) ∨ (96 ≤ v ∧ v ≤ 96) ∨ (97 ≤ v ∧ v ≤ 122) ∨ (123 ≤ v ∧ v ≤ 255) := by omega
theorem name_false {s : ByteArray} {k : Nat} (hk : k < s.size) (h : isNC ((nat s).getD k 0) = false) : nameB s = false := by
  unfold nameB
  have : (nat s).all isNC = false := by
    rw [List.all_eq_false]
    refine ⟨(nat s).getD k 0, ?_, by rw [h]; exact Bool.false_ne_true⟩
    rw [List.getD_eq_getElem?_getD, nat_get s k hk]
    exact List.mem_of_getElem? (nat_get s k hk)
  rw [this]
  rfl
theorem name_size {s : ByteArray} (h : ∀ j, j < s.size → isNC ((nat s).getD j 0) = true) : nameB s = (decide (1 ≤ s.size) && decide (s.size ≤ 8)) := by
  unfold nameB
  have : (nat s).all isNC = true := by
    rw [List.all_eq_true]
    intro x hx
    obtain ⟨j, hj, rfl⟩ := List.getElem_of_mem hx
    have := h j (by rw [← nat_length]; exact hj)
    rw [List.getD_eq_getElem?_getD, List.getElem?_eq_getElem hj] at this
    exact this
  rw [this]
  rfl
set_option maxHeartbeats 2000000 in
theorem isName_any (s : ByteArray) (w : World) (hs : s.size ≤ 140737488351232) : Calls Try.prog 87 #[.string s] w fun e w' => e = .returned (.bool (nameB s)) ∧ Q w w' := by
  obtain ⟨cc, W1, hrun, hq1, hlt1, hcc, hcell⟩ := bytes_of_string (P := Try.prog) w 9 37 5 s Try.underlying9 Try.underlying37 Try.underlying5
  have HC := hide hcell
  have hsi : (s.size : Int) ≤ 140737488351232 := by omega
  clear hcell
  go_enter Try.func87, Try.ntmps87
  go_wp2_with fail
  clear hrun
  go_loopw [8] (fun vi wr => ∃ k : Nat, k ≤ s.size ∧ vi = .int .i64 k ∧ (∀ j, j < k → isNC ((nat s).getD j 0) = true) ∧ Q W1 wr) (fun vi _ => s.size - (intOf vi).toNat)
  case atStart => exact ⟨0, by omega, by go_num, fun j hj => by omega, Q.refl _⟩
  case round =>
    obtain ⟨k, hk, rfl, hall, hq⟩ := hrel
    have HALL := hide hall
    have hsz := hq.size
    clear hall
    by_cases hlt : k < s.size
    · have hd0 : decide (k < s.size) = true := by simpa using hlt
      have hd1 : decide ((k : Int) < (s.size : Int)) = true := by simpa using hlt
      have hlti : (k : Int) < (s.size : Int) := by omega
      have kc := (hq.facts.1 _ k hlt1).trans (HC.out k hlt)
      have hgk : (nat s).getD k 0 = s[k].toNat := by rw [List.getD_eq_getElem?_getD, nat_get s k hlt]; rfl
      have hv := s[k].toNat_lt
      generalize s[k].toNat = v at *
      have hw1 : w.heap.size < wr.heap.size := by omega
      have GK := hide hgk
      clear hgk
      rcases nc_cases v hv with ⟨hlo, hhi⟩ | ⟨hlo, hhi⟩ | ⟨hlo, hhi⟩ | ⟨hlo, hhi⟩ | ⟨hlo, hhi⟩ | ⟨hlo, hhi⟩ | ⟨hlo, hhi⟩ | ⟨hlo, hhi⟩ | ⟨hlo, hhi⟩
      · have f1 : decide ((97 : Int) ≤ (v : Int)) = false := by simp <;> omega
        have f1n : decide ((97 : Nat) ≤ v) = false := by simp <;> omega
        have f2 : decide ((v : Int) ≤ (122 : Int)) = true := by simp <;> omega
        have f2n : decide (v ≤ (122 : Nat)) = true := by simp <;> omega
        have f3 : decide ((65 : Int) ≤ (v : Int)) = false := by simp <;> omega
        have f3n : decide ((65 : Nat) ≤ v) = false := by simp <;> omega
        have f4 : decide ((v : Int) ≤ (90 : Int)) = true := by simp <;> omega
        have f4n : decide (v ≤ (90 : Nat)) = true := by simp <;> omega
        have f5 : decide ((48 : Int) ≤ (v : Int)) = false := by simp <;> omega
        have f5n : decide ((48 : Nat) ≤ v) = false := by simp <;> omega
        have f6 : decide ((v : Int) ≤ (57 : Int)) = true := by simp <;> omega
        have f6n : decide (v ≤ (57 : Nat)) = true := by simp <;> omega
        have f7 : ((v : Int) == 95) = false := by simp <;> omega
        have hnc : isNC v = false := by simp only [isNC, decide_true, decide_false, Bool.or_eq_true, f1n, f2n, f3n, f4n, f5n, f6n]; simp <;> omega
        have hf : nameB s = false := name_false hlt (by rw [GK.out, hnc])
        have HF := hide hf
        clear hnc hf hlo hhi
        go_wp2_with fail
        go_ret
        exact ⟨ret_bool HF.out.symm, hq1.trans hq⟩
      · have f1 : decide ((97 : Int) ≤ (v : Int)) = false := by simp <;> omega
        have f1n : decide ((97 : Nat) ≤ v) = false := by simp <;> omega
        have f2 : decide ((v : Int) ≤ (122 : Int)) = true := by simp <;> omega
        have f2n : decide (v ≤ (122 : Nat)) = true := by simp <;> omega
        have f3 : decide ((65 : Int) ≤ (v : Int)) = false := by simp <;> omega
        have f3n : decide ((65 : Nat) ≤ v) = false := by simp <;> omega
        have f4 : decide ((v : Int) ≤ (90 : Int)) = true := by simp <;> omega
        have f4n : decide (v ≤ (90 : Nat)) = true := by simp <;> omega
        have f5 : decide ((48 : Int) ≤ (v : Int)) = true := by simp <;> omega
        have f5n : decide ((48 : Nat) ≤ v) = true := by simp <;> omega
        have f6 : decide ((v : Int) ≤ (57 : Int)) = true := by simp <;> omega
        have f6n : decide (v ≤ (57 : Nat)) = true := by simp <;> omega
        have f7 : ((v : Int) == 95) = false := by simp <;> omega
        have hnc : isNC v = true := by simp only [isNC, decide_true, decide_false, Bool.or_eq_true, f1n, f2n, f3n, f4n, f5n, f6n]; simp <;> omega
        have HNC := hide hnc
        clear hnc hlo hhi
        go_wp2_with fail
        go_roundw
        case rel => exact ⟨k + 1, by omega, by go_num, fun j hj => by
          by_cases e : j = k
          · subst e; rw [GK.out]; exact HNC.out
          · exact HALL.out j (by omega), hq⟩
        case measure => simp [intOf] <;> omega
      · have f1 : decide ((97 : Int) ≤ (v : Int)) = false := by simp <;> omega
        have f1n : decide ((97 : Nat) ≤ v) = false := by simp <;> omega
        have f2 : decide ((v : Int) ≤ (122 : Int)) = true := by simp <;> omega
        have f2n : decide (v ≤ (122 : Nat)) = true := by simp <;> omega
        have f3 : decide ((65 : Int) ≤ (v : Int)) = false := by simp <;> omega
        have f3n : decide ((65 : Nat) ≤ v) = false := by simp <;> omega
        have f4 : decide ((v : Int) ≤ (90 : Int)) = true := by simp <;> omega
        have f4n : decide (v ≤ (90 : Nat)) = true := by simp <;> omega
        have f5 : decide ((48 : Int) ≤ (v : Int)) = true := by simp <;> omega
        have f5n : decide ((48 : Nat) ≤ v) = true := by simp <;> omega
        have f6 : decide ((v : Int) ≤ (57 : Int)) = false := by simp <;> omega
        have f6n : decide (v ≤ (57 : Nat)) = false := by simp <;> omega
        have f7 : ((v : Int) == 95) = false := by simp <;> omega
        have hnc : isNC v = false := by simp only [isNC, decide_true, decide_false, Bool.or_eq_true, f1n, f2n, f3n, f4n, f5n, f6n]; simp <;> omega
        have hf : nameB s = false := name_false hlt (by rw [GK.out, hnc])
        have HF := hide hf
        clear hnc hf hlo hhi
        go_wp2_with fail
        go_ret
        exact ⟨ret_bool HF.out.symm, hq1.trans hq⟩
      · have f1 : decide ((97 : Int) ≤ (v : Int)) = false := by simp <;> omega
        have f1n : decide ((97 : Nat) ≤ v) = false := by simp <;> omega
        have f2 : decide ((v : Int) ≤ (122 : Int)) = true := by simp <;> omega
        have f2n : decide (v ≤ (122 : Nat)) = true := by simp <;> omega
        have f3 : decide ((65 : Int) ≤ (v : Int)) = true := by simp <;> omega
        have f3n : decide ((65 : Nat) ≤ v) = true := by simp <;> omega
        have f4 : decide ((v : Int) ≤ (90 : Int)) = true := by simp <;> omega
        have f4n : decide (v ≤ (90 : Nat)) = true := by simp <;> omega
        have f5 : decide ((48 : Int) ≤ (v : Int)) = true := by simp <;> omega
        have f5n : decide ((48 : Nat) ≤ v) = true := by simp <;> omega
        have f6 : decide ((v : Int) ≤ (57 : Int)) = false := by simp <;> omega
        have f6n : decide (v ≤ (57 : Nat)) = false := by simp <;> omega
        have f7 : ((v : Int) == 95) = false := by simp <;> omega
        have hnc : isNC v = true := by simp only [isNC, decide_true, decide_false, Bool.or_eq_true, f1n, f2n, f3n, f4n, f5n, f6n]; simp <;> omega
        have HNC := hide hnc
        clear hnc hlo hhi
        go_wp2_with fail
        go_roundw
        case rel => exact ⟨k + 1, by omega, by go_num, fun j hj => by
          by_cases e : j = k
          · subst e; rw [GK.out]; exact HNC.out
          · exact HALL.out j (by omega), hq⟩
        case measure => simp [intOf] <;> omega
      · have f1 : decide ((97 : Int) ≤ (v : Int)) = false := by simp <;> omega
        have f1n : decide ((97 : Nat) ≤ v) = false := by simp <;> omega
        have f2 : decide ((v : Int) ≤ (122 : Int)) = true := by simp <;> omega
        have f2n : decide (v ≤ (122 : Nat)) = true := by simp <;> omega
        have f3 : decide ((65 : Int) ≤ (v : Int)) = true := by simp <;> omega
        have f3n : decide ((65 : Nat) ≤ v) = true := by simp <;> omega
        have f4 : decide ((v : Int) ≤ (90 : Int)) = false := by simp <;> omega
        have f4n : decide (v ≤ (90 : Nat)) = false := by simp <;> omega
        have f5 : decide ((48 : Int) ≤ (v : Int)) = true := by simp <;> omega
        have f5n : decide ((48 : Nat) ≤ v) = true := by simp <;> omega
        have f6 : decide ((v : Int) ≤ (57 : Int)) = false := by simp <;> omega
        have f6n : decide (v ≤ (57 : Nat)) = false := by simp <;> omega
        have f7 : ((v : Int) == 95) = false := by simp <;> omega
        have hnc : isNC v = false := by simp only [isNC, decide_true, decide_false, Bool.or_eq_true, f1n, f2n, f3n, f4n, f5n, f6n]; simp <;> omega
        have hf : nameB s = false := name_false hlt (by rw [GK.out, hnc])
        have HF := hide hf
        clear hnc hf hlo hhi
        go_wp2_with fail
        go_ret
        exact ⟨ret_bool HF.out.symm, hq1.trans hq⟩
      · have f1 : decide ((97 : Int) ≤ (v : Int)) = false := by simp <;> omega
        have f1n : decide ((97 : Nat) ≤ v) = false := by simp <;> omega
        have f2 : decide ((v : Int) ≤ (122 : Int)) = true := by simp <;> omega
        have f2n : decide (v ≤ (122 : Nat)) = true := by simp <;> omega
        have f3 : decide ((65 : Int) ≤ (v : Int)) = true := by simp <;> omega
        have f3n : decide ((65 : Nat) ≤ v) = true := by simp <;> omega
        have f4 : decide ((v : Int) ≤ (90 : Int)) = false := by simp <;> omega
        have f4n : decide (v ≤ (90 : Nat)) = false := by simp <;> omega
        have f5 : decide ((48 : Int) ≤ (v : Int)) = true := by simp <;> omega
        have f5n : decide ((48 : Nat) ≤ v) = true := by simp <;> omega
        have f6 : decide ((v : Int) ≤ (57 : Int)) = false := by simp <;> omega
        have f6n : decide (v ≤ (57 : Nat)) = false := by simp <;> omega
        have f7 : ((v : Int) == 95) = true := by simp <;> omega
        have hnc : isNC v = true := by simp only [isNC, decide_true, decide_false, Bool.or_eq_true, f1n, f2n, f3n, f4n, f5n, f6n]; simp <;> omega
        have HNC := hide hnc
        clear hnc hlo hhi
        go_wp2_with fail
        go_roundw
        case rel => exact ⟨k + 1, by omega, by go_num, fun j hj => by
          by_cases e : j = k
          · subst e; rw [GK.out]; exact HNC.out
          · exact HALL.out j (by omega), hq⟩
        case measure => simp [intOf] <;> omega
      · have f1 : decide ((97 : Int) ≤ (v : Int)) = false := by simp <;> omega
        have f1n : decide ((97 : Nat) ≤ v) = false := by simp <;> omega
        have f2 : decide ((v : Int) ≤ (122 : Int)) = true := by simp <;> omega
        have f2n : decide (v ≤ (122 : Nat)) = true := by simp <;> omega
        have f3 : decide ((65 : Int) ≤ (v : Int)) = true := by simp <;> omega
        have f3n : decide ((65 : Nat) ≤ v) = true := by simp <;> omega
        have f4 : decide ((v : Int) ≤ (90 : Int)) = false := by simp <;> omega
        have f4n : decide (v ≤ (90 : Nat)) = false := by simp <;> omega
        have f5 : decide ((48 : Int) ≤ (v : Int)) = true := by simp <;> omega
        have f5n : decide ((48 : Nat) ≤ v) = true := by simp <;> omega
        have f6 : decide ((v : Int) ≤ (57 : Int)) = false := by simp <;> omega
        have f6n : decide (v ≤ (57 : Nat)) = false := by simp <;> omega
        have f7 : ((v : Int) == 95) = false := by simp <;> omega
        have hnc : isNC v = false := by simp only [isNC, decide_true, decide_false, Bool.or_eq_true, f1n, f2n, f3n, f4n, f5n, f6n]; simp <;> omega
        have hf : nameB s = false := name_false hlt (by rw [GK.out, hnc])
        have HF := hide hf
        clear hnc hf hlo hhi
        go_wp2_with fail
        go_ret
        exact ⟨ret_bool HF.out.symm, hq1.trans hq⟩
      · have f1 : decide ((97 : Int) ≤ (v : Int)) = true := by simp <;> omega
        have f1n : decide ((97 : Nat) ≤ v) = true := by simp <;> omega
        have f2 : decide ((v : Int) ≤ (122 : Int)) = true := by simp <;> omega
        have f2n : decide (v ≤ (122 : Nat)) = true := by simp <;> omega
        have f3 : decide ((65 : Int) ≤ (v : Int)) = true := by simp <;> omega
        have f3n : decide ((65 : Nat) ≤ v) = true := by simp <;> omega
        have f4 : decide ((v : Int) ≤ (90 : Int)) = false := by simp <;> omega
        have f4n : decide (v ≤ (90 : Nat)) = false := by simp <;> omega
        have f5 : decide ((48 : Int) ≤ (v : Int)) = true := by simp <;> omega
        have f5n : decide ((48 : Nat) ≤ v) = true := by simp <;> omega
        have f6 : decide ((v : Int) ≤ (57 : Int)) = false := by simp <;> omega
        have f6n : decide (v ≤ (57 : Nat)) = false := by simp <;> omega
        have f7 : ((v : Int) == 95) = false := by simp <;> omega
        have hnc : isNC v = true := by simp only [isNC, decide_true, decide_false, Bool.or_eq_true, f1n, f2n, f3n, f4n, f5n, f6n]; simp <;> omega
        have HNC := hide hnc
        clear hnc hlo hhi
        go_wp2_with fail
        go_roundw
        case rel => exact ⟨k + 1, by omega, by go_num, fun j hj => by
          by_cases e : j = k
          · subst e; rw [GK.out]; exact HNC.out
          · exact HALL.out j (by omega), hq⟩
        case measure => simp [intOf] <;> omega
      · have f1 : decide ((97 : Int) ≤ (v : Int)) = true := by simp <;> omega
        have f1n : decide ((97 : Nat) ≤ v) = true := by simp <;> omega
        have f2 : decide ((v : Int) ≤ (122 : Int)) = false := by simp <;> omega
        have f2n : decide (v ≤ (122 : Nat)) = false := by simp <;> omega
        have f3 : decide ((65 : Int) ≤ (v : Int)) = true := by simp <;> omega
        have f3n : decide ((65 : Nat) ≤ v) = true := by simp <;> omega
        have f4 : decide ((v : Int) ≤ (90 : Int)) = false := by simp <;> omega
        have f4n : decide (v ≤ (90 : Nat)) = false := by simp <;> omega
        have f5 : decide ((48 : Int) ≤ (v : Int)) = true := by simp <;> omega
        have f5n : decide ((48 : Nat) ≤ v) = true := by simp <;> omega
        have f6 : decide ((v : Int) ≤ (57 : Int)) = false := by simp <;> omega
        have f6n : decide (v ≤ (57 : Nat)) = false := by simp <;> omega
        have f7 : ((v : Int) == 95) = false := by simp <;> omega
        have hnc : isNC v = false := by simp only [isNC, decide_true, decide_false, Bool.or_eq_true, f1n, f2n, f3n, f4n, f5n, f6n]; simp <;> omega
        have hf : nameB s = false := name_false hlt (by rw [GK.out, hnc])
        have HF := hide hf
        clear hnc hf hlo hhi
        go_wp2_with fail
        go_ret
        exact ⟨ret_bool HF.out.symm, hq1.trans hq⟩
    · have hd0 : decide (k < s.size) = false := by simpa using hlt
      have hd1 : decide ((k : Int) < (s.size : Int)) = false := by simpa using hlt
      have hn := name_size (s := s) (fun j hj => HALL.out j (by omega))
      have HN := hide hn
      clear hn
      have hqf := hq1.trans hq
      by_cases h1 : 1 ≤ s.size
      · have a1 : decide ((1 : Int) ≤ (s.size : Int)) = true := by simp; omega
        have a2 : decide (1 ≤ s.size) = true := by simpa using h1
        by_cases h8 : s.size ≤ 8
        · have b1 : decide ((s.size : Int) ≤ (8 : Int)) = true := by simp; omega
          have b2 : decide (s.size ≤ 8) = true := by simpa using h8
          have HB := hide (HN.out.trans (by rw [a2, b2]; rfl : _ = true))
          go_wp2_with fail
          go_ret
          exact ⟨ret_bool HB.out.symm, hqf⟩
        · have b1 : decide ((s.size : Int) ≤ (8 : Int)) = false := by simp; omega
          have b2 : decide (s.size ≤ 8) = false := by simpa using h8
          have HB := hide (HN.out.trans (by rw [a2, b2]; rfl : _ = false))
          go_wp2_with fail
          go_ret
          exact ⟨ret_bool HB.out.symm, hqf⟩
      · have a1 : decide ((1 : Int) ≤ (s.size : Int)) = false := by simp; omega
        have a2 : decide (1 ≤ s.size) = false := by simpa using h1
        have HB := hide (HN.out.trans (by rw [a2]; rfl : _ = false))
        go_wp2_with fail
        go_ret
        exact ⟨ret_bool HB.out.symm, hqf⟩
/-- is n from lo to hi -/
def inB (n lo hi : Int) : Bool := decide (lo ≤ n) && decide (n ≤ hi)
theorem within_any (n lo hi : Int) (w : World) : Calls Try.prog 62 #[.int .i64 n, .int .i64 lo, .int .i64 hi] w fun e w' => e = .returned (.bool (inB n lo hi)) ∧ w = w' := by
  unfold inB
  cases h1 : decide (lo ≤ n)
  · go_enter Try.func62, Try.ntmps62
    go_wp2_with fail
    go_ret
    exact ⟨rfl, rfl⟩
  · cases h2 : decide (n ≤ hi)
    · go_enter Try.func62, Try.ntmps62
      go_wp2_with fail
      go_ret
      exact ⟨rfl, rfl⟩
    · go_enter Try.func62, Try.ntmps62
      go_wp2_with fail
      go_ret
      exact ⟨rfl, rfl⟩
set_option maxHeartbeats 2000000 in
theorem rIsName_any (s : ByteArray) (w : World) (hs : s.size ≤ 140737488351232) : Calls Try.prog 61 #[.string s] w fun e w' => e = .returned (.bool (nameB s)) ∧ w = w' := by
  have hsi : (s.size : Int) ≤ 140737488351232 := by omega
  have ws : s.size ≤ maxLen := by unfold maxLen; omega
  go_enter Try.func61, Try.ntmps61
  go_wp2_with fail
  go_loop [3] (fun vi => ∃ k : Nat, k ≤ s.size ∧ vi = .int .i64 k ∧ (∀ j, j < k → isNC ((nat s).getD j 0) = true)) (fun vi => s.size - (intOf vi).toNat)
  case atStart => exact ⟨0, by omega, by go_num, fun j hj => by omega⟩
  case round =>
    obtain ⟨k, hk, rfl, hall⟩ := hrel
    have HALL := hide hall
    clear hall
    by_cases hlt : k < s.size
    · have hd0 : decide (k < s.size) = true := by simpa using hlt
      have hd1 : decide ((k : Int) < (s.size : Int)) = true := by simpa using hlt
      have hlti : (k : Int) < (s.size : Int) := by omega
      have hgk : (nat s).getD k 0 = s[k].toNat := by rw [List.getD_eq_getElem?_getD, nat_get s k hlt]; rfl
      have hv := s[k].toNat_lt
      obtain ⟨v, hvv⟩ : ∃ v, s[k].toNat = v := ⟨_, rfl⟩
      rw [hvv] at hgk hv
      have GK := hide hgk
      clear hgk
      rcases nc_cases v hv with ⟨hlo, hhi⟩ | ⟨hlo, hhi⟩ | ⟨hlo, hhi⟩ | ⟨hlo, hhi⟩ | ⟨hlo, hhi⟩ | ⟨hlo, hhi⟩ | ⟨hlo, hhi⟩ | ⟨hlo, hhi⟩ | ⟨hlo, hhi⟩
      · have f1 : decide ((97 : Int) ≤ (v : Int)) = false := by simp <;> omega
        have f1n : decide ((97 : Nat) ≤ v) = false := by simp <;> omega
        have f2 : decide ((v : Int) ≤ (122 : Int)) = true := by simp <;> omega
        have f2n : decide (v ≤ (122 : Nat)) = true := by simp <;> omega
        have f3 : decide ((65 : Int) ≤ (v : Int)) = false := by simp <;> omega
        have f3n : decide ((65 : Nat) ≤ v) = false := by simp <;> omega
        have f4 : decide ((v : Int) ≤ (90 : Int)) = true := by simp <;> omega
        have f4n : decide (v ≤ (90 : Nat)) = true := by simp <;> omega
        have f5 : decide ((48 : Int) ≤ (v : Int)) = false := by simp <;> omega
        have f5n : decide ((48 : Nat) ≤ v) = false := by simp <;> omega
        have f6 : decide ((v : Int) ≤ (57 : Int)) = true := by simp <;> omega
        have f6n : decide (v ≤ (57 : Nat)) = true := by simp <;> omega
        have f7 : ((v : Int) == 95) = false := by simp <;> omega
        have hnc : isNC v = false := by simp only [isNC, decide_true, decide_false, Bool.or_eq_true, f1n, f2n, f3n, f4n, f5n, f6n]; simp <;> omega
        have hf : nameB s = false := name_false hlt (by rw [GK.out, hnc])
        have HF := hide hf
        clear hnc hf hlo hhi
        go_wp2_with fail
        go_ret
        exact ⟨ret_bool HF.out.symm, rfl⟩
      · have f1 : decide ((97 : Int) ≤ (v : Int)) = false := by simp <;> omega
        have f1n : decide ((97 : Nat) ≤ v) = false := by simp <;> omega
        have f2 : decide ((v : Int) ≤ (122 : Int)) = true := by simp <;> omega
        have f2n : decide (v ≤ (122 : Nat)) = true := by simp <;> omega
        have f3 : decide ((65 : Int) ≤ (v : Int)) = false := by simp <;> omega
        have f3n : decide ((65 : Nat) ≤ v) = false := by simp <;> omega
        have f4 : decide ((v : Int) ≤ (90 : Int)) = true := by simp <;> omega
        have f4n : decide (v ≤ (90 : Nat)) = true := by simp <;> omega
        have f5 : decide ((48 : Int) ≤ (v : Int)) = true := by simp <;> omega
        have f5n : decide ((48 : Nat) ≤ v) = true := by simp <;> omega
        have f6 : decide ((v : Int) ≤ (57 : Int)) = true := by simp <;> omega
        have f6n : decide (v ≤ (57 : Nat)) = true := by simp <;> omega
        have f7 : ((v : Int) == 95) = false := by simp <;> omega
        have hnc : isNC v = true := by simp only [isNC, decide_true, decide_false, Bool.or_eq_true, f1n, f2n, f3n, f4n, f5n, f6n]; simp <;> omega
        have HNC := hide hnc
        clear hnc hlo hhi
        go_wp2_with fail
        go_round
        case rel => exact ⟨k + 1, by omega, by go_num, fun j hj => by
          by_cases e : j = k
          · subst e; rw [GK.out]; exact HNC.out
          · exact HALL.out j (by omega)⟩
        case measure => simp [intOf] <;> omega
      · have f1 : decide ((97 : Int) ≤ (v : Int)) = false := by simp <;> omega
        have f1n : decide ((97 : Nat) ≤ v) = false := by simp <;> omega
        have f2 : decide ((v : Int) ≤ (122 : Int)) = true := by simp <;> omega
        have f2n : decide (v ≤ (122 : Nat)) = true := by simp <;> omega
        have f3 : decide ((65 : Int) ≤ (v : Int)) = false := by simp <;> omega
        have f3n : decide ((65 : Nat) ≤ v) = false := by simp <;> omega
        have f4 : decide ((v : Int) ≤ (90 : Int)) = true := by simp <;> omega
        have f4n : decide (v ≤ (90 : Nat)) = true := by simp <;> omega
        have f5 : decide ((48 : Int) ≤ (v : Int)) = true := by simp <;> omega
        have f5n : decide ((48 : Nat) ≤ v) = true := by simp <;> omega
        have f6 : decide ((v : Int) ≤ (57 : Int)) = false := by simp <;> omega
        have f6n : decide (v ≤ (57 : Nat)) = false := by simp <;> omega
        have f7 : ((v : Int) == 95) = false := by simp <;> omega
        have hnc : isNC v = false := by simp only [isNC, decide_true, decide_false, Bool.or_eq_true, f1n, f2n, f3n, f4n, f5n, f6n]; simp <;> omega
        have hf : nameB s = false := name_false hlt (by rw [GK.out, hnc])
        have HF := hide hf
        clear hnc hf hlo hhi
        go_wp2_with fail
        go_ret
        exact ⟨ret_bool HF.out.symm, rfl⟩
      · have f1 : decide ((97 : Int) ≤ (v : Int)) = false := by simp <;> omega
        have f1n : decide ((97 : Nat) ≤ v) = false := by simp <;> omega
        have f2 : decide ((v : Int) ≤ (122 : Int)) = true := by simp <;> omega
        have f2n : decide (v ≤ (122 : Nat)) = true := by simp <;> omega
        have f3 : decide ((65 : Int) ≤ (v : Int)) = true := by simp <;> omega
        have f3n : decide ((65 : Nat) ≤ v) = true := by simp <;> omega
        have f4 : decide ((v : Int) ≤ (90 : Int)) = true := by simp <;> omega
        have f4n : decide (v ≤ (90 : Nat)) = true := by simp <;> omega
        have f5 : decide ((48 : Int) ≤ (v : Int)) = true := by simp <;> omega
        have f5n : decide ((48 : Nat) ≤ v) = true := by simp <;> omega
        have f6 : decide ((v : Int) ≤ (57 : Int)) = false := by simp <;> omega
        have f6n : decide (v ≤ (57 : Nat)) = false := by simp <;> omega
        have f7 : ((v : Int) == 95) = false := by simp <;> omega
        have hnc : isNC v = true := by simp only [isNC, decide_true, decide_false, Bool.or_eq_true, f1n, f2n, f3n, f4n, f5n, f6n]; simp <;> omega
        have HNC := hide hnc
        clear hnc hlo hhi
        go_wp2_with fail
        go_round
        case rel => exact ⟨k + 1, by omega, by go_num, fun j hj => by
          by_cases e : j = k
          · subst e; rw [GK.out]; exact HNC.out
          · exact HALL.out j (by omega)⟩
        case measure => simp [intOf] <;> omega
      · have f1 : decide ((97 : Int) ≤ (v : Int)) = false := by simp <;> omega
        have f1n : decide ((97 : Nat) ≤ v) = false := by simp <;> omega
        have f2 : decide ((v : Int) ≤ (122 : Int)) = true := by simp <;> omega
        have f2n : decide (v ≤ (122 : Nat)) = true := by simp <;> omega
        have f3 : decide ((65 : Int) ≤ (v : Int)) = true := by simp <;> omega
        have f3n : decide ((65 : Nat) ≤ v) = true := by simp <;> omega
        have f4 : decide ((v : Int) ≤ (90 : Int)) = false := by simp <;> omega
        have f4n : decide (v ≤ (90 : Nat)) = false := by simp <;> omega
        have f5 : decide ((48 : Int) ≤ (v : Int)) = true := by simp <;> omega
        have f5n : decide ((48 : Nat) ≤ v) = true := by simp <;> omega
        have f6 : decide ((v : Int) ≤ (57 : Int)) = false := by simp <;> omega
        have f6n : decide (v ≤ (57 : Nat)) = false := by simp <;> omega
        have f7 : ((v : Int) == 95) = false := by simp <;> omega
        have hnc : isNC v = false := by simp only [isNC, decide_true, decide_false, Bool.or_eq_true, f1n, f2n, f3n, f4n, f5n, f6n]; simp <;> omega
        have hf : nameB s = false := name_false hlt (by rw [GK.out, hnc])
        have HF := hide hf
        clear hnc hf hlo hhi
        go_wp2_with fail
        go_ret
        exact ⟨ret_bool HF.out.symm, rfl⟩
      · have f1 : decide ((97 : Int) ≤ (v : Int)) = false := by simp <;> omega
        have f1n : decide ((97 : Nat) ≤ v) = false := by simp <;> omega
        have f2 : decide ((v : Int) ≤ (122 : Int)) = true := by simp <;> omega
        have f2n : decide (v ≤ (122 : Nat)) = true := by simp <;> omega
        have f3 : decide ((65 : Int) ≤ (v : Int)) = true := by simp <;> omega
        have f3n : decide ((65 : Nat) ≤ v) = true := by simp <;> omega
        have f4 : decide ((v : Int) ≤ (90 : Int)) = false := by simp <;> omega
        have f4n : decide (v ≤ (90 : Nat)) = false := by simp <;> omega
        have f5 : decide ((48 : Int) ≤ (v : Int)) = true := by simp <;> omega
        have f5n : decide ((48 : Nat) ≤ v) = true := by simp <;> omega
        have f6 : decide ((v : Int) ≤ (57 : Int)) = false := by simp <;> omega
        have f6n : decide (v ≤ (57 : Nat)) = false := by simp <;> omega
        have f7 : ((v : Int) == 95) = true := by simp <;> omega
        have hnc : isNC v = true := by simp only [isNC, decide_true, decide_false, Bool.or_eq_true, f1n, f2n, f3n, f4n, f5n, f6n]; simp <;> omega
        have HNC := hide hnc
        clear hnc hlo hhi
        go_wp2_with fail
        go_round
        case rel => exact ⟨k + 1, by omega, by go_num, fun j hj => by
          by_cases e : j = k
          · subst e; rw [GK.out]; exact HNC.out
          · exact HALL.out j (by omega)⟩
        case measure => simp [intOf] <;> omega
      · have f1 : decide ((97 : Int) ≤ (v : Int)) = false := by simp <;> omega
        have f1n : decide ((97 : Nat) ≤ v) = false := by simp <;> omega
        have f2 : decide ((v : Int) ≤ (122 : Int)) = true := by simp <;> omega
        have f2n : decide (v ≤ (122 : Nat)) = true := by simp <;> omega
        have f3 : decide ((65 : Int) ≤ (v : Int)) = true := by simp <;> omega
        have f3n : decide ((65 : Nat) ≤ v) = true := by simp <;> omega
        have f4 : decide ((v : Int) ≤ (90 : Int)) = false := by simp <;> omega
        have f4n : decide (v ≤ (90 : Nat)) = false := by simp <;> omega
        have f5 : decide ((48 : Int) ≤ (v : Int)) = true := by simp <;> omega
        have f5n : decide ((48 : Nat) ≤ v) = true := by simp <;> omega
        have f6 : decide ((v : Int) ≤ (57 : Int)) = false := by simp <;> omega
        have f6n : decide (v ≤ (57 : Nat)) = false := by simp <;> omega
        have f7 : ((v : Int) == 95) = false := by simp <;> omega
        have hnc : isNC v = false := by simp only [isNC, decide_true, decide_false, Bool.or_eq_true, f1n, f2n, f3n, f4n, f5n, f6n]; simp <;> omega
        have hf : nameB s = false := name_false hlt (by rw [GK.out, hnc])
        have HF := hide hf
        clear hnc hf hlo hhi
        go_wp2_with fail
        go_ret
        exact ⟨ret_bool HF.out.symm, rfl⟩
      · have f1 : decide ((97 : Int) ≤ (v : Int)) = true := by simp <;> omega
        have f1n : decide ((97 : Nat) ≤ v) = true := by simp <;> omega
        have f2 : decide ((v : Int) ≤ (122 : Int)) = true := by simp <;> omega
        have f2n : decide (v ≤ (122 : Nat)) = true := by simp <;> omega
        have f3 : decide ((65 : Int) ≤ (v : Int)) = true := by simp <;> omega
        have f3n : decide ((65 : Nat) ≤ v) = true := by simp <;> omega
        have f4 : decide ((v : Int) ≤ (90 : Int)) = false := by simp <;> omega
        have f4n : decide (v ≤ (90 : Nat)) = false := by simp <;> omega
        have f5 : decide ((48 : Int) ≤ (v : Int)) = true := by simp <;> omega
        have f5n : decide ((48 : Nat) ≤ v) = true := by simp <;> omega
        have f6 : decide ((v : Int) ≤ (57 : Int)) = false := by simp <;> omega
        have f6n : decide (v ≤ (57 : Nat)) = false := by simp <;> omega
        have f7 : ((v : Int) == 95) = false := by simp <;> omega
        have hnc : isNC v = true := by simp only [isNC, decide_true, decide_false, Bool.or_eq_true, f1n, f2n, f3n, f4n, f5n, f6n]; simp <;> omega
        have HNC := hide hnc
        clear hnc hlo hhi
        go_wp2_with fail
        go_round
        case rel => exact ⟨k + 1, by omega, by go_num, fun j hj => by
          by_cases e : j = k
          · subst e; rw [GK.out]; exact HNC.out
          · exact HALL.out j (by omega)⟩
        case measure => simp [intOf] <;> omega
      · have f1 : decide ((97 : Int) ≤ (v : Int)) = true := by simp <;> omega
        have f1n : decide ((97 : Nat) ≤ v) = true := by simp <;> omega
        have f2 : decide ((v : Int) ≤ (122 : Int)) = false := by simp <;> omega
        have f2n : decide (v ≤ (122 : Nat)) = false := by simp <;> omega
        have f3 : decide ((65 : Int) ≤ (v : Int)) = true := by simp <;> omega
        have f3n : decide ((65 : Nat) ≤ v) = true := by simp <;> omega
        have f4 : decide ((v : Int) ≤ (90 : Int)) = false := by simp <;> omega
        have f4n : decide (v ≤ (90 : Nat)) = false := by simp <;> omega
        have f5 : decide ((48 : Int) ≤ (v : Int)) = true := by simp <;> omega
        have f5n : decide ((48 : Nat) ≤ v) = true := by simp <;> omega
        have f6 : decide ((v : Int) ≤ (57 : Int)) = false := by simp <;> omega
        have f6n : decide (v ≤ (57 : Nat)) = false := by simp <;> omega
        have f7 : ((v : Int) == 95) = false := by simp <;> omega
        have hnc : isNC v = false := by simp only [isNC, decide_true, decide_false, Bool.or_eq_true, f1n, f2n, f3n, f4n, f5n, f6n]; simp <;> omega
        have hf : nameB s = false := name_false hlt (by rw [GK.out, hnc])
        have HF := hide hf
        clear hnc hf hlo hhi
        go_wp2_with fail
        go_ret
        exact ⟨ret_bool HF.out.symm, rfl⟩
    · have hd0 : decide (k < s.size) = false := by simpa using hlt
      have hd1 : decide ((k : Int) < (s.size : Int)) = false := by simpa using hlt
      have hn := name_size (s := s) (fun j hj => HALL.out j (by omega))
      have HN := hide hn
      clear hn
      go_wp2_with fail
      refine (within_any _ _ _ _).mono ?_
      rintro e w1 ⟨rfl, rfl⟩
      go_wp2_with fail
      go_ret
      refine ⟨?_, rfl⟩
      rw [HN.out]
      refine ret_bool ?_
      unfold inB
      congr 1 <;> (rw [decide_eq_decide]; omega)
end Go.Proofs.Ytjdioilkhbpmoaa
