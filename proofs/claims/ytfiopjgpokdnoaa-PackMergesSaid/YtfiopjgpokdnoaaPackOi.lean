/- The walks of the program's Order, Swaps and Sort. Conditions: the slices read as lists of at most 1,500 elements. -/
import Derived.Test.YtfiopjgpokdnoaaPackOd
import Derived.Test.YtfiopjgpokdnoaaPackOe
import Derived.Test.YtfiopjgpokdnoaaPackOf
import Derived.Test.YtfiopjgpokdnoaaPackOg
namespace Go.Proofs.Ytfiopjgpokdnoaa
open Go.RowKit PO
set_option linter.unusedVariables false
def TPost (E : Nat) {α : Type} (enc : α → List Value) (w : World) (er : Nat) (xs : List α) (e : Ending) (w' : World) : Prop :=
  ∃ v, e = .returned (.tuple #[v, .int .i64 (er : Nat)]) ∧ w'.ownsRow w.heap.size E 1 v xs.length (xs.flatMap enc) ∧ Q w w'
theorem Order_big (A : Option Addr) (n c : Nat) (w : World) (hn : 1000 < n) : Calls Try.prog 26 #[.slice A n c] w (TPost 3 (encI .i64) w 3 []) := by
  have d : decide (1000 < (n : Int)) = true := by simp; omega
  go_enter Try.func26, Try.ntmps26
  go_wp2_with fail
  go_ret2
  exact ⟨_, rfl, World.ownsRow_nil _ _ _ _, (Q.refl w).alloc _⟩
theorem Swaps_big (A : Option Addr) (n c : Nat) (w : World) (hn : 1000 < n) : Calls Try.prog 28 #[.slice A n c] w fun e w' => e = .returned (.tuple #[.int .i64 0, .int .i64 3]) ∧ Q w w' := by
  have d : decide (1000 < (n : Int)) = true := by simp; omega
  go_enter Try.func28, Try.ntmps28
  go_wp2_with fail
  go_ret2
  exact ⟨rfl, Q.refl _⟩
theorem Sort_big (A : Option Addr) (n c : Nat) (w : World) (hn : 1000 < n) : Calls Try.prog 30 #[.slice A n c] w (TPost 9 encS w 3 []) := by
  have d : decide (1000 < (n : Int)) = true := by simp; omega
  go_enter Try.func30, Try.ntmps30
  go_wp2_with fail
  go_ret2
  exact ⟨_, rfl, World.ownsRow_nil _ _ _ _, Q.refl w⟩
theorem idx_small (n : Nat) : ∀ x ∈ (List.range n).map Int.ofNat, 0 ≤ x ∧ x < (n : Int) := by
  intro x hx
  simp only [List.mem_map, List.mem_range] at hx
  obtain ⟨i, hi, rfl⟩ := hx
  exact ⟨Int.natCast_nonneg _, by simpa using hi⟩
set_option maxHeartbeats 1000000 in
theorem Order_any (A : Option Addr) (n c : Nat) (ls : List Int) (w : World) (h : Sl 1 (encI .i64) w A n c ls) (hn : n ≤ 1000) : Calls Try.prog 26 #[.slice A n c] w (TPost 3 (encI .i64) w 0 ((ordL ltI 0 ls).map Int.ofNat)) := by
  have d : decide (1000 < (n : Int)) = false := by simp; omega
  have hlen := h.len
  have hrd := h.rd
  rw [flatMap_one encI_one] at hrd
  have HL := hide hlen
  have HR := hide hrd
  have hso := ms_ordK ls
  rw [hlen] at hso
  have HSO := hide hso
  clear h hlen hrd hso
  go_enter Try.func26, Try.ntmps26
  go_wp2_with fail
  go_loopw [4, 11] (fun v vi wr => ∃ i : Nat, i ≤ n ∧ vi = .int .i64 i ∧ wr.ownsRow (w.heap.size + 1) 3 1 v i (((List.range i).map Int.ofNat).flatMap (encI .i64)) ∧ Below (w.heap.size + 1) (w.alloc (.cells #[.slice A n c] 42)) wr) (fun _ vi _ => n - (intOf vi).toNat)
  case atStart => exact ⟨0, by omega, by go_num, World.ownsRow_nil _ _ _ _, Below.refl _ _⟩
  case round =>
    obtain ⟨i, hi, rfl, hown, hb⟩ := hrel
    have hsz := hb.size
    simp at hsz
    have hii : (i : Int) ≤ (n : Int) := by omega
    by_cases hlt : i < n
    · have hd0 : decide (i < n) = true := by simpa using hlt
      have hd1 : decide ((i : Int) < (n : Int)) = true := by simpa using hlt
      have hrs : ((List.range (i + 1)).map Int.ofNat).flatMap (encI .i64) = ((List.range i).map Int.ofNat).flatMap (encI .i64) ++ [.int .i64 (i : Int)] := by
        rw [List.range_succ, List.map_append, List.flatMap_append]
        rfl
      have HRS := hide hrs
      have HB := hide hb
      clear hrs hb
      go_wp2_with (at_builtin; refine wpList_app1 rfl El_int _ _ rfl rfl hown (by simp) rfl rfl ?_ ?_ ?_ ?_; (focus (simp [Value.oneCell'])); (focus omega); (focus omega); intro v1 w1 hown1 hb1)
      go_roundw
      case rel => exact ⟨i + 1, by omega, by go_num, by rw [HRS.out]; exact hown1, HB.out.trans hb1⟩
      case measure => simp [intOf] <;> omega
    · have hd0 : decide (i < n) = false := by simpa using hlt
      have hd1 : decide ((i : Int) < (n : Int)) = false := by simpa using hlt
      obtain rfl : i = n := by omega
      have hcl : wr.cell? ⟨w.heap.size, 0, none⟩ = some (.slice A i c) := (Below.cell hb (p := ⟨w.heap.size, 0, none⟩) (by simp)).trans (by simp)
      have hrd : Rd wr (w.heap.size + 1) A (ls.map (Value.int .i64)) := ((HR.out.alloc (Nat.le_refl _) (.cells #[.slice A i c] 42)).mono (Nat.le_succ _)).below hb
      have hS := sortK wr (w.heap.size + 1) w.heap.size A i c ls (Nat.lt_succ_self _) hcl hrd HL.out (by omega) i (w.heap.size + 1) i _ _ wr (Below.refl _ _) (Nat.le_refl _) hsz (idx_small i) (by simp) (by omega) hown
      rw [HSO.out] at hS
      have HS := hide hS
      have HB := hide hb
      have HO := hide hown
      clear hS hb hown hrd hcl
      go_wp2_with fail
      refine HS.out.mono ?_
      rintro e w2 ⟨rfl, hown2, hgr2⟩
      have hq2 : Q w w2 := Below.trans (((Q.refl w).alloc (.cells #[.slice A i c] 42))) (Below.trans (HB.out.mono (Nat.le_succ _)) ((Below.refl w.heap.size wr).grown hgr2 (by omega) (fun k hk => by have := (HO.out.lt k hk).1; omega)))
      clear hgr2
      go_wp2_with fail
      go_ret2
      exact ⟨_, rfl, by rw [List.length_map, ordL_length, HL.out]; exact own_base hown2 (Nat.le_succ _), hq2⟩
theorem Swaps_any (A : Option Addr) (n c : Nat) (ls : List Int) (w : World) (h : Sl 1 (encI .i64) w A n c ls) (hN : A = none → n = 0 ∧ c = 0) (hn : n ≤ 1000) : Calls Try.prog 28 #[.slice A n c] w fun e w' => e = .returned (.tuple #[.int .i64 (inv ltI ls : Nat), .int .i64 0]) ∧ Q w w' := by
  have d : decide (1000 < (n : Int)) = false := by simp; omega
  have hlen := h.len
  have HC := hide (CloneI A n c ls w h hN (by omega))
  have hct := ms_count ord_int n ls (by omega)
  have HCT := hide hct
  have HL := hide hlen
  clear h hlen hct
  go_enter Try.func28, Try.ntmps28
  go_wp2_with fail
  refine HC.out.mono ?_
  rintro e w1 ⟨v1, rfl, hown1, hq1⟩
  have hS := sortI n w.heap.size n v1 ls w1 (by rw [HL.out]; exact Nat.le_refl _) (by omega) hown1
  rw [HCT.out] at hS
  have HS := hide hS
  have HO := hide hown1
  clear hS hown1
  go_wp2_with fail
  refine HS.out.mono ?_
  rintro e w2 ⟨rfl, hown2, hgr2⟩
  have hq2 : Q w w2 := Below.trans hq1 ((Below.refl w.heap.size w1).grown hgr2 hq1.size (fun k hk => (HO.out.lt k hk).1))
  clear hgr2 hown2
  go_wp2_with fail
  go_ret2
  exact ⟨rfl, hq2⟩
theorem Sort_any (A : Option Addr) (n c : Nat) (ls : List ByteArray) (w : World) (h : Sl 1 encS w A n c ls) (hN : A = none → n = 0 ∧ c = 0) (hn : n ≤ 1000) : Calls Try.prog 30 #[.slice A n c] w (TPost 9 encS w 0 ((ordL ltS ByteArray.empty ls).map (strAt ls))) := by
  have d : decide (1000 < (n : Int)) = false := by simp; omega
  have hlen := h.len
  have HC := hide (CloneS A n c ls w h hN (by omega))
  have hso := ms_ordL ltS ByteArray.empty ls
  rw [hlen] at hso
  have HSO := hide hso
  have HL := hide hlen
  clear h hlen hso
  go_enter Try.func30, Try.ntmps30
  go_wp2_with fail
  refine HC.out.mono ?_
  rintro e w1 ⟨v1, rfl, hown1, hq1⟩
  have hS := sortS n w.heap.size n v1 ls w1 (by rw [HL.out]; exact Nat.le_refl _) (by omega) hown1
  rw [HSO.out] at hS
  have HS := hide hS
  have HO := hide hown1
  clear hS hown1
  go_wp2_with fail
  refine HS.out.mono ?_
  rintro e w2 ⟨rfl, hown2, hgr2⟩
  have hq2 : Q w w2 := Below.trans hq1 ((Below.refl w.heap.size w1).grown hgr2 hq1.size (fun k hk => (HO.out.lt k hk).1))
  clear hgr2
  go_wp2_with fail
  go_ret2
  exact ⟨_, rfl, by rw [List.length_map, ordL_length, HL.out]; exact hown2, hq2⟩
end Go.Proofs.Ytfiopjgpokdnoaa
