/- The walks of Merge and Search, of the program and of the reference, and of the law PackMerges. Conditions: the slices read as lists. -/
import Derived.Test.YtfiopjgpokdnoaaPackMa
import Derived.Test.YtfiopjgpokdnoaaPackSh
namespace Go.Proofs.Ytfiopjgpokdnoaa
open Go.RowKit PO
set_option linter.unusedVariables false
def szC (n1 n2 : Nat) : Nat → Nat
  | 0 => 0
  | 1 => n1
  | _ => n1 + n2
def lsC (xs ys : List Int) : Nat → List Int
  | 0 => []
  | 1 => xs
  | _ => xs ++ ys
theorem encI_cell (xs : List Int) : ∀ u ∈ xs.flatMap (encI .i64), u.oneCell' = true := fun u hu => by
  obtain ⟨x, _, hx⟩ := List.mem_flatMap.1 hu
  simp [encI] at hx
  subst hx
  rfl
set_option maxHeartbeats 1000000 in
theorem concatI (g : Nat) (A1 : Option Addr) (n1 c1 : Nat) (xs : List Int) (A2 : Option Addr) (n2 c2 : Nat) (ys : List Int) (w : World) (h1 : Sl 1 (encI .i64) w A1 n1 c1 xs) (h2 : Sl 1 (encI .i64) w A2 n2 c2 ys) (hN1 : A1 = none → n1 = 0 ∧ c1 = 0) (hN2 : A2 = none → n2 = 0 ∧ c2 = 0)
    (hg : g < w.heap.size) (k1 : w.cell? ⟨g, 0, none⟩ = some (.slice A1 n1 c1)) (k2 : w.cell? ⟨g, 1, none⟩ = some (.slice A2 n2 c2)) (hn1 : n1 ≤ 1000) (hn2 : n2 ≤ 1000) :
    Calls Try.prog 61 #[.slice (some ⟨g, 0, none⟩) 2 2] w fun e w' => ∃ v, e = .returned v ∧ w'.ownsRow w.heap.size 3 1 v (n1 + n2) ((xs ++ ys).flatMap (encI .i64)) ∧ Q w w' := by
  have hn1i : (n1 : Int) ≤ 1000 := by omega
  have hn2i : (n2 : Int) ≤ 1000 := by omega
  have d1 : decide ((n1 : Int) < 0) = false := by simp <;> omega
  have d2 : decide ((n1 : Int) + (n2 : Int) < 0) = false := by simp <;> omega
  have L1 : (xs.flatMap (encI .i64)).length = n1 * 1 := by rw [encI_len, h1.len]; omega
  have L2 : (ys.flatMap (encI .i64)).length = n2 * 1 := by rw [encI_len, h2.len]; omega
  have HL1 := hide L1
  have HL2 := hide L2
  have H1 := hide h1
  have H2 := hide h2
  have HN1 := hide hN1
  have HN2 := hide hN2
  have K1 := hide k1
  have K2 := hide k2
  clear h1 h2 L1 L2 hN1 hN2
  go_enter Try.func61, Try.ntmps61
  go_wp2_with fail
  go_loop [3, 11] (fun vs vi => ∃ i : Nat, i ≤ 2 ∧ vi = .int .i64 i ∧ vs = .int .i64 (szC n1 n2 i : Nat)) (fun _ vi => 2 - (intOf vi).toNat)
  case atStart => exact ⟨0, by omega, by go_num, by go_num⟩
  case round =>
    obtain ⟨i, hi, rfl, rfl⟩ := hrel
    have h3 : i = 0 ∨ i = 1 ∨ i = 2 := by omega
    rcases h3 with rfl | rfl | rfl
    · simp only [szC]
      go_wp2_with fail
      go_round
      case rel => exact ⟨1, by omega, by go_num, by simp [szC]⟩
      case measure => simp [intOf] <;> omega
    · simp only [szC]
      go_wp2_with fail
      go_round
      case rel => exact ⟨2, by omega, by go_num, by simp [szC]⟩
      case measure => simp [intOf] <;> omega
    · simp only [szC]
      clear k1 k2
      go_wp2_with fail
      rw [← Int.natCast_add]
      refine (growI (n1 + n2) _ (by omega)).mono ?_
      rintro e w3 ⟨v3, rfl, hown3, hq3⟩
      have HO3 := hide hown3
      clear hown3 d1 d2
      go_wp2_with fail
      go_loopw [6, 27] (fun v vi wr => ∃ i : Nat, i ≤ 2 ∧ vi = .int .i64 i ∧ wr.ownsRow w.heap.size 3 1 v (szC n1 n2 i) ((lsC xs ys i).flatMap (encI .i64)) ∧ Q w wr) (fun _ vi _ => 2 - (intOf vi).toNat)
      case atStart => exact ⟨0, by omega, by go_num, HO3.out, hq3⟩
      case round =>
        obtain ⟨i, hi, rfl, hown, hq⟩ := hrel
        have hsz := hq.size
        have k1 := (hq.facts.1 g 0 hg).trans K1.out
        have k2 := (hq.facts.1 g 1 hg).trans K2.out
        have r1 := hide (H1.out.up hq).rd
        have r2 := hide (H2.out.up hq).rd
        have hgl : g < wr.heap.size := by omega
        have h3 : i = 0 ∨ i = 1 ∨ i = 2 := by omega
        rcases h3 with rfl | rfl | rfl
        · simp only [szC, lsC, List.flatMap_nil] at hown
          go_wp2_with (at_builtin; refine wpList_apps rfl El_int _ _ rfl rfl hown rfl HN1.out HL1.out r1.out (encI_cell xs) ?_ ?_ ?_; (focus omega); (focus omega); intro v1 w4 hown4 hb4; simp only [Nat.zero_add, List.nil_append] at hown4)
          go_roundw
          case rel => exact ⟨1, by omega, by go_num, hown4, hq.below.trans hb4⟩
          case measure => simp [intOf] <;> omega
        · simp only [szC, lsC] at hown
          go_wp2_with (at_builtin; refine wpList_apps rfl El_int _ _ rfl rfl hown rfl HN2.out HL2.out r2.out (encI_cell ys) ?_ ?_ ?_; (focus omega); (focus omega); intro v1 w4 hown4 hb4; rw [← List.flatMap_append] at hown4)
          go_roundw
          case rel => exact ⟨2, by omega, by go_num, hown4, hq.below.trans hb4⟩
          case measure => simp [intOf] <;> omega
        · have HO := hide hown
          clear hown k1 k2
          go_wp2_with fail
          go_ret
          exact ⟨_, rfl, HO.out, hq⟩
theorem mrg_ms {xs ys : List Int} (hx : adjB xs = true) (hy : adjB ys = true) (n : Nat) (hn : xs.length + ys.length = n) : (ms ltI n (xs ++ ys)).1 = (mrg ltI n xs ys).1 := by
  have s1 := ms_sorted ord_int n (xs ++ ys) (by simp; omega)
  have px : xs.Pairwise (fun a b => ltI b a = false) := (adjB_pair hx).imp (fun h => by simp [ltI]; omega)
  have py : ys.Pairwise (fun a b => ltI b a = false) := (adjB_pair hy).imp (fun h => by simp [ltI]; omega)
  have s2 := mrg_pair ltI (fun a b => ltI b a = false) n xs ys (by omega) px py (fun x _ y _ h => by simp [ltI] at *; omega) (fun x _ y _ h => h) (fun x y z h1 h2 => ord_int.le_tr h1 h2)
  exact sorted_eq (fun x y h1 h2 => ord_int.tot x y h2 h1) _ _ ((ms_perm ltI n (xs ++ ys)).trans (mrg_perm ltI n xs ys (by omega)).symm) s1 s2
/-- what Merge comes to: its error, its list -/
def mergeF (xs ys : List Int) : Nat × List Int :=
  if 1000 < xs.length ∨ 1000 < ys.length then (3, []) else if adjB xs = true ∧ adjB ys = true then (0, (mrg ltI (xs.length + ys.length) xs ys).1) else (7, [])
theorem mergeF_len (xs ys : List Int) : (mergeF xs ys).2.length ≤ 2000 := by
  unfold mergeF
  split
  · simp
  · split
    · have := (mrg_perm ltI (xs.length + ys.length) xs ys (Nat.le_refl _)).length_eq
      simp at this ⊢
      omega
    · simp
set_option maxHeartbeats 1000000 in
theorem Merge_any (A1 : Option Addr) (n1 c1 : Nat) (xs : List Int) (A2 : Option Addr) (n2 c2 : Nat) (ys : List Int) (w : World) (h1 : Sl 1 (encI .i64) w A1 n1 c1 xs) (h2 : Sl 1 (encI .i64) w A2 n2 c2 ys) (hN1 : A1 = none → n1 = 0 ∧ c1 = 0) (hN2 : A2 = none → n2 = 0 ∧ c2 = 0) (hm1 : n1 ≤ 1500) (hm2 : n2 ≤ 1500) :
    Calls Try.prog 37 #[.slice A1 n1 c1, .slice A2 n2 c2] w (TPost 3 (encI .i64) w (mergeF xs ys).1 (mergeF xs ys).2) := by
  have l1 := h1.len
  have l2 := h2.len
  by_cases hb1 : 1000 < n1
  · have e : mergeF xs ys = (3, []) := by unfold mergeF; rw [if_pos (.inl (by omega))]
    rw [e]
    have d1 : decide (1000 < (n1 : Int)) = true := by simp; omega
    clear h1 h2 l1 l2 e
    go_enter Try.func37, Try.ntmps37
    go_wp2_with fail
    go_ret2
    exact ⟨_, rfl, World.ownsRow_nil _ _ _ _, Q.refl _⟩
  have d1 : decide (1000 < (n1 : Int)) = false := by simp; omega
  by_cases hb2 : 1000 < n2
  · have e : mergeF xs ys = (3, []) := by unfold mergeF; rw [if_pos (.inr (by omega))]
    rw [e]
    have d2 : decide (1000 < (n2 : Int)) = true := by simp; omega
    clear h1 h2 l1 l2 e
    go_enter Try.func37, Try.ntmps37
    go_wp2_with fail
    go_ret2
    exact ⟨_, rfl, World.ownsRow_nil _ _ _ _, Q.refl _⟩
  have d2 : decide (1000 < (n2 : Int)) = false := by simp; omega
  have c1 := isSorted_any A1 n1 c1 xs w h1 (by omega)
  have H1 := hide h1
  have H2 := hide h2
  cases hs1 : adjB xs
  · have e : mergeF xs ys = (7, []) := by unfold mergeF; rw [if_neg (by omega), if_neg (by simp [hs1])]
    rw [e]
    rw [hs1] at c1
    have C1 := hide c1
    clear h1 h2 l1 l2 e hs1 c1
    go_enter Try.func37, Try.ntmps37
    go_wp2_with fail
    refine C1.out.mono ?_
    rintro e w1 ⟨rfl, hq1⟩
    go_wp2_with fail
    go_ret2
    exact ⟨_, rfl, World.ownsRow_nil _ _ _ _, hq1⟩
  · rw [hs1] at c1
    have C1 := hide c1
    have c2 := fun W h => isSorted_any A2 n2 c2 ys W h (by omega)
    cases hs2 : adjB ys
    · have e : mergeF xs ys = (7, []) := by unfold mergeF; rw [if_neg (by omega), if_neg (by simp [hs2])]
      rw [e]
      rw [hs2] at c2
      have C2 := hide c2
      clear h1 h2 l1 l2 e hs1 hs2 c1 c2
      go_enter Try.func37, Try.ntmps37
      go_wp2_with fail
      refine C1.out.mono ?_
      rintro e w1 ⟨rfl, hq1⟩
      go_wp2_with fail
      refine (C2.out _ (H2.out.up hq1)).mono ?_
      rintro e w2 ⟨rfl, hq2⟩
      go_wp2_with fail
      go_ret2
      exact ⟨_, rfl, World.ownsRow_nil _ _ _ _, hq1.trans hq2⟩
    · have e : mergeF xs ys = (0, (mrg ltI (xs.length + ys.length) xs ys).1) := by unfold mergeF; rw [if_neg (by omega), if_pos ⟨hs1, hs2⟩]
      rw [e, ← mrg_ms hs1 hs2 _ rfl, l1, l2]
      rw [hs2] at c2
      have C2 := hide c2
      have hlen : (ms ltI (n1 + n2) (xs ++ ys)).1.length = n1 + n2 := by rw [ms_length, List.length_append, l1, l2]
      have HLEN := hide hlen
      have hlx : (xs ++ ys).length ≤ n1 + n2 := by rw [List.length_append]; omega
      have HLX := hide hlx
      clear h1 h2 l1 l2 e hs1 hs2 c1 c2 hlen hlx
      go_enter Try.func37, Try.ntmps37
      go_wp2_with fail
      refine C1.out.mono ?_
      rintro e w1 ⟨rfl, hq1⟩
      go_wp2_with fail
      refine (C2.out _ (H2.out.up hq1)).mono ?_
      rintro e w2 ⟨rfl, hq2⟩
      have hq02 := hq1.trans hq2
      have hqa := (Q.refl w2).alloc (.cells #[.slice A1 n1 c1, .slice A2 n2 c2] 42)
      have CC := hide (concatI w2.heap.size A1 n1 c1 xs A2 n2 c2 ys _ ((H1.out.up hq02).up hqa) ((H2.out.up hq02).up hqa) hN1 hN2 (by simp) (by simp) (by simp) (by omega) (by omega))
      clear hq1 hq2
      go_wp2_with fail
      refine CC.out.mono ?_
      rintro e w3 ⟨v3, rfl, hown3, hq3⟩
      have hq03 := (hq02.trans hqa).trans hq3
      have hS := sortI (n1 + n2) w.heap.size (n1 + n2) v3 (xs ++ ys) w3 HLX.out (by omega) (own_base hown3 (hq02.trans hqa).size)
      have HS := hide hS
      have HO := hide (own_base hown3 (hq02.trans hqa).size)
      clear hS hown3 hqa hq02 hq3
      go_wp2_with fail
      refine HS.out.mono ?_
      rintro e w4 ⟨rfl, hown4, hgr4⟩
      have hq4 : Q w w4 := Below.trans hq03 ((Below.refl w.heap.size w3).grown hgr4 hq03.size (fun k hk => (HO.out.lt k hk).1))
      clear hgr4
      go_wp2_with fail
      go_ret2
      exact ⟨_, rfl, by rw [HLEN.out]; exact hown4, hq4⟩
end Go.Proofs.Ytfiopjgpokdnoaa
