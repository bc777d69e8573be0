/- The walks of the reference's Merge, of both Searches, and of the law PackMerges. Conditions: the slices read as lists. -/
import Derived.Test.YtfiopjgpokdnoaaPackMb
namespace Go.Proofs.Ytfiopjgpokdnoaa
open Go.RowKit PO
set_option linter.unusedVariables false
set_option maxHeartbeats 2000000 in
theorem rMerge_any (A1 : Option Addr) (n1 c1 : Nat) (xs : List Int) (A2 : Option Addr) (n2 c2 : Nat) (ys : List Int) (w : World) (h1 : Sl 1 (encI .i64) w A1 n1 c1 xs) (h2 : Sl 1 (encI .i64) w A2 n2 c2 ys) (hm1 : n1 ≤ 1500) (hm2 : n2 ≤ 1500) :
    Calls Try.prog 38 #[.slice A1 n1 c1, .slice A2 n2 c2] w (TPost 3 (encI .i64) w (mergeF xs ys).1 (mergeF xs ys).2) := by
  have l1 := h1.len
  have l2 := h2.len
  by_cases hb1 : 1000 < n1
  · have e : mergeF xs ys = (3, []) := by unfold mergeF; rw [if_pos (.inl (by omega))]
    rw [e]
    have d1 : decide (1000 < (n1 : Int)) = true := by simp; omega
    clear h1 h2 l1 l2 e
    go_enter Try.func38, Try.ntmps38
    go_wp2_with fail
    go_ret2
    exact ⟨_, rfl, World.ownsRow_nil _ _ _ _, Q.refl _⟩
  have d1 : decide (1000 < (n1 : Int)) = false := by simp; omega
  by_cases hb2 : 1000 < n2
  · have e : mergeF xs ys = (3, []) := by unfold mergeF; rw [if_pos (.inr (by omega))]
    rw [e]
    have d2 : decide (1000 < (n2 : Int)) = true := by simp; omega
    clear h1 h2 l1 l2 e
    go_enter Try.func38, Try.ntmps38
    go_wp2_with fail
    go_ret2
    exact ⟨_, rfl, World.ownsRow_nil _ _ _ _, Q.refl _⟩
  have d2 : decide (1000 < (n2 : Int)) = false := by simp; omega
  have c1' := rises_any A1 n1 c1 xs w h1 (by omega)
  have H1 := hide h1
  have H2 := hide h2
  cases hs1 : adjB xs
  · have e : mergeF xs ys = (7, []) := by unfold mergeF; rw [if_neg (by omega), if_neg (by simp [hs1])]
    rw [e]
    rw [hs1] at c1'
    have C1 := hide c1'
    clear h1 h2 l1 l2 e hs1 c1'
    go_enter Try.func38, Try.ntmps38
    go_wp2_with fail
    refine C1.out.mono ?_
    rintro e w1 ⟨rfl, hq1⟩
    go_wp2_with fail
    go_ret2
    exact ⟨_, rfl, World.ownsRow_nil _ _ _ _, hq1⟩
  · rw [hs1] at c1'
    have C1 := hide c1'
    have c2' := fun W h => rises_any A2 n2 c2 ys W h (by omega)
    cases hs2 : adjB ys
    · have e : mergeF xs ys = (7, []) := by unfold mergeF; rw [if_neg (by omega), if_neg (by simp [hs2])]
      rw [e]
      rw [hs2] at c2'
      have C2 := hide c2'
      clear h1 h2 l1 l2 e hs1 hs2 c1' c2'
      go_enter Try.func38, Try.ntmps38
      go_wp2_with fail
      refine C1.out.mono ?_
      rintro e w1 ⟨rfl, hq1⟩
      go_wp2_with fail
      refine (C2.out _ (H2.out.up hq1)).mono ?_
      rintro e w2 ⟨rfl, hq2⟩
      go_wp2_with fail
      go_ret2
      exact ⟨_, rfl, World.ownsRow_nil _ _ _ _, hq1.trans hq2⟩
    · have e : mergeF xs ys = (0, (mrg ltI (xs.length + ys.length) xs ys).1) := by unfold mergeF; rw [if_neg (by omega), if_pos ⟨hs1, hs2⟩]
      rw [e, l1, l2]
      rw [hs2] at c2'
      have C2 := hide c2'
      have hlen : (mrg ltI (n1 + n2) xs ys).1.length = n1 + n2 := by rw [(mrg_perm ltI (n1 + n2) xs ys (by omega)).length_eq, List.length_append, l1, l2]
      have HLEN := hide hlen
      have L1 := hide l1
      have L2 := hide l2
      have hn1i : (n1 : Int) ≤ 1000 := by omega
      have hn2i : (n2 : Int) ≤ 1000 := by omega
      obtain ⟨M, hM⟩ : ∃ M, (mrg ltI (n1 + n2) xs ys).1 = M := ⟨_, rfl⟩
      rw [hM]
      have HM := hide hM
      clear h1 h2 l1 l2 e hs1 hs2 c1' c2' hlen hM
      go_enter Try.func38, Try.ntmps38
      go_wp2_with fail
      refine C1.out.mono ?_
      rintro e w1 ⟨rfl, hq1⟩
      go_wp2_with fail
      refine (C2.out _ (H2.out.up hq1)).mono ?_
      rintro e w2 ⟨rfl, hq2⟩
      have hq02 := hq1.trans hq2
      clear hq1 hq2
      go_wp2_with fail
      go_loopw [6, 7, 8] (fun v vi vk wr => ∃ (i k : Nat) (pre : List Int), i ≤ n1 ∧ k ≤ n2 ∧ vi = .int .i64 i ∧ vk = .int .i64 k ∧ pre.length = i + k ∧ pre ++ (mrg ltI (n1 + n2 - (i + k)) (xs.drop i) (ys.drop k)).1 = M ∧ wr.ownsRow w.heap.size 3 1 v (i + k) (pre.flatMap (encI .i64)) ∧ Q w wr) (fun _ vi vk _ => n1 + n2 - (intOf vi).toNat - (intOf vk).toNat)
      case atStart => exact ⟨0, 0, [], by omega, by omega, by go_num, by go_num, rfl, HM.out, World.ownsRow_nil _ _ _ _, hq02⟩
      case round =>
        obtain ⟨i, k, pre, hi, hk, rfl, rfl, hp, hm, hown, hq⟩ := hrel
        have hsz := hq.size
        have HP := hide hp
        have HMM := hide hm
        have hii : (i : Int) ≤ (n1 : Int) := by omega
        have hkk : (k : Int) ≤ (n2 : Int) := by omega
        have s1 := H1.out.up hq
        have s2 := H2.out.up hq
        have HQ := hide hq
        clear hp hm hq
        by_cases hi1 : i < n1
        · have a1 : decide ((i : Int) < (n1 : Int)) = true := by simp; omega
          have a2 : (i : Int) < (n1 : Int) := by omega
          obtain ⟨b1, o1, x, rfl, hb1, g1, k1⟩ := s1.get1 encI_one i hi1
          have hdx : xs.drop i = x :: xs.drop (i + 1) := by
            rw [List.drop_eq_getElem_cons (List.getElem?_eq_some_iff.1 g1).1, (List.getElem?_eq_some_iff.1 g1).2]
          have HDX := hide hdx
          by_cases hk1 : k < n2
          · have b1' : decide ((k : Int) < (n2 : Int)) = true := by simp; omega
            have b2' : (k : Int) < (n2 : Int) := by omega
            have b3' : ((k : Int) == (n2 : Int)) = false := by simp; omega
            obtain ⟨b2, o2, y, rfl, hb2, g2, k2⟩ := s2.get1 encI_one k hk1
            have hdy : ys.drop k = y :: ys.drop (k + 1) := by
              rw [List.drop_eq_getElem_cons (List.getElem?_eq_some_iff.1 g2).1, (List.getElem?_eq_some_iff.1 g2).2]
            have HDY := hide hdy
            by_cases hxy : x ≤ y
            · have dxy : decide (x ≤ y) = true := by simpa using hxy
              have hm2 : (pre ++ [x]) ++ (mrg ltI (n1 + n2 - (i + 1 + k)) (xs.drop (i + 1)) (ys.drop k)).1 = M := by
                have := HMM.out
                rw [HDX.out, HDY.out, show n1 + n2 - (i + k) = (n1 + n2 - (i + 1 + k)) + 1 by omega, mrg, if_neg (by simp [ltI]; omega)] at this
                rw [HDY.out]
                simpa using this
              have HM2 := hide hm2
              clear s1 s2 g1 g2 hdx hdy hxy hm2
              go_wp2_with fail
              have hxc := ext_cell
              refine wp_region_ext (by kernel_rfl) (by kernel_rfl) ?_
              repeat (go_big_quiet_step ((fail)))
              clear hxc
              refine wpQuiet_nil ?_
              intro wz hwwz
              have hqwz := q_of_ext hwwz
              clear hwwz
              obtain ⟨hcwz, hfwz, hzwz⟩ := hqwz.facts
              try simp at hzwz
              try have hs0wz : w.heap.size < wz.heap.size := by omega
              try have hs1wz : w.heap.size + 1 < wz.heap.size := by omega
              have z1 := (hcwz _ _ hb1).trans k1
              have hbz : b1 < wz.heap.size := by have := hqwz.size; omega
              have hownz := own_q hown hqwz
              have hwz2 : w.heap.size ≤ wz.heap.size := by have := hqwz.size; omega
              clear hcwz hfwz k1 k2 hown
              go_wp2_with (at_builtin; refine wpList_app1 rfl El_int _ _ rfl rfl hownz (by simp) rfl rfl ?_ ?_ ?_ ?_; (focus (simp [Value.oneCell'])); (focus omega); (focus omega); intro v1 w4 hown4 hb4)
              go_roundw
              case rel => exact ⟨i + 1, k, pre ++ [x], by omega, by omega, by go_num, rfl, by have := HP.out; simp; omega, HM2.out, by rw [List.flatMap_append, show i + 1 + k = i + k + 1 by omega]; exact hown4, (HQ.out.trans hqwz).below.trans hb4⟩
              case measure => simp [intOf] <;> omega
            · have dxy : decide (x ≤ y) = false := by simpa using hxy
              have hm2 : (pre ++ [y]) ++ (mrg ltI (n1 + n2 - (i + (k + 1))) (xs.drop i) (ys.drop (k + 1))).1 = M := by
                have := HMM.out
                rw [HDX.out, HDY.out, show n1 + n2 - (i + k) = (n1 + n2 - (i + (k + 1))) + 1 by omega, mrg, if_pos (by simp [ltI]; omega)] at this
                rw [HDX.out]
                simpa using this
              have HM2 := hide hm2
              clear s1 s2 g1 g2 hdx hdy hxy hm2
              go_wp2_with fail
              have hxc := ext_cell
              refine wp_region_ext (by kernel_rfl) (by kernel_rfl) ?_
              repeat (go_big_quiet_step ((fail)))
              clear hxc
              refine wpQuiet_nil ?_
              intro wz hwwz
              have hqwz := q_of_ext hwwz
              clear hwwz
              obtain ⟨hcwz, hfwz, hzwz⟩ := hqwz.facts
              try simp at hzwz
              try have hs0wz : w.heap.size < wz.heap.size := by omega
              try have hs1wz : w.heap.size + 1 < wz.heap.size := by omega
              have z1 := (hcwz _ _ hb2).trans k2
              have hbz : b2 < wz.heap.size := by have := hqwz.size; omega
              have hownz := own_q hown hqwz
              have hwz2 : w.heap.size ≤ wz.heap.size := by have := hqwz.size; omega
              clear hcwz hfwz k1 k2 hown
              go_wp2_with (at_builtin; refine wpList_app1 rfl El_int _ _ rfl rfl hownz (by simp) rfl rfl ?_ ?_ ?_ ?_; (focus (simp [Value.oneCell'])); (focus omega); (focus omega); intro v1 w4 hown4 hb4)
              go_roundw
              case rel => exact ⟨i, k + 1, pre ++ [y], by omega, by omega, rfl, by go_num, by have := HP.out; simp; omega, HM2.out, by rw [List.flatMap_append, show i + (k + 1) = i + k + 1 by omega]; exact hown4, (HQ.out.trans hqwz).below.trans hb4⟩
              case measure => simp [intOf] <;> omega
          · obtain rfl : k = n2 := by omega
            have b3' : ((k : Int) == (k : Int)) = true := by simp
            have hdy : ys.drop k = [] := List.drop_eq_nil_of_le (by have := L2.out; omega)
            have hm2 : (pre ++ [x]) ++ (mrg ltI (n1 + k - (i + 1 + k)) (xs.drop (i + 1)) (ys.drop k)).1 = M := by
              have := HMM.out
              rw [HDX.out, hdy, show n1 + k - (i + k) = (n1 + k - (i + 1 + k)) + 1 by omega, mrg] at this
              rw [hdy]
              simpa using this
            have HM2 := hide hm2
            clear s1 s2 g1 hdx hdy hm2
            go_wp2_with fail
            have hxc := ext_cell
            refine wp_region_ext (by kernel_rfl) (by kernel_rfl) ?_
            repeat (go_big_quiet_step ((fail)))
            clear hxc
            refine wpQuiet_nil ?_
            intro wz hwwz
            have hqwz := q_of_ext hwwz
            clear hwwz
            obtain ⟨hcwz, hfwz, hzwz⟩ := hqwz.facts
            try simp at hzwz
            try have hs0wz : w.heap.size < wz.heap.size := by omega
            try have hs1wz : w.heap.size + 1 < wz.heap.size := by omega
            have z1 := (hcwz _ _ hb1).trans k1
            have hbz : b1 < wz.heap.size := by have := hqwz.size; omega
            have hownz := own_q hown hqwz
            have hwz2 : w.heap.size ≤ wz.heap.size := by have := hqwz.size; omega
            clear hcwz hfwz k1 hown
            go_wp2_with (at_builtin; refine wpList_app1 rfl El_int _ _ rfl rfl hownz (by simp) rfl rfl ?_ ?_ ?_ ?_; (focus (simp [Value.oneCell'])); (focus omega); (focus omega); intro v1 w4 hown4 hb4)
            go_roundw
            case rel => exact ⟨i + 1, k, pre ++ [x], by omega, by omega, by go_num, rfl, by have := HP.out; simp; omega, HM2.out, by rw [List.flatMap_append, show i + 1 + k = i + k + 1 by omega]; exact hown4, (HQ.out.trans hqwz).below.trans hb4⟩
            case measure => simp [intOf] <;> omega
        · obtain rfl : i = n1 := by omega
          have a1 : decide ((i : Int) < (i : Int)) = false := by simp
          have hdx : xs.drop i = [] := List.drop_eq_nil_of_le (by have := L1.out; omega)
          by_cases hk1 : k < n2
          · have b1' : decide ((k : Int) < (n2 : Int)) = true := by simp; omega
            have b2' : (k : Int) < (n2 : Int) := by omega
            have b3' : ((k : Int) == (n2 : Int)) = false := by simp; omega
            obtain ⟨b2, o2, y, rfl, hb2, g2, k2⟩ := s2.get1 encI_one k hk1
            have hdy : ys.drop k = y :: ys.drop (k + 1) := by
              rw [List.drop_eq_getElem_cons (List.getElem?_eq_some_iff.1 g2).1, (List.getElem?_eq_some_iff.1 g2).2]
            have hm2 : (pre ++ [y]) ++ (mrg ltI (i + n2 - (i + (k + 1))) (xs.drop i) (ys.drop (k + 1))).1 = M := by
              have := HMM.out
              rw [hdx, hdy, show i + n2 - (i + k) = (i + n2 - (i + (k + 1))) + 1 by omega, mrg] at this
              rw [hdx]
              simpa using this
            have HM2 := hide hm2
            clear s1 s2 g2 hdx hdy hm2
            go_wp2_with fail
            have hxc := ext_cell
            refine wp_region_ext (by kernel_rfl) (by kernel_rfl) ?_
            repeat (go_big_quiet_step ((fail)))
            clear hxc
            refine wpQuiet_nil ?_
            intro wz hwwz
            have hqwz := q_of_ext hwwz
            clear hwwz
            obtain ⟨hcwz, hfwz, hzwz⟩ := hqwz.facts
            try simp at hzwz
            try have hs0wz : w.heap.size < wz.heap.size := by omega
            try have hs1wz : w.heap.size + 1 < wz.heap.size := by omega
            have z1 := (hcwz _ _ hb2).trans k2
            have hbz : b2 < wz.heap.size := by have := hqwz.size; omega
            have hownz := own_q hown hqwz
            have hwz2 : w.heap.size ≤ wz.heap.size := by have := hqwz.size; omega
            clear hcwz hfwz k2 hown
            go_wp2_with (at_builtin; refine wpList_app1 rfl El_int _ _ rfl rfl hownz (by simp) rfl rfl ?_ ?_ ?_ ?_; (focus (simp [Value.oneCell'])); (focus omega); (focus omega); intro v1 w4 hown4 hb4)
            go_roundw
            case rel => exact ⟨i, k + 1, pre ++ [y], by omega, by omega, rfl, by go_num, by have := HP.out; simp; omega, HM2.out, by rw [List.flatMap_append, show i + (k + 1) = i + k + 1 by omega]; exact hown4, (HQ.out.trans hqwz).below.trans hb4⟩
            case measure => simp [intOf] <;> omega
          · obtain rfl : k = n2 := by omega
            have b1' : decide ((k : Int) < (k : Int)) = false := by simp
            have hm2 : pre = M := by
              have := HMM.out
              rw [show i + k - (i + k) = 0 by omega] at this
              simpa [mrg] using this
            have HM2 := hide hm2
            have HO := hide hown
            clear s1 s2 hdx hm2 hown
            go_wp2_with fail
            go_ret2
            exact ⟨_, rfl, by rw [← HM2.out, HP.out]; exact HO.out, HQ.out⟩
/-- what Search comes to: the place, whether it is there, the error -/
def searchF (ls : List Int) (t : Int) : Nat × Bool × Nat :=
  if 1000 < ls.length then (0, false, 3) else if adjB ls = true then (ls.countP (· < t), ls.contains t, 0) else (0, false, 7)
theorem searchF_le (ls : List Int) (t : Int) : (searchF ls t).1 ≤ 1000 := by
  unfold searchF
  split
  · simp
  · split
    · have := List.countP_le_length (p := (· < t)) (l := ls); simp only; omega
    · simp
theorem Search_any (A : Option Addr) (n c : Nat) (ls : List Int) (t : Int) (w : World) (h : Sl 1 (encI .i64) w A n c ls) (hm : n ≤ 1500) :
    Calls Try.prog 39 #[.slice A n c, .int .i64 t] w fun e w' => e = .returned (.tuple #[.int .i64 ((searchF ls t).1 : Nat), .bool (searchF ls t).2.1, .int .i64 ((searchF ls t).2.2 : Nat)]) ∧ Q w w' := by
  have l1 := h.len
  by_cases hb : 1000 < n
  · have e : searchF ls t = (0, false, 3) := by unfold searchF; rw [if_pos (by omega)]
    rw [e]
    have d1 : decide (1000 < (n : Int)) = true := by simp; omega
    clear h l1 e
    go_enter Try.func39, Try.ntmps39
    go_wp2_with fail
    go_ret3
    exact ⟨rfl, Q.refl _⟩
  have d1 : decide (1000 < (n : Int)) = false := by simp; omega
  have c1 := isSorted_any A n c ls w h (by omega)
  cases hs : adjB ls
  · have e : searchF ls t = (0, false, 7) := by unfold searchF; rw [if_neg (by omega), if_neg (by simp [hs])]
    rw [e]
    rw [hs] at c1
    have C1 := hide c1
    clear h l1 e hs c1
    go_enter Try.func39, Try.ntmps39
    go_wp2_with fail
    refine C1.out.mono ?_
    rintro e w1 ⟨rfl, hq1⟩
    go_wp2_with fail
    go_ret3
    exact ⟨rfl, hq1⟩
  · have e : searchF ls t = (ls.countP (· < t), ls.contains t, 0) := by unfold searchF; rw [if_neg (by omega), if_pos hs]
    rw [e]
    rw [hs] at c1
    have hp := adjB_pair hs
    have C1 := hide c1
    have C2 : ∀ W, Q w W → Calls Try.prog 63 #[.slice A n c, .int .i64 t] W fun e w' => e = .returned (.tuple #[.int .i64 (ls.countP (· < t) : Nat), .bool (ls.contains t)]) ∧ Q W w' := fun W hq => by
      rcases Nat.eq_zero_or_pos n with h0 | h0
      · subst h0
        have hx : ls = [] := List.eq_nil_of_length_eq_zero l1
        subst hx
        exact (Try.slices_BinarySearch_int_empty A c t W).mono fun e w' ⟨h1, h2⟩ => ⟨h1, h2 ▸ Q.refl _⟩
      · obtain ⟨b, o, x, rfl, hb1, g1, k1⟩ := (h.up hq).get1 encI_one 0 h0
        have hcell : ∀ j, j < ls.length → W.cell? ⟨b, o + j, none⟩ = some (.int .i64 (ls.getD j 0)) := fun j hj => by
          obtain ⟨b', o', y, e2, _, g2, k2⟩ := (h.up hq).get1 encI_one j (by omega)
          cases e2
          rw [k2]
          simp [List.getD, g2]
        have := Try.slices_BinarySearch_int b o n c ls t W (by omega) (by omega) hcell (by rw [List.take_of_length_le (by omega)]; exact hp)
        rw [List.take_of_length_le (by omega)] at this
        exact this.mono fun e w' ⟨h1, q, h2⟩ => ⟨h1, h2 ▸ (Q.refl W).drewN q⟩
    obtain ⟨cn, hcn⟩ : ∃ cn, ls.countP (· < t) = cn := ⟨_, rfl⟩
    obtain ⟨cb, hcb⟩ : ∃ cb, ls.contains t = cb := ⟨_, rfl⟩
    simp only [hcn, hcb] at C2 ⊢
    have C2 := hide C2
    clear h l1 e hs c1 hp hcn hcb
    go_enter Try.func39, Try.ntmps39
    go_wp2_with fail
    refine C1.out.mono ?_
    rintro e w1 ⟨rfl, hq1⟩
    go_wp2_with fail
    refine (C2.out _ hq1).mono ?_
    rintro e w2 ⟨rfl, hq2⟩
    go_wp2_with fail
    go_ret3
    exact ⟨rfl, hq1.trans hq2⟩
theorem count_at {ls : List Int} (hp : ls.Pairwise (· ≤ ·)) (t : Int) (k : Nat) (hk : k ≤ ls.length) (hlt : ∀ j, j < k → ls.getD j 0 < t) (hge : ∀ x, ls[k]? = some x → t ≤ x) :
    ls.countP (· < t) = k ∧ ls.contains t = (match ls[k]? with | some x => x == t | none => false) := by
  have e : ls = ls.take k ++ ls.drop k := (List.take_append_drop k ls).symm
  have h1 : ∀ x ∈ ls.take k, x < t := fun x hx => by
    obtain ⟨j, hj, rfl⟩ := List.getElem_of_mem hx
    rw [List.length_take] at hj
    have := hlt j (by omega)
    simpa [List.getD, List.getElem?_eq_getElem (show j < ls.length by omega)] using this
  have h2 : ∀ x ∈ ls.drop k, t ≤ x := fun x hx => by
    by_cases hkl : k < ls.length
    · have h3 := hge ls[k] (List.getElem?_eq_getElem hkl)
      rw [List.drop_eq_getElem_cons hkl] at hx
      rcases List.mem_cons.1 hx with rfl | hx
      · exact h3
      · have hp2 := hp
        rw [e, List.pairwise_append] at hp2
        have hp3 := hp2.2.1
        rw [List.drop_eq_getElem_cons hkl, List.pairwise_cons] at hp3
        exact Int.le_trans h3 (hp3.1 x hx)
    · rw [List.drop_eq_nil_of_le (by omega)] at hx; simp at hx
  constructor
  · conv => lhs; rw [e]
    rw [List.countP_append]
    have c1 : (ls.take k).countP (· < t) = (ls.take k).length := List.countP_eq_length.2 (fun x hx => by simpa using h1 x hx)
    have c2 : (ls.drop k).countP (· < t) = 0 := List.countP_eq_zero.2 (fun x hx => by have := h2 x hx; simp; omega)
    rw [c1, c2, List.length_take]
    omega
  · cases hk2 : ls[k]? with
    | none =>
      rw [List.contains_eq_mem]
      simp only [decide_eq_false_iff_not]
      intro hm
      rw [e, List.mem_append] at hm
      rcases hm with hm | hm
      · have := h1 t hm; omega
      · rw [List.drop_eq_nil_of_le (by simpa using hk2)] at hm; simp at hm
    | some x =>
      have hx := hge x hk2
      obtain ⟨hkl, ex⟩ := List.getElem?_eq_some_iff.1 hk2
      simp only
      rw [Bool.eq_iff_iff, List.contains_eq_mem, decide_eq_true_iff, beq_iff_eq]
      constructor
      · intro hm
        rw [e, List.mem_append] at hm
        rcases hm with hm | hm
        · have := h1 t hm; omega
        · rw [List.drop_eq_getElem_cons hkl] at hm
          rcases List.mem_cons.1 hm with hm | hm
          · rw [← ex]; exact hm.symm
          · have hp2 := hp
            rw [e, List.pairwise_append] at hp2
            have hp3 := hp2.2.1
            rw [List.drop_eq_getElem_cons hkl, List.pairwise_cons] at hp3
            have := hp3.1 t hm
            omega
      · intro hxt
        rw [← hxt, ← ex]
        exact List.getElem_mem hkl
set_option maxHeartbeats 1000000 in
theorem rSearch_any (A : Option Addr) (n c : Nat) (ls : List Int) (t : Int) (w : World) (h : Sl 1 (encI .i64) w A n c ls) (hm : n ≤ 1500) :
    Calls Try.prog 40 #[.slice A n c, .int .i64 t] w fun e w' => e = .returned (.tuple #[.int .i64 ((searchF ls t).1 : Nat), .bool (searchF ls t).2.1, .int .i64 ((searchF ls t).2.2 : Nat)]) ∧ Q w w' := by
  have l1 := h.len
  by_cases hb : 1000 < n
  · have e : searchF ls t = (0, false, 3) := by unfold searchF; rw [if_pos (by omega)]
    rw [e]
    clear h l1 e
    go_enter Try.func40, Try.ntmps40
    go_wp2_with fail
    refine (listed_big _ _ (by omega)).mono ?_
    rintro e w0 ⟨rfl, rfl⟩
    go_wp2_with fail
    go_ret3
    exact ⟨rfl, Q.refl _⟩
  have c1 := rises_any A n c ls w h (by omega)
  cases hs : adjB ls
  · have e : searchF ls t = (0, false, 7) := by unfold searchF; rw [if_neg (by omega), if_neg (by simp [hs])]
    rw [e]
    rw [hs] at c1
    have C1 := hide c1
    clear h l1 e hs c1
    go_enter Try.func40, Try.ntmps40
    go_wp2_with fail
    refine (listed_ok _ _ (by omega)).mono ?_
    rintro e w0 ⟨rfl, rfl⟩
    go_wp2_with fail
    refine C1.out.mono ?_
    rintro e w1 ⟨rfl, hq1⟩
    go_wp2_with fail
    go_ret3
    exact ⟨rfl, hq1⟩
  · have e : searchF ls t = (ls.countP (· < t), ls.contains t, 0) := by unfold searchF; rw [if_neg (by omega), if_pos hs]
    rw [e]
    rw [hs] at c1
    have hp := adjB_pair hs
    have C1 := hide c1
    have H := hide h
    have HL := hide l1
    have HP := hide hp
    have hni : (n : Int) ≤ 1000 := by omega
    clear h l1 e hs c1 hp
    go_enter Try.func40, Try.ntmps40
    go_wp2_with fail
    refine (listed_ok _ _ (by omega)).mono ?_
    rintro e w0 ⟨rfl, rfl⟩
    go_wp2_with fail
    refine C1.out.mono ?_
    rintro e w1 ⟨rfl, hq1⟩
    go_wp2_with fail
    go_loopw [8] (fun vi wr => ∃ i : Nat, i ≤ n ∧ vi = .int .i64 i ∧ (∀ j, j < i → ls.getD j 0 < t) ∧ Q w wr) (fun vi _ => n - (intOf vi).toNat)
    case atStart => exact ⟨0, by omega, by go_num, fun j hj => by omega, hq1⟩
    case round =>
      obtain ⟨i, hi, rfl, hall, hq⟩ := hrel
      have HALL := hide hall
      clear hall
      have hsz := hq.size
      by_cases hlt : i < n
      · have hd1 : decide ((i : Int) < (n : Int)) = true := by simp; omega
        have hlti : (i : Int) < (n : Int) := by omega
        obtain ⟨b1, o1, x, rfl, hb1, g1, k1⟩ := (H.out.up hq).get1 encI_one i hlt
        by_cases hx : x < t
        · have dx : decide (x < t) = true := by simpa using hx
          have HX := hide (show ls.getD i 0 < t by simp [List.getD, g1]; exact hx)
          clear g1 hx
          go_wp2_with fail
          go_roundw
          case rel => exact ⟨i + 1, by omega, by go_num, fun j hj => by
            by_cases e : j = i
            · subst e; exact HX.out
            · exact HALL.out j (by omega), hq⟩
          case measure => simp [intOf] <;> omega
        · have dx : decide (x < t) = false := by simpa using hx
          have hc := count_at HP.out t i (by have := HL.out; omega) HALL.out (fun y hy => by rw [g1] at hy; cases hy; omega)
          rw [g1] at hc
          dsimp only at hc
          obtain ⟨be, hbe⟩ : ∃ be, (x == t) = be := ⟨_, rfl⟩
          rw [hbe] at hc
          have HCC := hide hc
          have hbz : b1 < wr.heap.size := hb1
          clear g1 hx hc
          cases be
          all_goals (
            go_wp2_with fail
            have hxc := ext_cell
            refine wp_region_ext (by kernel_rfl) (by kernel_rfl) ?_
            repeat (go_big_quiet_step ((fail)))
            clear hxc
            refine wpQuiet_nil ?_
            intro wz hwwz
            have hqwz := q_of_ext hwwz
            clear hwwz
            obtain ⟨hcwz, hfwz, hzwz⟩ := hqwz.facts
            try simp at hzwz
            try have hs0wz : w.heap.size < wz.heap.size := by omega
            try have hs1wz : w.heap.size + 1 < wz.heap.size := by omega
            clear hcwz hfwz k1
            go_wp2_with fail
            go_ret3
            refine ⟨?_, hq.trans hqwz⟩
            rw [HCC.out.1, HCC.out.2]
            rfl)
      · have hd1 : decide ((i : Int) < (n : Int)) = false := by simp; omega
        have hno : ls[i]? = none := by rw [List.getElem?_eq_none_iff]; have := HL.out; omega
        have hc := count_at HP.out t i (by have := HL.out; omega) HALL.out (fun y hy => by rw [hno] at hy; cases hy)
        rw [hno] at hc
        dsimp only at hc
        have HCC := hide hc
        clear hno hc
        go_wp2_with fail
        have hxc := ext_cell
        refine wp_region_ext (by kernel_rfl) (by kernel_rfl) ?_
        repeat (go_big_quiet_step ((fail)))
        clear hxc
        refine wpQuiet_nil ?_
        intro wz hwwz
        have hqwz := q_of_ext hwwz
        clear hwwz
        obtain ⟨hcwz, hfwz, hzwz⟩ := hqwz.facts
        try simp at hzwz
        try have hs0wz : w.heap.size < wz.heap.size := by omega
        try have hs1wz : w.heap.size + 1 < wz.heap.size := by omega
        clear hcwz hfwz
        go_wp2_with fail
        go_ret3
        refine ⟨?_, hq.trans hqwz⟩
        rw [HCC.out.1, HCC.out.2]
        rfl
set_option maxHeartbeats 2000000 in
theorem PackMerges_true (A1 : Option Addr) (n1 c1 : Nat) (xs : List Int) (A2 : Option Addr) (n2 c2 : Nat) (ys : List Int) (t : Int) (w : World) (h1 : Sl 1 (encI .i64) w A1 n1 c1 xs) (h2 : Sl 1 (encI .i64) w A2 n2 c2 ys) (hN1 : A1 = none → n1 = 0 ∧ c1 = 0) (hN2 : A2 = none → n2 = 0 ∧ c2 = 0) :
    Calls Try.prog 10 #[.slice A1 n1 c1, .slice A2 n2 c2, .int .i64 t] w fun e w' => e = .returned (.bool true) ∧ Q w w' := by
  by_cases hb1 : 1500 < n1
  · have d1 : decide (1500 < (n1 : Int)) = true := by simp; omega
    clear h1 h2
    go_enter Try.func10, Try.ntmps10
    go_wp2_with fail
    refine (known_any _).mono ?_
    rintro e w1 ⟨rfl, hq⟩
    go_wp2_with fail
    go_ret
    exact ⟨rfl, hq⟩
  have d1 : decide (1500 < (n1 : Int)) = false := by simp; omega
  by_cases hb2 : 1500 < n2
  · have d2 : decide (1500 < (n2 : Int)) = true := by simp; omega
    clear h1 h2
    go_enter Try.func10, Try.ntmps10
    go_wp2_with fail
    refine (known_any _).mono ?_
    rintro e w1 ⟨rfl, hq⟩
    go_wp2_with fail
    go_ret
    exact ⟨rfl, hq⟩
  have d2 : decide (1500 < (n2 : Int)) = false := by simp; omega
  have p1 := fun W a b => Merge_any A1 n1 c1 xs A2 n2 c2 ys W a b hN1 hN2 (by omega) (by omega)
  have p2 := fun W a b => rMerge_any A1 n1 c1 xs A2 n2 c2 ys W a b (by omega) (by omega)
  have p3 := fun W a => Search_any A1 n1 c1 xs t W a (by omega)
  have p4 := fun W a => rSearch_any A1 n1 c1 xs t W a (by omega)
  have hml := mergeF_len xs ys
  obtain ⟨⟨er, ms⟩, hR⟩ : ∃ r, mergeF xs ys = r := ⟨_, rfl⟩
  obtain ⟨⟨at_, is, es⟩, hS⟩ : ∃ r, searchF xs t = r := ⟨_, rfl⟩
  simp only [hR] at p1 p2 hml
  simp only [hS] at p3 p4
  obtain ⟨nx, hnx⟩ : ∃ nx, ms.length = nx := ⟨_, rfl⟩
  rw [hnx] at hml
  have HX := hide hnx
  have P1 := hide p1
  have P2 := hide p2
  have P3 := hide p3
  have P4 := hide p4
  have H1 := hide h1
  have H2 := hide h2
  have e1 : ((er : Int) == (er : Int)) = true := by simp
  have e2 : ((at_ : Int) == (at_ : Int)) = true := by simp
  have e3 : (is == is) = true := by simp
  have e4 : ((es : Int) == (es : Int)) = true := by simp
  clear p1 p2 p3 p4 h1 h2 hR hS hnx
  go_enter Try.func10, Try.ntmps10
  go_wp2_with fail
  refine (P1.out _ H1.out H2.out).mono ?_
  rintro e w1 ⟨v1, rfl, ho1, hq1⟩
  go_wp2_with fail
  refine (P2.out _ (H1.out.up hq1) (H2.out.up hq1)).mono ?_
  rintro e w2 ⟨v2, rfl, ho2, hq2⟩
  have hq02 := hq1.trans hq2
  go_wp2_with fail
  refine (P3.out _ (H1.out.up hq02)).mono ?_
  rintro e w3 ⟨rfl, hq3⟩
  have hq03 := hq02.trans hq3
  go_wp2_with fail
  refine (P4.out _ (H1.out.up hq03)).mono ?_
  rintro e w4 ⟨rfl, hq4⟩
  have hq04 := hq03.trans hq4
  obtain ⟨A1', c1', rfl, _⟩ := own_form ho1
  obtain ⟨A2', c2', rfl, _⟩ := own_form ho2
  have S1 := (Sl.own ho1 (fun _ => rfl) (by decide)).up ((hq2.trans hq3).trans hq4)
  have S2 := (Sl.own ho2 (fun _ => rfl) (by decide)).up (hq3.trans hq4)
  rw [HX.out] at S1 S2 ⊢
  have S1 := hide S1
  have S2 := hide S2
  clear ho1 ho2 hq1 hq2 hq3 hq4 hq02 hq03
  go_wp2_with fail
  refine (numbers_same _ _ _ _ _ ms _ S1.out S2.out (by omega)).mono ?_
  rintro e w5 ⟨rfl, hq5⟩
  go_wp2_with fail
  refine (known_any _).mono ?_
  rintro e w6 ⟨rfl, hq6⟩
  go_wp2_with fail
  go_ret
  exact ⟨rfl, (hq04.trans hq5).trans hq6⟩
end Go.Proofs.Ytfiopjgpokdnoaa
