/- The walk of the law PackOrders. Conditions: the slices read as lists. -/
import Derived.Test.YtfiopjgpokdnoaaPackOj
import Derived.Test.YtfiopjgpokdnoaaPackK
namespace Go.Proofs.Ytfiopjgpokdnoaa
open Go.RowKit PO
set_option linter.unusedVariables false
theorem Sl.get1 {α : Type} {enc : α → List Value} {el : α → Value} (he : ∀ x, enc x = [el x]) {w : World} {A : Option Addr} {n c : Nat} {xs : List α} (h : Sl 1 enc w A n c xs) (i : Nat) (hi : i < n) :
    ∃ b o x, A = some ⟨b, o, none⟩ ∧ b < w.heap.size ∧ xs[i]? = some x ∧ w.cell? ⟨b, o + i, none⟩ = some (el x) := by
  obtain ⟨b, o, x, e, hb, hx, hc⟩ := h.at_ (fun x => by rw [he]; rfl) (by decide) i hi
  exact ⟨b, o, x, e, hb, hx, by have := hc 0 (el x) (by rw [he]; rfl); simpa using this⟩
theorem numbers_same (A1 : Option Addr) (n c1 : Nat) (A2 : Option Addr) (c2 : Nat) (xs : List Int) (w : World) (h1 : Sl 1 (encI .i64) w A1 n c1 xs) (h2 : Sl 1 (encI .i64) w A2 n c2 xs) (hn : n ≤ 100000) :
    Calls Try.prog 32 #[.slice A1 n c1, .slice A2 n c2] w fun e w' => e = .returned (.bool true) ∧ Q w w' := by
  have d : ((n : Int) != (n : Int)) = false := by simp
  have H1 := hide h1
  have H2 := hide h2
  have hni : (n : Int) ≤ 100000 := by omega
  clear h1 h2
  go_enter Try.func32, Try.ntmps32
  go_wp2_with fail
  go_loopw [5] (fun vi wr => ∃ i : Nat, i ≤ n ∧ vi = .int .i64 i ∧ Q w wr) (fun vi _ => n - (intOf vi).toNat)
  case atStart => exact ⟨0, by omega, by go_num, Q.refl _⟩
  case round =>
    obtain ⟨i, hi, rfl, hq⟩ := hrel
    have hsz := hq.size
    by_cases hlt : i < n
    · have hd0 : decide (i < n) = true := by simpa using hlt
      have hd1 : decide ((i : Int) < (n : Int)) = true := by simpa using hlt
      have hlti : (i : Int) < (n : Int) := by omega
      obtain ⟨b1, o1, x, rfl, hb1, g1, k1⟩ := (H1.out.up hq).get1 encI_one i hlt
      obtain ⟨b2, o2, y, rfl, hb2, g2, k2⟩ := (H2.out.up hq).get1 encI_one i hlt
      rw [g1] at g2
      obtain rfl := Option.some.inj g2
      have f : (x != x) = false := by simp
      clear g1 g2
      go_wp2_with fail
      have hxc := ext_cell
      refine wp_region_ext (by kernel_rfl) (by kernel_rfl) ?_
      repeat (go_big_quiet_step ((fail)))
      clear hxc
      refine wpQuiet_nil ?_
      intro wz hwwz
      have hqwz := q_of_ext hwwz
      clear hwwz
      obtain ⟨hcwz, hfwz, hzwz⟩ := hqwz.facts
      try simp at hzwz
      try have hs0wz : w.heap.size < wz.heap.size := by omega
      try have hs1wz : w.heap.size + 1 < wz.heap.size := by omega
      clear hcwz hfwz k1 k2
      go_wp2_with fail
      go_roundw
      case rel => exact ⟨i + 1, by omega, by go_num, hq.trans hqwz⟩
      case measure => simp [intOf] <;> omega
    · have hd0 : decide (i < n) = false := by simpa using hlt
      have hd1 : decide ((i : Int) < (n : Int)) = false := by simpa using hlt
      go_wp2_with fail
      go_ret
      exact ⟨rfl, hq⟩
/-- do the first k places stand where they belong -/
def idTo (xs : List Int) (k : Nat) : Bool := (List.range k).all fun j => xs.getD j 0 == (j : Int)
theorem idTo_succ (xs : List Int) (k : Nat) : idTo xs (k + 1) = (idTo xs k && (xs.getD k 0 == (k : Int))) := by
  unfold idTo
  rw [List.range_succ, List.all_append]
  simp
theorem idTo_all (m : Nat) (L : List Nat) (h : L.length = m) : idTo (L.map Int.ofNat) m = decide (L = List.range m) := by
  unfold idTo
  rw [Bool.eq_iff_iff, List.all_eq_true, decide_eq_true_iff]
  constructor
  · intro hp
    refine List.ext_getElem (by simp [h]) fun i h1 h2 => ?_
    have := hp i (by simp; omega)
    simp [List.getD, List.getElem?_eq_getElem h1] at this
    simp
    omega
  · intro e j hj
    subst e
    simp at hj
    simp [List.getD, hj]
def beqB (a b : Bool) : Bool := a == b
set_option maxHeartbeats 4000000 in
theorem PackOrders_main (A : Option Addr) (n c : Nat) (ls : List Int) (A2 : Option Addr) (n2 c2 : Nat) (ss : List ByteArray) (w : World) (h : Sl 1 (encI .i64) w A n c ls) (h2 : Sl 1 encS w A2 n2 c2 ss) (hn : n ≤ 1500) (hn2 : n2 ≤ 1500)
    (er er2 : Nat) (xs : List Int) (ys : List ByteArray) (cnt : Nat) (her : er = 0 ∨ er = 3) (hx : xs.length ≤ 1500) (hy : ys.length ≤ 1500) (hid : idTo xs xs.length = decide (cnt = 0)) (hcnt : cnt ≤ 1000000)
    (p1 : ∀ w, Sl 1 (encI .i64) w A n c ls → Calls Try.prog 26 #[.slice A n c] w (TPost 3 (encI .i64) w er xs))
    (p2 : ∀ w, Sl 1 (encI .i64) w A n c ls → Calls Try.prog 27 #[.slice A n c] w (TPost 3 (encI .i64) w er xs))
    (p3 : ∀ w, Sl 1 (encI .i64) w A n c ls → Calls Try.prog 28 #[.slice A n c] w fun e w' => e = .returned (.tuple #[.int .i64 (cnt : Nat), .int .i64 (er : Nat)]) ∧ Q w w')
    (p4 : ∀ w, Sl 1 (encI .i64) w A n c ls → Calls Try.prog 29 #[.slice A n c] w fun e w' => e = .returned (.tuple #[.int .i64 (cnt : Nat), .int .i64 (er : Nat)]) ∧ Q w w')
    (p5 : ∀ w, Sl 1 encS w A2 n2 c2 ss → Calls Try.prog 30 #[.slice A2 n2 c2] w (TPost 9 encS w er2 ys))
    (p6 : ∀ w, Sl 1 encS w A2 n2 c2 ss → Calls Try.prog 31 #[.slice A2 n2 c2] w (TPost 9 encS w er2 ys)) :
    Calls Try.prog 8 #[.slice A n c, .slice A2 n2 c2] w fun e w' => e = .returned (.bool true) ∧ Q w w' := by
  have d1 : decide (1500 < (n : Int)) = false := by simp; omega
  have d2 : decide (1500 < (n2 : Int)) = false := by simp; omega
  have H1 := hide h
  have H2 := hide h2
  have P1 := hide p1
  have P2 := hide p2
  have P3 := hide p3
  have P4 := hide p4
  have P5 := hide p5
  have P6 := hide p6
  have HID := hide hid
  have e1 : ((er : Int) != (er : Int)) = false := by simp
  have e2 : ((er2 : Int) != (er2 : Int)) = false := by simp
  have e3 : ((cnt : Int) != (cnt : Int)) = false := by simp
  obtain ⟨nx, hnx⟩ : ∃ nx, xs.length = nx := ⟨_, rfl⟩
  obtain ⟨ny, hny⟩ : ∃ ny, ys.length = ny := ⟨_, rfl⟩
  have e4 : ((ny : Int) != (ny : Int)) = false := by simp
  have HX := hide hnx
  have HY := hide hny
  rw [hnx] at hx
  rw [hny] at hy
  have hxi : (nx : Int) ≤ 1500 := by omega
  have hyi : (ny : Int) ≤ 1500 := by omega
  clear h h2 p1 p2 p3 p4 p5 p6 hid hnx hny
  go_enter Try.func8, Try.ntmps8
  go_wp2_with fail
  refine (P1.out _ H1.out).mono ?_
  rintro e w1 ⟨v1, rfl, ho1, hq1⟩
  go_wp2_with fail
  refine (P2.out _ (H1.out.up hq1)).mono ?_
  rintro e w2 ⟨v2, rfl, ho2, hq2⟩
  have hq02 := hq1.trans hq2
  go_wp2_with fail
  refine (P3.out _ (H1.out.up hq02)).mono ?_
  rintro e w3 ⟨rfl, hq3⟩
  have hq03 := hq02.trans hq3
  go_wp2_with fail
  refine (P4.out _ (H1.out.up hq03)).mono ?_
  rintro e w4 ⟨rfl, hq4⟩
  have hq04 := hq03.trans hq4
  go_wp2_with fail
  refine (P5.out _ (H2.out.up hq04)).mono ?_
  rintro e w5 ⟨v5, rfl, ho5, hq5⟩
  have hq05 := hq04.trans hq5
  go_wp2_with fail
  refine (P6.out _ (H2.out.up hq05)).mono ?_
  rintro e w6 ⟨v6, rfl, ho6, hq6⟩
  have hq06 := hq05.trans hq6
  obtain ⟨A1, c1, rfl, _⟩ := own_form ho1
  obtain ⟨A2', c2', rfl, _⟩ := own_form ho2
  obtain ⟨A5, c5, rfl, _⟩ := own_form ho5
  obtain ⟨A6, c6, rfl, _⟩ := own_form ho6
  have S1 := (Sl.own ho1 (fun _ => rfl) (by decide)).up (((hq2.trans hq3).trans hq4).trans (hq5.trans hq6))
  have S2 := (Sl.own ho2 (fun _ => rfl) (by decide)).up ((hq3.trans hq4).trans (hq5.trans hq6))
  have S5 := (Sl.own ho5 (fun _ => rfl) (by decide)).up hq6
  have S6 := Sl.own ho6 (fun _ => rfl) (by decide)
  rw [HX.out] at S1 S2 ⊢
  rw [HY.out] at S5 S6 ⊢
  have S1 := hide S1
  have S2 := hide S2
  have S5 := hide S5
  have S6 := hide S6
  clear ho1 ho2 ho5 ho6 hq1 hq2 hq3 hq4 hq5 hq6 hq02 hq03 hq04 hq05
  go_wp2_with fail
  refine (numbers_same _ _ _ _ _ xs _ S1.out S2.out (by omega)).mono ?_
  rintro e w7 ⟨rfl, hq7⟩
  have hq07 := hq06.trans hq7
  have S1 := hide (S1.out.up hq7)
  have S5 := hide (S5.out.up hq7)
  have S6 := hide (S6.out.up hq7)
  clear hq7 hq06
  go_wp2_with fail
  go_loopw [17] (fun vi wr => ∃ i : Nat, i ≤ ny ∧ vi = .int .i64 i ∧ Q w7 wr) (fun vi _ => ny - (intOf vi).toNat)
  case atStart => exact ⟨0, by omega, by go_num, Q.refl _⟩
  case round =>
    obtain ⟨i, hi, rfl, hq⟩ := hrel
    have hsz := hq.size
    by_cases hlt : i < ny
    · have hd0 : decide (i < ny) = true := by simpa using hlt
      have hd1 : decide ((i : Int) < (ny : Int)) = true := by simpa using hlt
      have hlti : (i : Int) < (ny : Int) := by omega
      obtain ⟨b1, o1, x, rfl, hb1, g1, k1⟩ := (S5.out.up hq).get1 encS_one i hlt
      obtain ⟨b2, o2, y, rfl, hb2, g2, k2⟩ := (S6.out.up hq).get1 encS_one i hlt
      rw [g1] at g2
      obtain rfl := Option.some.inj g2
      have f : (x.toList != x.toList) = false := by simp
      clear g1 g2
      go_wp2_with fail
      have hxc := ext_cell
      refine wp_region_ext (by kernel_rfl) (by kernel_rfl) ?_
      repeat (go_big_quiet_step ((fail)))
      clear hxc
      refine wpQuiet_nil ?_
      intro wz hwwz
      have hqwz := q_of_ext hwwz
      clear hwwz
      obtain ⟨hcwz, hfwz, hzwz⟩ := hqwz.facts
      try simp at hzwz
      try have hs0wz : w.heap.size < wz.heap.size := by omega
      try have hs1wz : w.heap.size + 1 < wz.heap.size := by omega
      clear hcwz hfwz k1 k2
      go_wp2_with fail
      go_roundw
      case rel => exact ⟨i + 1, by omega, by go_num, hq.trans hqwz⟩
      case measure => simp [intOf] <;> omega
    · have hd0 : decide (i < ny) = false := by simpa using hlt
      have hd1 : decide ((i : Int) < (ny : Int)) = false := by simpa using hlt
      obtain ⟨w8, rfl⟩ : ∃ w8 : World, w8 = wr := ⟨_, rfl⟩
      have hq08 := hq07.trans hq
      have S1 := hide (S1.out.up hq)
      clear hq hsz hi hlt
      go_wp2_with fail
      go_loopw [18, 19] (fun vs vi wr => ∃ i : Nat, i ≤ nx ∧ vi = .int .i64 i ∧ vs = .bool (idTo xs i) ∧ Q w8 wr) (fun _ vi _ => nx - (intOf vi).toNat)
      case atStart => exact ⟨0, by omega, by go_num, rfl, Q.refl _⟩
      case round =>
        obtain ⟨j, hj, rfl, rfl, hq⟩ := hrel
        have hsz := hq.size
        by_cases hlt : j < nx
        · have hk0 : decide (j < nx) = true := by simpa using hlt
          have hk1 : decide ((j : Int) < (nx : Int)) = true := by simpa using hlt
          have hltj : (j : Int) < (nx : Int) := by omega
          obtain ⟨b1, o1, x, rfl, hb1, g1, k1⟩ := (S1.out.up hq).get1 encI_one j hlt
          have hs := idTo_succ xs j
          have g2 : xs.getD j 0 = x := by simp [List.getD, g1]
          rw [g2] at hs
          obtain ⟨bb, hbb⟩ : ∃ bb, idTo xs j = bb := ⟨_, rfl⟩
          obtain ⟨be, hbe⟩ : ∃ be, (x == (j : Int)) = be := ⟨_, rfl⟩
          rw [hbb, hbe] at hs
          rw [hbb]
          have HS := hide hs
          clear hs g1 g2 hbb
          cases bb
          · clear hbe
            go_wp2_with fail
            go_roundw
            case rel => exact ⟨j + 1, by omega, by go_num, by rw [HS.out]; rfl, hq⟩
            case measure => simp [intOf] <;> omega
          · cases be
            all_goals (
              go_wp2_with fail
              go_roundw
              case rel => exact ⟨j + 1, by omega, by go_num, by rw [HS.out]; rfl, hq⟩
              case measure => simp [intOf] <;> omega)
        · have hk0 : decide (j < nx) = false := by simpa using hlt
          have hk1 : decide ((j : Int) < (nx : Int)) = false := by simpa using hlt
          obtain rfl : j = nx := by omega
          have hI := HID.out
          rw [HX.out] at hI
          rw [hI]
          have hq09 := hq08.trans hq
          clear hI hq08 hq hq07 hlt
          by_cases h0 : cnt = 0
          · subst h0
            have t1 : (((0 : Nat) : Int) == 0) = true := by simp
            have t2 : decide (0 = 0) = true := by simp
            rcases her with rfl | rfl
            all_goals (
              go_wp2_with fail
              refine (known_any _).mono ?_
              rintro e w10 ⟨rfl, hq10⟩
              go_wp2_with fail
              go_ret
              exact ⟨rfl, hq09.trans hq10⟩)
          · have t1 : ((cnt : Int) == 0) = false := by simp; omega
            have t2 : decide (cnt = 0) = false := by simpa using h0
            rcases her with rfl | rfl
            all_goals (
              go_wp2_with fail
              refine (known_any _).mono ?_
              rintro e w10 ⟨rfl, hq10⟩
              go_wp2_with fail
              go_ret
              exact ⟨rfl, hq09.trans hq10⟩)
theorem PackOrders_known (A : Option Addr) (n c : Nat) (A2 : Option Addr) (n2 c2 : Nat) (w : World) (h : 1500 < n ∨ 1500 < n2) : Calls Try.prog 8 #[.slice A n c, .slice A2 n2 c2] w fun e w' => e = .returned (.bool true) ∧ Q w w' := by
  by_cases h1 : 1500 < n
  · have d1 : decide (1500 < (n : Int)) = true := by simp; omega
    go_enter Try.func8, Try.ntmps8
    go_wp2_with fail
    refine (known_any _).mono ?_
    rintro e w1 ⟨rfl, hq⟩
    go_wp2_with fail
    go_ret
    exact ⟨rfl, hq⟩
  · have d1 : decide (1500 < (n : Int)) = false := by simp; omega
    have d2 : decide (1500 < (n2 : Int)) = true := by simp; omega
    clear h h1
    go_enter Try.func8, Try.ntmps8
    go_wp2_with fail
    refine (known_any _).mono ?_
    rintro e w1 ⟨rfl, hq⟩
    go_wp2_with fail
    go_ret
    exact ⟨rfl, hq⟩
theorem PackOrders_true (A : Option Addr) (n c : Nat) (ls : List Int) (A2 : Option Addr) (n2 c2 : Nat) (ss : List ByteArray) (w : World) (h : Sl 1 (encI .i64) w A n c ls) (h2 : Sl 1 encS w A2 n2 c2 ss) (hN : A = none → n = 0 ∧ c = 0) (hN2 : A2 = none → n2 = 0 ∧ c2 = 0) :
    Calls Try.prog 8 #[.slice A n c, .slice A2 n2 c2] w fun e w' => e = .returned (.bool true) ∧ Q w w' := by
  by_cases hb : 1500 < n ∨ 1500 < n2
  · exact PackOrders_known A n c A2 n2 c2 w hb
  have hl := h.len
  have hl2 := h2.len
  obtain ⟨er2, ys, hy, p5, p6⟩ : ∃ (er2 : Nat) (ys : List ByteArray), ys.length ≤ 1500 ∧ (∀ w, Sl 1 encS w A2 n2 c2 ss → Calls Try.prog 30 #[.slice A2 n2 c2] w (TPost 9 encS w er2 ys)) ∧
      (∀ w, Sl 1 encS w A2 n2 c2 ss → Calls Try.prog 31 #[.slice A2 n2 c2] w (TPost 9 encS w er2 ys)) := by
    by_cases hs : 1000 < n2
    · exact ⟨3, [], by simp, fun w _ => Sort_big A2 n2 c2 w hs, fun w _ => rSort_big A2 n2 c2 w hs⟩
    · exact ⟨0, _, by rw [List.length_map, ordL_length]; omega, fun w hw => Sort_any A2 n2 c2 ss w hw hN2 (by omega), fun w hw => rSort_any A2 n2 c2 ss w hw (by omega)⟩
  by_cases hs : 1000 < n
  · exact PackOrders_main A n c ls A2 n2 c2 ss w h h2 (by omega) (by omega) 3 er2 [] ys 0 (.inr rfl) (by simp) hy rfl (by omega) (fun w _ => Order_big A n c w hs) (fun w _ => rOrder_big A n c w hs) (fun w _ => Swaps_big A n c w hs) (fun w _ => rSwaps_big A n c w hs) p5 p6
  · refine PackOrders_main A n c ls A2 n2 c2 ss w h h2 (by omega) (by omega) 0 er2 ((ordL ltI 0 ls).map Int.ofNat) ys (inv ltI ls) (.inl rfl) (by rw [List.length_map, ordL_length]; omega) hy ?_ ?_ (fun w hw => Order_any A n c ls w hw (by omega)) (fun w hw => rOrder_any A n c ls w hw (by omega))
      (fun w hw => Swaps_any A n c ls w hw hN (by omega)) (fun w hw => rSwaps_any A n c ls w hw (by omega)) p5 p6
    · rw [List.length_map, ordL_length, idTo_all _ _ (ordL_length _ _ _)]
      exact decide_eq_decide.2 (ordL_id ord_int 0 ls)
    · exact Nat.le_trans (inv_le ord_int ls) (Nat.mul_le_mul (show ls.length ≤ 1000 by omega) (show ls.length ≤ 1000 by omega))
end Go.Proofs.Ytfiopjgpokdnoaa
