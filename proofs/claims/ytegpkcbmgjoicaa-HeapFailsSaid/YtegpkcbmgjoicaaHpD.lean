/- find (slices.BinarySearchFunc at the heap's blocks), isAlign. Conditions: the heap reads so, and its blocks are in order. -/
import Derived.Test.YtegpkcbmgjoicaaHpC
import Derived.IntWalk
namespace Go.Proofs.Ytegpkcbmgjoicaa
open Go.RowKit HP
set_option linter.unusedVariables false
/-- the difference of two numbers, wrapped: 0 only where they are equal -/
theorem wrap_zero (x a : Int) (hx : 0 ≤ x) (hx1 : x ≤ 10000) (ha0 : -9223372036854775808 ≤ a) (ha1 : a ≤ 9223372036854775807) : wrap64 (x - a) = 0 ↔ x = a := by
  unfold wrap64
  omega
theorem wrap_neg (x a : Int) (hx : 0 ≤ x) (hx1 : x ≤ 10000) (ha0 : 0 ≤ a) (ha1 : a ≤ 9223372036854775807) : wrap64 (x - a) < 0 ↔ x < a := by
  unfold wrap64
  omega
theorem findC (x : Int) (A : Option Addr) (n c : Nat) (at_ : Int) (w : World) :
    Calls Try.prog 47 #[.agg #[.int .i64 x, .slice A n c], .int .i64 at_] w fun e w' => e = .returned (.int .i64 (wrap64 (x - at_))) ∧ Q w w' := by
  go_enter Try.func47, Try.ntmps47
  go_wp2_with fail
  go_ret
  exact ⟨rfl, (Q.refl w).alloc _⟩
/-- where a block begins at a place, or would -/
def FindPost (l : List PB) (at_ : Int) (w : World) (e : Ending) (w' : World) : Prop :=
  ∃ k : Nat, e = .returned (.tuple #[.int .i64 (k : Int), .bool (has l at_)]) ∧ k ≤ l.length ∧ (0 ≤ at_ → k = below l at_) ∧ Q w w'
set_option maxHeartbeats 2000000 in
set_option maxRecDepth 100000 in
theorem search_any (A : Option Addr) (n c : Nat) (xs : List Bk) (size at_ : Int) (w : World) (h : Sl 2 encBk w A n c xs) (hn : n ≤ 100) (hF : Fit size (xs.map (·.pb))) (ha0 : -9223372036854775808 ≤ at_) (ha1 : at_ ≤ 9223372036854775807) :
    Calls Try.prog 46 #[.slice A n c, .int .i64 at_, .func (.func 47) #[] #[]] w (FindPost (xs.map (·.pb)) at_ w) := by
  have hl := h.len
  have H := hide h
  have HL := hide hl
  have HF := hide hF
  have HA0 := hide ha0
  have HA1 := hide ha1
  have hni : (n : Int) ≤ 100 := by omega
  clear h hl hF ha0 ha1
  go_enter Try.func46, Try.ntmps46
  go_wp2_with fail
  go_loopw [9, 10] (fun vi vj wr => ∃ i j : Nat, i ≤ j ∧ j ≤ n ∧ vi = .int .i64 (i : Int) ∧ vj = .int .i64 (j : Int) ∧ (0 ≤ at_ → (∀ t x, t < i → xs[t]? = some x → x.pb.1 < at_) ∧ (∀ t x, j ≤ t → xs[t]? = some x → at_ ≤ x.pb.1)) ∧ Q w wr) (fun vi vj _ => (intOf vj).toNat - (intOf vi).toNat)
  case atStart => exact ⟨0, n, by omega, by omega, by go_num, rfl, fun _ => ⟨fun t x ht => by omega, fun t x ht hx => by rw [List.getElem?_eq_none (by rw [HL.out]; omega)] at hx; cases hx⟩, Q.refl _⟩
  case round =>
    obtain ⟨i, j, hij, hjn, rfl, rfl, hinv, hq⟩ := hrel
    have HI := hide hinv
    clear hinv
    have hsz := hq.size
    by_cases hlt : i < j
    · have hd0 : decide (i < j) = true := by simpa using hlt
      have hd1 : decide ((i : Int) < (j : Int)) = true := by simpa using hlt
      have hlti : (i : Int) < (j : Int) := by omega
      have hmn : (i + j) / 2 < n := by omega
      obtain ⟨b1, o1, ⟨⟨x, bs⟩, row, cap⟩, rfl, hb1, g1, x1, x2⟩ := (H.out.up hq).bk ((i + j) / 2) hmn
      dsimp only at x1 x2
      have hx := HF.out.inn (x, bs) (List.mem_map.2 ⟨_, List.mem_of_getElem? g1, rfl⟩)
      obtain ⟨hx0, hx1, hx2⟩ := hx
      unfold pend at hx2
      dsimp only at hx0 hx1 hx2
      have hsz4 := HF.out.sz.2
      have hx3 : x ≤ 10000 := by omega
      have G1 := hide g1
      have HX : Hid (0 ≤ at_ → (wrap64 (x - at_) < 0 ↔ x < at_)) := fun h => wrap_neg x at_ hx0 hx3 h HA1.out
      obtain ⟨d, hd⟩ : ∃ d, d = wrap64 (x - at_) := ⟨_, rfl⟩
      have HC : Hid (∀ W, Calls Try.prog 47 #[.agg #[.int .i64 x, .slice (some ⟨row, 0, none⟩) bs.length cap], .int .i64 at_] W fun e w' => e = .returned (.int .i64 d) ∧ Q W w') := fun W => by rw [hd]; exact findC x _ _ _ at_ W
      rw [← hd] at HX
      have ord : Hid (∀ t y, t ≤ (i + j) / 2 → xs[t]? = some y → y.pb.1 ≤ x) := fun t y ht hy => by
        rcases Nat.lt_or_eq_of_le ht with h3 | h3
        · have := (HF.out.lt (i := t) (j := (i + j) / 2) (x := y.pb) (y := (x, bs)) (by rw [List.getElem?_map, hy]; rfl) (by rw [List.getElem?_map, G1.out]; rfl) h3).1
          dsimp only at this
          omega
        · rw [h3, G1.out] at hy
          cases hy
          exact Int.le_refl _
      have ord2 : Hid (∀ t y, (i + j) / 2 ≤ t → xs[t]? = some y → x ≤ y.pb.1) := fun t y ht hy => by
        rcases Nat.lt_or_eq_of_le ht with h3 | h3
        · have := (HF.out.lt (i := (i + j) / 2) (j := t) (x := (x, bs)) (y := y.pb) (by rw [List.getElem?_map, G1.out]; rfl) (by rw [List.getElem?_map, hy]; rfl) h3).1
          dsimp only at this
          omega
        · rw [← h3, G1.out] at hy
          cases hy
          exact Int.le_refl _
      clear g1 hd hx0 hx1 hx2 hsz4 hx3
      by_cases hneg : d < 0
      · go_wp2_with (go_at_call 47; refine (HC.out _).mono ?_; rintro e w3 ⟨rfl, hq3⟩)
        go_roundw
        case rel => exact ⟨(i + j) / 2 + 1, j, by omega, hjn, by rw [show ((i : Int) + (j : Int)) / 2 + 1 = (((i + j) / 2 + 1 : Nat) : Int) by omega], rfl, fun h0 => ⟨fun t y ht hy => by
            have h1 := ord.out t y (by omega) hy
            have h2 := (HX.out h0).1 hneg
            omega, (HI.out h0).2⟩, by first | exact hq.trans hq3 | exact hq.drew.trans hq3⟩
        case measure => simp [intOf] <;> omega
      · go_wp2_with (go_at_call 47; refine (HC.out _).mono ?_; rintro e w3 ⟨rfl, hq3⟩)
        go_roundw
        case rel => exact ⟨i, (i + j) / 2, by omega, by omega, rfl, by rw [show ((i : Int) + (j : Int)) / 2 = (((i + j) / 2 : Nat) : Int) by omega], fun h0 => ⟨(HI.out h0).1, fun t y ht hy => by
            have h1 := ord2.out t y ht hy
            have h2 := mt (HX.out h0).2 (by omega)
            omega⟩, by first | exact hq.trans hq3 | exact hq.drew.trans hq3⟩
        case measure => simp [intOf] <;> omega
    · obtain rfl : i = j := by omega
      have hd0 : decide (i < i) = false := by simp
      have hbelow : Hid (0 ≤ at_ → i = below (xs.map (·.pb)) at_) := fun h0 => by
        refine (below_eq HF.out at_ i (by rw [List.length_map, HL.out]; exact hjn) (fun t y ht hy => ?_) (fun t y ht hy => ?_)).symm
        · rw [List.getElem?_map] at hy
          obtain ⟨z, hz, rfl⟩ := Option.map_eq_some_iff.1 hy
          exact (HI.out h0).1 t z ht hz
        · rw [List.getElem?_map] at hy
          obtain ⟨z, hz, rfl⟩ := Option.map_eq_some_iff.1 hy
          exact (HI.out h0).2 t z ht hz
      have hneg : Hid (at_ < 0 → has (xs.map (·.pb)) at_ = false) := fun h0 => by
        unfold has
        rw [List.any_eq_false]
        intro y hy
        have := (HF.out.inn y hy).1
        simp
        omega
      by_cases hin : i < n
      · have hd1 : decide ((i : Int) < (n : Int)) = true := by simpa using hin
        have hd2 : decide (i < n) = true := by simpa using hin
        have hlti : (i : Int) < (n : Int) := by omega
        obtain ⟨b1, o1, ⟨⟨x, bs⟩, row, cap⟩, rfl, hb1, g1, x1, x2⟩ := (H.out.up hq).bk i hin
        dsimp only at x1 x2
        have hx := HF.out.inn (x, bs) (List.mem_map.2 ⟨_, List.mem_of_getElem? g1, rfl⟩)
        obtain ⟨hx0, hx1, hx2⟩ := hx
        unfold pend at hx2
        dsimp only at hx0 hx1 hx2
        have hsz4 := HF.out.sz.2
        have hz := wrap_zero x at_ hx0 (by omega) HA0.out HA1.out
        have HR : Hid (has (xs.map (·.pb)) at_ = (wrap64 (x - at_) == 0)) := by
          rw [Bool.eq_iff_iff]
          constructor
          · intro hh
            have h0 : 0 ≤ at_ := by
              rcases Int.lt_or_le at_ 0 with h | h
              · rw [hneg.out h] at hh; cases hh
              · exact h
            obtain ⟨y, hy, he⟩ := (has_iff HF.out at_).1 hh
            rw [← hbelow.out h0, List.getElem?_map, g1] at hy
            cases hy
            simp [hz.2 he]
          · intro hh
            have he : x = at_ := hz.1 (by simpa using hh)
            unfold has
            rw [List.any_eq_true]
            exact ⟨(x, bs), List.mem_map.2 ⟨_, List.mem_of_getElem? g1, rfl⟩, by simpa using he⟩
        obtain ⟨d, hd⟩ : ∃ d, d = wrap64 (x - at_) := ⟨_, rfl⟩
        have HC : Hid (∀ W, Calls Try.prog 47 #[.agg #[.int .i64 x, .slice (some ⟨row, 0, none⟩) bs.length cap], .int .i64 at_] W fun e w' => e = .returned (.int .i64 d) ∧ Q W w') := fun W => by rw [hd]; exact findC x _ _ _ at_ W
        rw [← hd] at HR
        have hnl : Hid (n = (xs.map (·.pb)).length) := by rw [List.length_map]; exact HL.out.symm
        clear g1 hd hx0 hx1 hx2 hsz4 hz
        by_cases hdz : d = 0
        · subst hdz
          go_wp2_with (go_at_call 47; refine (HC.out _).mono ?_; rintro e w3 ⟨rfl, hq3⟩)
          go_ret2
          exact ⟨i, by rw [HR.out]; first | rfl | (simp; done), by rw [← hnl.out]; exact hjn, hbelow.out, by first | exact hq.trans hq3 | exact hq.drew.trans hq3⟩
        · have hdz0 : (d == 0) = false := by simpa using hdz
          go_wp2_with (go_at_call 47; refine (HC.out _).mono ?_; rintro e w3 ⟨rfl, hq3⟩)
          go_ret2
          exact ⟨i, by rw [HR.out]; first | rfl | (simp [hdz]; done), by rw [← hnl.out]; exact hjn, hbelow.out, by first | exact hq.trans hq3 | exact hq.drew.trans hq3⟩
      · have hd1 : decide ((i : Int) < (n : Int)) = false := by simpa using hin
        have hd2 : decide (i < n) = false := by simpa using hin
        have HR : Hid (has (xs.map (·.pb)) at_ = false) := by
          cases hh : has (xs.map (·.pb)) at_ with
          | false => rfl
          | true =>
            have h0 : 0 ≤ at_ := by
              rcases Int.lt_or_le at_ 0 with h | h
              · rw [hneg.out h] at hh; cases hh
              · exact h
            obtain ⟨y, hy, he⟩ := (has_iff HF.out at_).1 hh
            rw [← hbelow.out h0, List.getElem?_eq_none (by rw [List.length_map, HL.out]; omega)] at hy
            cases hy
        have hnl : Hid (n = (xs.map (·.pb)).length) := by rw [List.length_map]; exact HL.out.symm
        go_wp2_with fail
        go_ret2
        exact ⟨i, by rw [HR.out]; try rfl, by rw [← hnl.out]; exact hjn, hbelow.out, hq⟩
theorem find_any (h : Hp) (at_ : Int) (w : World) (H : HpR w h) (hn : h.bks.length ≤ 100) (hF : Fit h.size (h.bks.map (·.pb))) (ha0 : -9223372036854775808 ≤ at_) (ha1 : at_ ≤ 9223372036854775807) :
    Calls Try.prog 31 #[h.bptr, .int .i64 at_] w (FindPost (h.bks.map (·.pb)) at_ w) := by
  obtain ⟨A, c, -, hS, k5, hb⟩ := H.open_
  have HC := hide (search_any A _ c h.bks h.size at_ w hS hn hF ha0 ha1)
  unfold Hp.bptr
  obtain ⟨g, hg⟩ : ∃ g, g = h.blk := ⟨_, rfl⟩
  obtain ⟨n, hn'⟩ : ∃ n, n = h.bks.length := ⟨_, rfl⟩
  rw [← hn'] at k5 HC
  rw [← hg] at k5 hb ⊢
  clear hS hn' hg H hF hn
  go_enter Try.func31, Try.ntmps31
  go_wp2_with fail
  refine HC.out.mono ?_
  rintro e w1 ⟨k, rfl, hk, hb1, hq⟩
  have HK := hide hb1
  clear hb1
  go_wp2_with fail
  go_ret2
  exact ⟨k, rfl, hk, HK.out, hq⟩
end Go.Proofs.Ytegpkcbmgjoicaa
