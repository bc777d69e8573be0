/- Which live blocks are equal: slices.Equal at numbers, the closure, slices.EqualFunc. Conditions: the slices read as lists. -/
import Derived.Test.YtegpkcbmgjoicaaGreatHrB
namespace Go.Proofs.YtegpkcbmgjoicaaGreat
open Go.RowKit HP
set_option linter.unusedVariables false
set_option maxRecDepth 100000 in
set_option maxHeartbeats 1000000 in
theorem equalI_any (lA mA : Option Addr) (ln lc mn mc : Nat) (xs ys : List Int) (w : World) (hl : Sl 1 encN w lA ln lc xs) (hm : Sl 1 encN w mA mn mc ys) : Calls Tryz.prog 40 #[.slice lA ln lc, .slice mA mn mc] w fun e w' => e = .returned (.bool (decide (xs = ys))) ∧ Q w w' := by
  have hl1 := hl.len
  have hl2 := hl.cap
  have hl3 := hl.most
  have hm1 := hm.len
  have hm2 := hm.cap
  have hm3 := hm.most
  have hli : (ln : Int) ≤ 9223372036854775807 := by omega
  have hmi : (mn : Int) ≤ 9223372036854775807 := by omega
  have HB := hide hl
  have HC := hide hm
  have HL := hide hl1
  have HM := hide hm1
  clear hl hm hl1 hm1
  clear hl2 hl3 hm2 hm3
  by_cases he : ln = mn
  · subst he
    have hd2 : ((ln : Int) != (ln : Int)) = false := by simp
    go_enter Tryz.func40, Tryz.ntmps40
    go_wp2_with fail
    clear hd2
    go_loopw [13] (fun vi wr => ∃ k : Nat, k ≤ ln ∧ vi = .int .i64 k ∧ Q w wr ∧ ∀ i, i < k → xs[i]? = ys[i]?) (fun vi _ => ln - (intOf vi).toNat)
    case atStart => exact ⟨0, by omega, by go_num, Q.refl _, fun i hi => absurd hi (by omega)⟩
    case round =>
      obtain ⟨k, hk, rfl, hq, heq⟩ := hrel
      have HEQ := hide heq
      clear heq
      by_cases hlt : k < ln
      · have hd1 : decide ((k : Int) < (ln : Int)) = true := by simp; omega
        have hd0 : decide (k < ln) = true := by simp; omega
        have hlti : (k : Int) < (ln : Int) := by omega
        obtain ⟨b1, o1, x, e1, hb1, hx1, hc1⟩ := (HB.out.up hq).at_ (fun _ => rfl) (by decide) k hlt
        obtain ⟨b2, o2, y, e2, hb2, hy1, hc2⟩ := (HC.out.up hq).at_ (fun _ => rfl) (by decide) k hlt
        have x1 : wr.cell? ⟨b1, o1 + k, none⟩ = some (.int .i64 x) := by simpa using hc1 0 _ rfl
        have y1 : wr.cell? ⟨b2, o2 + k, none⟩ = some (.int .i64 y) := by simpa using hc2 0 _ rfl
        cases e1
        cases e2
        have HX1 := hide hx1
        have HY1 := hide hy1
        clear hc1 hc2 hx1 hy1
        by_cases hxy : x = y
        · subst hxy
          have hne : (x != x) = false := by simp
          go_wp2_with fail
          have hxc := ext_cell
          refine wp_region_ext (by kernel_rfl) (by kernel_rfl) ?_
          repeat (go_big_quiet_step ((fail)))
          clear hxc
          refine wpQuiet_nil ?_
          intro wz hwwz
          have hqwz := q_of_ext hwwz
          clear hwwz
          obtain ⟨hcwz, hfwz, hzwz⟩ := hqwz.facts
          try simp at hzwz
          try have hs0wz : w.heap.size < wz.heap.size := by omega
          try have hs1wz : w.heap.size + 1 < wz.heap.size := by omega
          clear hcwz hfwz
          go_wp2_with fail
          clear x1 y1 hne
          go_roundw
          case rel => exact ⟨k + 1, by omega, by go_num, hq.trans hqwz, fun i hi => by
            rcases Nat.lt_succ_iff_lt_or_eq.1 hi with h | rfl
            · exact HEQ.out i h
            · exact HX1.out.trans HY1.out.symm⟩
          case measure => simp [intOf] <;> omega
        · have hne : (x != y) = true := by simp [hxy]
          have hxs : decide (xs = ys) = false := decide_eq_false fun h => by
            have h1 := HX1.out
            rw [h, HY1.out] at h1
            exact hxy (by injection h1 with h1; exact h1.symm)
          have HXS := hide hxs
          clear hxs
          go_wp2_with fail
          have hxc := ext_cell
          refine wp_region_ext (by kernel_rfl) (by kernel_rfl) ?_
          repeat (go_big_quiet_step ((fail)))
          clear hxc
          refine wpQuiet_nil ?_
          intro wz hwwz
          have hqwz := q_of_ext hwwz
          clear hwwz
          obtain ⟨hcwz, hfwz, hzwz⟩ := hqwz.facts
          try simp at hzwz
          try have hs0wz : w.heap.size < wz.heap.size := by omega
          try have hs1wz : w.heap.size + 1 < wz.heap.size := by omega
          clear hcwz hfwz
          go_wp2_with fail
          go_ret
          exact ⟨by rw [HXS.out]; rfl, hq.trans hqwz⟩
      · have hd1 : decide ((k : Int) < (ln : Int)) = false := by simp; omega
        have hd0 : decide (k < ln) = false := by simp; omega
        obtain rfl : k = ln := by omega
        have hxs : decide (xs = ys) = true := decide_eq_true (by
          apply List.ext_getElem?
          intro i
          by_cases hi : i < k
          · exact HEQ.out i hi
          · rw [List.getElem?_eq_none (by rw [HL.out]; omega), List.getElem?_eq_none (by rw [HM.out]; omega)])
        have HXS := hide hxs
        clear hxs
        go_wp2_with fail
        go_ret
        exact ⟨by rw [HXS.out]; rfl, hq⟩
  · have hd2 : ((ln : Int) != (mn : Int)) = true := by simp; omega
    have hxs : decide (xs = ys) = false := decide_eq_false fun h => he (by rw [← HL.out, ← HM.out, h])
    rw [hxs]
    clear he hxs
    go_enter Tryz.func40, Tryz.ntmps40
    go_wp2_with fail
    go_ret
    exact ⟨rfl, Q.refl _⟩
theorem sl_bytes {w : World} {x : Bk} (h : w.ownsRow 0 3 1 x.bv x.pb.2.length (intsV x.pb.2)) : Sl 1 encN w (some ⟨x.row, 0, none⟩) x.pb.2.length x.cap x.pb.2 := by
  have e : intsV x.pb.2 = x.pb.2.flatMap encN := by
    unfold intsV
    induction x.pb.2 with
    | nil => rfl
    | cons a l ih => simp [encN, ih]
  rw [e] at h
  exact Sl.own h (fun _ => rfl) (by decide)
/-- two blocks are equal -/
theorem sameC (x y : Bk) (w : World) (hx : Sl 1 encN w (some ⟨x.row, 0, none⟩) x.pb.2.length x.cap x.pb.2) (hy : Sl 1 encN w (some ⟨y.row, 0, none⟩) y.pb.2.length y.cap y.pb.2) :
    Calls Tryz.prog 39 #[.agg #[.int .i64 x.pb.1, .slice (some ⟨x.row, 0, none⟩) x.pb.2.length x.cap], .agg #[.int .i64 y.pb.1, .slice (some ⟨y.row, 0, none⟩) y.pb.2.length y.cap]] w fun e w' => e = .returned (.bool (decide (x.pb = y.pb))) ∧ Q w w' := by
  have HE : Hid (∀ W, Q w W → Calls Tryz.prog 40 #[.slice (some ⟨x.row, 0, none⟩) x.pb.2.length x.cap, .slice (some ⟨y.row, 0, none⟩) y.pb.2.length y.cap] W fun e w' => e = .returned (.bool (decide (x.pb.2 = y.pb.2))) ∧ Q W w') := fun W hq => equalI_any _ _ _ _ _ _ _ _ W (hx.up hq) (hy.up hq)
  obtain ⟨⟨xa, xl⟩, xr, xc⟩ := x
  obtain ⟨⟨ya, yl⟩, yr, yc⟩ := y
  dsimp only at HE ⊢
  obtain ⟨b, hb⟩ : ∃ b, b = decide (xl = yl) := ⟨_, rfl⟩
  rw [← hb] at HE
  have HB := hide hb
  obtain ⟨n, hn⟩ : ∃ n, n = xl.length := ⟨_, rfl⟩
  obtain ⟨m, hm⟩ : ∃ m, m = yl.length := ⟨_, rfl⟩
  rw [← hn, ← hm] at HE ⊢
  clear hx hy hb hn hm
  by_cases he : xa = ya
  · have e1 : (xa == ya) = true := by simpa using he
    have HD : Hid (decide ((xa, xl) = (ya, yl)) = b) := by
      rw [HB.out]
      exact hide (by simp [he])
    rw [HD.out]
    clear he
    go_enter Tryz.func39, Tryz.ntmps39
    go_wp2_with fail
    refine (HE.out _ (by repeat (first | exact Q.refl _ | assumption | refine Q.drew ?_ | refine Q.drewN ?_ _ | refine Q.alloc ?_ _ | refine Q.set ?_ (by first | (simp; done) | (simp; omega) | omega) _ | refine Q.trans ?_ (by assumption)))).mono ?_
    rintro e w1 ⟨rfl, hq1⟩
    go_wp2_with fail
    go_ret
    exact ⟨by simp, Q.trans (by repeat (first | exact Q.refl _ | assumption | refine Q.drew ?_ | refine Q.drewN ?_ _ | refine Q.alloc ?_ _ | refine Q.set ?_ (by first | (simp; done) | (simp; omega) | omega) _ | refine Q.trans ?_ (by assumption))) hq1⟩
  · have e1 : (xa == ya) = false := by simpa using he
    have HD : Hid (decide ((xa, xl) = (ya, yl)) = false) := hide (by simp [he])
    rw [HD.out]
    clear he
    go_enter Tryz.func39, Tryz.ntmps39
    go_wp2_with fail
    go_ret
    exact ⟨rfl, (by repeat (first | exact Q.refl _ | assumption | refine Q.drew ?_ | refine Q.drewN ?_ _ | refine Q.alloc ?_ _ | refine Q.set ?_ (by first | (simp; done) | (simp; omega) | omega) _ | refine Q.trans ?_ (by assumption)))⟩
/-- all blocks are equal -/
def Rows (W : World) (xs : List Bk) : Prop := ∀ x ∈ xs, Sl 1 encN W (some ⟨x.row, 0, none⟩) x.pb.2.length x.cap x.pb.2
set_option maxRecDepth 100000 in
set_option maxHeartbeats 2000000 in
theorem equalFunc_any (A B : Option Addr) (n c m d : Nat) (xs ys : List Bk) (w : World) (hx : Sl 2 encBk w A n c xs) (hy : Sl 2 encBk w B m d ys) (hxr : Rows w xs) (hyr : Rows w ys) (hn : n ≤ 64) (hm : m ≤ 64) :
    Calls Tryz.prog 38 #[.slice A n c, .slice B m d, .func (.func 39) #[] #[]] w fun e w' => e = .returned (.bool (decide (xs.map (·.pb) = ys.map (·.pb)))) ∧ Q w w' := by
  have hnx := hx.len
  have hmy := hy.len
  have HX := hide hx
  have HY := hide hy
  have HXR := hide hxr
  have HYR := hide hyr
  have HNX := hide hnx
  have HMY := hide hmy
  have hni : (n : Int) ≤ 64 := by omega
  have hmi : (m : Int) ≤ 64 := by omega
  clear hx hy hxr hyr hnx hmy
  by_cases he : n = m
  · subst he
    have hd2 : ((n : Int) != (n : Int)) = false := by simp
    go_enter Tryz.func38, Tryz.ntmps38
    go_wp2_with fail
    clear hd2
    go_loopw [17] (fun vi wr => ∃ k : Nat, k ≤ n ∧ vi = .int .i64 k ∧ Q w wr ∧ Hid (∀ i, i < k → (xs.map (·.pb))[i]? = (ys.map (·.pb))[i]?)) (fun vi _ => n - (intOf vi).toNat)
    case atStart => exact ⟨0, by omega, by go_num, Q.refl _, hide fun i hi => absurd hi (by omega)⟩
    case round =>
      obtain ⟨k, hk, rfl, hq, HEQ⟩ := hrel
      by_cases hlt : k < n
      · have hd1 : decide ((k : Int) < (n : Int)) = true := by simp; omega
        have hd0 : decide (k < n) = true := by simp; omega
        have hlti : (k : Int) < (n : Int) := by omega
        obtain ⟨b1, o1, x, e1, hb1, hx1, x1, x2⟩ := (HX.out.up hq).bk k hlt
        obtain ⟨b2, o2, y, e2, hb2, hy1, y1, y2⟩ := (HY.out.up hq).bk k hlt
        subst e1
        subst e2
        have HSC : Hid (∀ W, Q wr W → Calls Tryz.prog 39 #[.agg #[.int .i64 x.pb.1, .slice (some ⟨x.row, 0, none⟩) x.pb.2.length x.cap], .agg #[.int .i64 y.pb.1, .slice (some ⟨y.row, 0, none⟩) y.pb.2.length y.cap]] W fun e w' => e = .returned (.bool (decide (x.pb = y.pb))) ∧ Q W w') := fun W hW =>
          sameC x y W ((HXR.out x (List.mem_of_getElem? hx1)).up (hq.trans hW)) ((HYR.out y (List.mem_of_getElem? hy1)).up (hq.trans hW))
        have HX1 : Hid ((xs.map (·.pb))[k]? = some x.pb) := hide (by rw [List.getElem?_map, hx1]; rfl)
        have HY1 : Hid ((ys.map (·.pb))[k]? = some y.pb) := hide (by rw [List.getElem?_map, hy1]; rfl)
        obtain ⟨⟨xa, xl⟩, xr, xc⟩ := x
        obtain ⟨⟨ya, yl⟩, yr, yc⟩ := y
        dsimp only at x1 x2 y1 y2 HSC HX1 HY1
        obtain ⟨p, hp⟩ : ∃ p, p = xl.length := ⟨_, rfl⟩
        obtain ⟨r, hr⟩ : ∃ r, r = yl.length := ⟨_, rfl⟩
        rw [← hp] at x2 HSC
        rw [← hr] at y2 HSC
        clear hx1 hy1 hp hr
        by_cases hxy : (xa, xl) = (ya, yl)
        · rw [decide_eq_true hxy] at HSC
          have HXY := hide hxy
          clear hxy
          go_wp2_with fail
          refine (HSC.out _ (by repeat (first | exact Q.refl _ | assumption | refine Q.drew ?_ | refine Q.drewN ?_ _ | refine Q.alloc ?_ _ | refine Q.set ?_ (by first | (simp; done) | (simp; omega) | omega) _ | refine Q.trans ?_ (by assumption)))).mono ?_
          rintro e w5 ⟨rfl, hq5⟩
          have hq6 : Q wr w5 := Q.trans (by repeat (first | exact Q.refl _ | assumption | refine Q.drew ?_ | refine Q.drewN ?_ _ | refine Q.alloc ?_ _ | refine Q.set ?_ (by first | (simp; done) | (simp; omega) | omega) _ | refine Q.trans ?_ (by assumption))) hq5
          clear x1 x2 y1 y2 HSC
          go_wp2_with fail
          go_roundw
          case rel => exact ⟨k + 1, by omega, by go_num, hq.trans hq6, hide fun i hi => by
            rcases Nat.lt_succ_iff_lt_or_eq.1 hi with h | rfl
            · exact HEQ.out i h
            · rw [HX1.out, HY1.out, HXY.out]⟩
          case measure => simp [intOf] <;> omega
        · rw [decide_eq_false hxy] at HSC
          have hxs : decide (xs.map (·.pb) = ys.map (·.pb)) = false := decide_eq_false fun h => by
            have h1 := HX1.out
            rw [h, HY1.out] at h1
            exact hxy (Option.some.inj h1).symm
          have HXS := hide hxs
          clear hxs hxy
          go_wp2_with fail
          refine (HSC.out _ (by repeat (first | exact Q.refl _ | assumption | refine Q.drew ?_ | refine Q.drewN ?_ _ | refine Q.alloc ?_ _ | refine Q.set ?_ (by first | (simp; done) | (simp; omega) | omega) _ | refine Q.trans ?_ (by assumption)))).mono ?_
          rintro e w5 ⟨rfl, hq5⟩
          have hq6 : Q wr w5 := Q.trans (by repeat (first | exact Q.refl _ | assumption | refine Q.drew ?_ | refine Q.drewN ?_ _ | refine Q.alloc ?_ _ | refine Q.set ?_ (by first | (simp; done) | (simp; omega) | omega) _ | refine Q.trans ?_ (by assumption))) hq5
          clear x1 x2 y1 y2 HSC
          go_wp2_with fail
          go_ret
          exact ⟨by rw [HXS.out]; rfl, hq.trans hq6⟩
      · have hd1 : decide ((k : Int) < (n : Int)) = false := by simp; omega
        have hd0 : decide (k < n) = false := by simp; omega
        obtain rfl : k = n := by omega
        have hxs : decide (xs.map (·.pb) = ys.map (·.pb)) = true := decide_eq_true (by
          apply List.ext_getElem?
          intro i
          by_cases hi : i < k
          · exact HEQ.out i hi
          · rw [List.getElem?_eq_none (by rw [List.length_map, HNX.out]; omega), List.getElem?_eq_none (by rw [List.length_map, HMY.out]; omega)])
        have HXS := hide hxs
        clear hxs
        go_wp2_with fail
        go_ret
        exact ⟨by rw [HXS.out]; rfl, hq⟩
  · have hd2 : ((n : Int) != (m : Int)) = true := by simp; omega
    have hxs : decide (xs.map (·.pb) = ys.map (·.pb)) = false := decide_eq_false fun h => he (by
      have := congrArg List.length h
      rw [List.length_map, List.length_map, HNX.out, HMY.out] at this
      exact this)
    rw [hxs]
    clear he hxs
    go_enter Tryz.func38, Tryz.ntmps38
    go_wp2_with fail
    go_ret
    exact ⟨rfl, Q.refl _⟩
end Go.Proofs.YtegpkcbmgjoicaaGreat
