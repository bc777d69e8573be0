/- The walks of Check and of the reference's Check. Conditions: the memory reads as bytes, the objects read as such. -/
import Derived.Test.YtiilkiggfjpibaaLinkTj
namespace Go.Proofs.Ytiilkiggfjpibaa
open Go.RowKit LK
set_option linter.unusedVariables false
set_option linter.unusedSimpArgs false
/-- what Check says: the place and the error -/
def ChkR (xs : List Int) (os : List OV) (p q : Nat) : Prop :=
  (imgE os ≠ 0 ∧ p = 0 ∧ q = imgE os) ∨ (imgE os = 0 ∧ ∃ ys : List Int, imgX os = ys.map (Value.int .u8) ∧ ((xs.length ≠ ys.length ∧ p = 0 ∧ q = 10) ∨ (xs.length = ys.length ∧ p < xs.length ∧ q = 8 ∧ (∀ i, i < p → xs[i]? = ys[i]?) ∧ xs[p]? ≠ ys[p]?) ∨ (xs.length = ys.length ∧ p = xs.length ∧ q = 0 ∧ ∀ i, i < p → xs[i]? = ys[i]?)))
theorem ChkR.one {xs : List Int} {os : List OV} {p q p' q' : Nat} (h : ChkR xs os p q) (h' : ChkR xs os p' q') : p = p' ∧ q = q' := by
  rcases h with ⟨h1, rfl, rfl⟩ | ⟨h1, ys, hy, h⟩
  · rcases h' with ⟨_, rfl, rfl⟩ | ⟨h2, _⟩
    · exact ⟨rfl, rfl⟩
    · exact absurd h2 h1
  · rcases h' with ⟨h2, _⟩ | ⟨_, ys', hy', h'⟩
    · exact absurd h1 h2
    · obtain rfl : ys' = ys := (List.map_inj_right (fun x y h => by injection h)).1 (hy'.symm.trans hy)
      rcases h with ⟨a, rfl, rfl⟩ | ⟨a, b, rfl, c, d⟩ | ⟨a, rfl, rfl, c⟩ <;> rcases h' with ⟨a', rfl, rfl⟩ | ⟨a', b', rfl, c', d'⟩ | ⟨a', rfl, rfl, c'⟩
      · exact ⟨rfl, rfl⟩
      · exact absurd a' a
      · exact absurd a' a
      · exact absurd a a'
      · refine ⟨?_, rfl⟩
        rcases Nat.lt_trichotomy p p' with h | h | h
        · exact absurd (c' p h) d
        · exact h
        · exact absurd (c p' h) d'
      · exact absurd (c' p b) d
      · exact absurd a a'
      · exact absurd (c p' b') d'
      · exact ⟨rfl, rfl⟩
def ChkP (w : World) (xs : List Int) (os : List OV) (e : Ending) (w' : World) : Prop :=
  Q w w' ∧ ∃ p q : Nat, e = .returned (.tuple #[.int .i64 (p : Nat), .int .i64 (q : Nat)]) ∧ ChkR xs os p q ∧ p ≤ xs.length ∧ q ≤ 10
set_option maxRecDepth 100000 in
set_option maxHeartbeats 4000000 in
theorem Check_any (l : SlV Int) (A : Option Addr) (n c : Nat) (os : List OV) (w : World) (hb : B8 w l) (hO : ObsR w A n c os) : Calls Try.prog 20 #[l.val, .slice A n c] w (ChkP w l.xs os) := by
  obtain ⟨lA, ln, lc, lx⟩ := l
  unfold SlV.val
  dsimp only
  have HI := hide (Image_any A n c os w hO)
  have HIN := hide (show ∀ o ∈ os, In8 o.1.xs from fun o ho => (hO.all o ho).bok)
  have HB := hide hb
  have hlen := hb.sl.len
  have hcap := hb.sl.cap
  have hmost := hb.sl.most
  dsimp only at hlen hcap hmost
  have hle := imgE_le os
  clear hb hO
  go_enter Try.func20, Try.ntmps20
  go_wp2_with fail
  refine HI.out.mono ?_
  rintro e w1 him
  obtain ⟨v, ys, rfl, hown, hin, hx, hq⟩ := img_told him HIN.out
  obtain ⟨er, her⟩ : ∃ er, imgE os = er := ⟨_, rfl⟩
  rw [her] at hle ⊢
  obtain ⟨B, d, rfl, hs⟩ := sl_own8 hown
  obtain ⟨N, hN⟩ : ∃ N, ys.length = N := ⟨_, rfl⟩
  rw [hN] at hs ⊢
  have hNm := hs.most
  have hNc := hs.cap
  have hNi : (N : Int) ≤ 9223372036854775807 := by omega
  have hlni : (ln : Int) ≤ 9223372036854775807 := by omega
  have HX := hide hx
  have HQ := hide hq
  have HS := hide hs
  have HER := hide her
  have HN := hide hN
  have HL := hide hlen
  clear hx hq hs her hN hlen
  clear him hown hin hNm hNc hcap hmost
  rcases Nat.eq_zero_or_pos er with h0 | h0
  · have hd : ((er : Int) != 0) = false := by rw [h0]; rfl
    have HE0 := hide (show imgE os = 0 from HER.out.trans h0)
    by_cases hl : ln = N
    · subst hl
      have hd2 : ((ln : Int) != (ln : Int)) = false := by simp
      clear h0
      go_wp2_with fail
      clear hd hd2
      go_loopw [25] (fun vi wr => ∃ k : Nat, k ≤ ln ∧ vi = .int .i64 k ∧ Q w1 wr ∧ ∀ i, i < k → lx[i]? = ys[i]?) (fun vi _ => ln - (intOf vi).toNat)
      case atStart => exact ⟨0, by omega, by go_num, Q.refl _, fun i hi => absurd hi (by omega)⟩
      case round =>
        obtain ⟨k, hk, rfl, hq, heq⟩ := hrel
        have HEQ := hide heq
        clear heq
        by_cases hlt : k < ln
        · have hd1 : decide ((k : Int) < (ln : Int)) = true := by simp; omega
          have hd0 : decide (k < ln) = true := by simp; omega
          have hlti : (k : Int) < (ln : Int) := by omega
          obtain ⟨b1, o1, x, e1, hb1, hx1, hc1⟩ := (HB.out.up (HQ.out.trans hq)).sl.at_ (fun _ => rfl) (by decide) k hlt
          obtain ⟨b2, o2, y, e2, hb2, hy1, hc2⟩ := (HS.out.up hq).at_ (fun _ => rfl) (by decide) k hlt
          dsimp only at e1 hx1
          have x1 : wr.cell? ⟨b1, o1 + k, none⟩ = some (.int .u8 x) := by simpa using hc1 0 _ rfl
          have y1 : wr.cell? ⟨b2, o2 + k, none⟩ = some (.int .u8 y) := by simpa using hc2 0 _ rfl
          cases e1
          cases e2
          have HX1 := hide hx1
          have HY1 := hide hy1
          clear hc1 hc2 hx1 hy1
          by_cases hxy : x = y
          · subst hxy
            have hne : (x != x) = false := by simp
            go_wp2_with fail
            clear x1 y1 hne
            go_roundw
            case rel => exact ⟨k + 1, by omega, by go_num, hq, fun i hi => by
              rcases Nat.lt_succ_iff_lt_or_eq.1 hi with h | rfl
              · exact HEQ.out i h
              · exact HX1.out.trans HY1.out.symm⟩
            case measure => simp [intOf] <;> omega
          · have hne : (x != y) = true := by simp [hxy]
            go_wp2_with fail
            go_ret2
            exact ⟨HQ.out.trans (hq), k, 8, rfl, .inr ⟨HE0.out, ys, HX.out, .inr (.inl ⟨by rw [HL.out, HN.out], by rw [HL.out]; exact hlt, rfl, HEQ.out, by rw [HX1.out, HY1.out]; intro h; exact hxy (by injection h)⟩)⟩, by rw [HL.out]; omega, by omega⟩
        · have hd1 : decide ((k : Int) < (ln : Int)) = false := by simp; omega
          have hd0 : decide (k < ln) = false := by simp; omega
          obtain rfl : k = ln := by omega
          go_wp2_with fail
          go_ret2
          exact ⟨HQ.out.trans hq, k, 0, rfl, .inr ⟨HE0.out, ys, HX.out, .inr (.inr ⟨by rw [HL.out, HN.out], HL.out.symm, rfl, HEQ.out⟩)⟩, by rw [HL.out]; omega, by omega⟩
    · have hd2 : ((ln : Int) != (N : Int)) = true := by simp; omega
      clear h0
      go_wp2_with fail
      go_ret2
      exact ⟨HQ.out, 0, 10, rfl, .inr ⟨HE0.out, ys, HX.out, .inl ⟨by rw [HL.out, HN.out]; exact hl, rfl, rfl⟩⟩, Nat.zero_le _, by omega⟩
  · have hd : ((er : Int) != 0) = true := by simp; omega
    have HE0 := hide (show imgE os ≠ 0 by rw [HER.out]; omega)
    clear h0
    go_wp2_with fail
    go_ret2
    exact ⟨HQ.out, 0, er, rfl, .inl ⟨HE0.out, rfl, HER.out.symm⟩, Nat.zero_le _, by omega⟩
set_option maxRecDepth 100000 in
set_option maxHeartbeats 4000000 in
theorem rCheck_any (l : SlV Int) (A : Option Addr) (n c : Nat) (os : List OV) (w : World) (hb : B8 w l) (hO : ObsR w A n c os) : Calls Try.prog 41 #[l.val, .slice A n c] w (ChkP w l.xs os) := by
  obtain ⟨lA, ln, lc, lx⟩ := l
  unfold SlV.val
  dsimp only
  have HI := hide (rImage_any A n c os w hO)
  have HIN := hide (show ∀ o ∈ os, In8 o.1.xs from fun o ho => (hO.all o ho).bok)
  have HB := hide hb
  have hlen := hb.sl.len
  have hcap := hb.sl.cap
  have hmost := hb.sl.most
  dsimp only at hlen hcap hmost
  have hle := imgE_le os
  clear hb hO
  go_enter Try.func41, Try.ntmps41
  go_wp2_with fail
  refine HI.out.mono ?_
  rintro e w1 him
  obtain ⟨v, ys, rfl, hown, hin, hx, hq⟩ := img_told him HIN.out
  obtain ⟨er, her⟩ : ∃ er, imgE os = er := ⟨_, rfl⟩
  rw [her] at hle ⊢
  obtain ⟨B, d, rfl, hs⟩ := sl_own8 hown
  obtain ⟨N, hN⟩ : ∃ N, ys.length = N := ⟨_, rfl⟩
  rw [hN] at hs ⊢
  have hNm := hs.most
  have hNc := hs.cap
  have hNi : (N : Int) ≤ 9223372036854775807 := by omega
  have hlni : (ln : Int) ≤ 9223372036854775807 := by omega
  have HX := hide hx
  have HQ := hide hq
  have HS := hide hs
  have HER := hide her
  have HN := hide hN
  have HL := hide hlen
  clear hx hq hs her hN hlen
  clear him hown hin hNm hNc hcap hmost
  rcases Nat.eq_zero_or_pos er with h0 | h0
  · have hd : ((er : Int) != 0) = false := by rw [h0]; rfl
    have HE0 := hide (show imgE os = 0 from HER.out.trans h0)
    by_cases hl : ln = N
    · subst hl
      have hd2 : ((ln : Int) != (ln : Int)) = false := by simp
      clear h0
      go_wp2_with fail
      clear hd hd2
      go_loopw [8] (fun vi wr => ∃ k : Nat, k ≤ ln ∧ vi = .int .i64 k ∧ Q w1 wr ∧ ∀ i, i < k → lx[i]? = ys[i]?) (fun vi _ => ln - (intOf vi).toNat)
      case atStart => exact ⟨0, by omega, by go_num, Q.refl _, fun i hi => absurd hi (by omega)⟩
      case round =>
        obtain ⟨k, hk, rfl, hq, heq⟩ := hrel
        have HEQ := hide heq
        clear heq
        by_cases hlt : k < ln
        · have hd1 : decide ((k : Int) < (ln : Int)) = true := by simp; omega
          have hd0 : decide (k < ln) = true := by simp; omega
          have hlti : (k : Int) < (ln : Int) := by omega
          obtain ⟨b1, o1, x, e1, hb1, hx1, hc1⟩ := (HB.out.up (HQ.out.trans hq)).sl.at_ (fun _ => rfl) (by decide) k hlt
          obtain ⟨b2, o2, y, e2, hb2, hy1, hc2⟩ := (HS.out.up hq).at_ (fun _ => rfl) (by decide) k hlt
          dsimp only at e1 hx1
          have x1 : wr.cell? ⟨b1, o1 + k, none⟩ = some (.int .u8 x) := by simpa using hc1 0 _ rfl
          have y1 : wr.cell? ⟨b2, o2 + k, none⟩ = some (.int .u8 y) := by simpa using hc2 0 _ rfl
          cases e1
          cases e2
          have HX1 := hide hx1
          have HY1 := hide hy1
          clear hc1 hc2 hx1 hy1
          by_cases hxy : x = y
          · subst hxy
            have hne : (x != x) = false := by simp
            go_wp2_with fail
            have hxc := ext_cell
            refine wp_region_ext (by kernel_rfl) (by kernel_rfl) ?_
            repeat (go_big_quiet_step ((fail)))
            clear hxc
            refine wpQuiet_nil ?_
            intro wz hwwz
            have hqwz := q_of_ext hwwz
            clear hwwz
            obtain ⟨hcwz, hfwz, hzwz⟩ := hqwz.facts
            try simp at hzwz
            try have hs0wz : w.heap.size < wz.heap.size := by omega
            try have hs1wz : w.heap.size + 1 < wz.heap.size := by omega
            clear hcwz hfwz
            go_wp2_with fail
            clear x1 y1 hne
            go_roundw
            case rel => exact ⟨k + 1, by omega, by go_num, hq.trans hqwz, fun i hi => by
              rcases Nat.lt_succ_iff_lt_or_eq.1 hi with h | rfl
              · exact HEQ.out i h
              · exact HX1.out.trans HY1.out.symm⟩
            case measure => simp [intOf] <;> omega
          · have hne : (x != y) = true := by simp [hxy]
            go_wp2_with fail
            have hxc := ext_cell
            refine wp_region_ext (by kernel_rfl) (by kernel_rfl) ?_
            repeat (go_big_quiet_step ((fail)))
            clear hxc
            refine wpQuiet_nil ?_
            intro wz hwwz
            have hqwz := q_of_ext hwwz
            clear hwwz
            obtain ⟨hcwz, hfwz, hzwz⟩ := hqwz.facts
            try simp at hzwz
            try have hs0wz : w.heap.size < wz.heap.size := by omega
            try have hs1wz : w.heap.size + 1 < wz.heap.size := by omega
            clear hcwz hfwz
            go_wp2_with fail
            go_ret2
            exact ⟨HQ.out.trans (hq.trans hqwz), k, 8, rfl, .inr ⟨HE0.out, ys, HX.out, .inr (.inl ⟨by rw [HL.out, HN.out], by rw [HL.out]; exact hlt, rfl, HEQ.out, by rw [HX1.out, HY1.out]; intro h; exact hxy (by injection h)⟩)⟩, by rw [HL.out]; omega, by omega⟩
        · have hd1 : decide ((k : Int) < (ln : Int)) = false := by simp; omega
          have hd0 : decide (k < ln) = false := by simp; omega
          obtain rfl : k = ln := by omega
          go_wp2_with fail
          go_ret2
          exact ⟨HQ.out.trans hq, k, 0, rfl, .inr ⟨HE0.out, ys, HX.out, .inr (.inr ⟨by rw [HL.out, HN.out], HL.out.symm, rfl, HEQ.out⟩)⟩, by rw [HL.out]; omega, by omega⟩
    · have hd2 : ((ln : Int) != (N : Int)) = true := by simp; omega
      clear h0
      go_wp2_with fail
      go_ret2
      exact ⟨HQ.out, 0, 10, rfl, .inr ⟨HE0.out, ys, HX.out, .inl ⟨by rw [HL.out, HN.out]; exact hl, rfl, rfl⟩⟩, Nat.zero_le _, by omega⟩
  · have hd : ((er : Int) != 0) = true := by simp; omega
    have HE0 := hide (show imgE os ≠ 0 by rw [HER.out]; omega)
    clear h0
    go_wp2_with fail
    go_ret2
    exact ⟨HQ.out, 0, er, rfl, .inl ⟨HE0.out, rfl, HER.out.symm⟩, Nat.zero_le _, by omega⟩
end Go.Proofs.Ytiilkiggfjpibaa
