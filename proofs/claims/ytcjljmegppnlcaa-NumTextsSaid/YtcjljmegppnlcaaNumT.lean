/- The walk of the reference's operations bit by bit. Conditions: as the theorem says. -/
import Derived.Test.YtcjljmegppnlcaaNumS
import Derived.Deep.RegionHeld3
namespace Go.Proofs.Ytcjljmegppnlcaa
open Go.RowKit NP
set_option linter.unusedVariables false

def bitF (op n : Int) : Int := if op = 15 then n / 2 else if op = 16 then (n + 1) / 2 else n % 2
def outL (op : Int) (k : Nat) (X Y : Int) : List Int := (List.range k).map fun i => bitF op (X / 2 ^ i % 2 + Y / 2 ^ i % 2)
theorem outL_succ (op : Int) (k : Nat) (X Y : Int) : outL op (k + 1) X Y = outL op k X Y ++ [bitF op (X / 2 ^ k % 2 + Y / 2 ^ k % 2)] := by
  unfold outL; rw [List.range_succ, List.map_append]; rfl
theorem outL_length (op : Int) (k : Nat) (X Y : Int) : (outL op k X Y).length = k := by simp [outL]
theorem outL_bits (op : Int) (k : Nat) (X Y : Int) : ∀ d ∈ outL op k X Y, 0 ≤ d ∧ d ≤ 1 := by
  intro d hd
  simp only [outL, List.mem_map] at hd
  obtain ⟨i, _, rfl⟩ := hd
  unfold bitF
  split
  · omega
  · split <;> omega
def bwF (op : Int) (s : Bool) (b x y : Int) : Int := wrapS s b (numL (outL op b.toNat (adj b x) (adj b y)))
theorem rd_bits {w : World} {B : Nat} {A : Option Addr} {k : Nat} {X : Int} (hr : Rd w B A ((bitsL k X).map (.int .i64))) (j : Nat) (hj : j < k) :
    ∃ bb o, A = some ⟨bb, o, none⟩ ∧ bb < B ∧ w.cell? ⟨bb, o + j, none⟩ = some (.int .i64 (X / 2 ^ j % 2)) := by
  obtain ⟨bb, o, e, hlt, hc⟩ := hr.at_ (by simp [bitsL_length]; omega)
  exact ⟨bb, o, e, hlt, by rw [hc j (by simpa [bitsL_length] using hj)]; simp [bitsL]⟩

theorem bitwise_any (op : Int) (s : Bool) (b x y : Int) (w : World) (h1 : 1 ≤ b) (h2 : b ≤ 31) (hx : fitsB s b x = true) (hy : fitsB s b y = true) :
    Calls Try.prog 64 #[.int .i64 op, .agg #[.bool s, .int .i64 b], .int .i64 x, .int .i64 y] w fun e w' => e = .returned (.int .i64 (bwF op s b x y)) ∧ Q w w' := by
  obtain ⟨i0, hi0, hz0, hz1, hz2⟩ := i64_info_parts info_int
  have HI := hide hi0
  have HZ0 := hide hz0
  have HZ1 := hide hz1
  have HZ2 := hide hz2
  have HX := hide hx
  have HY := hide hy
  clear hi0 hz0 hz1 hz2 hx hy
  go_enter Try.func64, Try.ntmps64
  go_wp2_with fail
  go_region_held3 (fun w' => w'.cell? ⟨w.heap.size, 0, none⟩ = some (.bool s) ∧ w'.cell? ⟨w.heap.size, 1, none⟩ = some (.int .i64 b) ∧ w.heap.size < w'.heap.size) ((refine ⟨?_, ?_, ?_⟩ <;> first | (go_simp; done) | (simp [*]; done) | omega | (simp; omega))) (first | (go_at_call 62; refine (digits_any _ _ _ _ h1 h2 ?_).mono ?_; (first | exact HX.out | exact HY.out); rintro e w1 ⟨v1, rfl, hown1, hq1⟩; obtain ⟨hc1, hf1, hz1⟩ := hq1.facts; try simp at hz1))
  rename_i wx vx hownx hqx hcx hfx hzx hHeld
  have hownx1 := own_q hownx hq1
  have hqa : Q w w1 := (((Q.refl w).alloc _).drew.trans hqx).trans hq1
  obtain ⟨Ax, cx, ex, hx1, hx2, hx3, hrx⟩ := own_form hownx1
  obtain ⟨Ay, cy, ey, hy1, hy2, hy3, hry⟩ := own_form hown1
  obtain ⟨hb0, hb1, hb2⟩ := hHeld
  subst ex ey
  clear hownx hown1 hownx1 hqx hcx hfx hzx hq1 hc1 hf1 hx3 hy3
  generalize hX : adj b x = X at *
  generalize hY : adj b y = Y at *
  have HXX := hide hX
  have HYY := hide hY
  clear hX hY
  obtain ⟨N, hN⟩ : ∃ N : Nat, b.toNat = N := ⟨_, rfl⟩
  have hNb : (N : Int) = b := by omega
  rw [hN] at hrx hry hx1 hy1 ⊢
  have HN := hide hN
  have HNb := hide hNb
  have hN31 : N ≤ 31 := by omega
  clear hN hNb
  go_wp2_with fail
  go_loopw [11, 12] (fun v i wr => ∃ k : Nat, k ≤ N ∧ i = .int .i64 k ∧ wr.ownsRow w1.heap.size 3 1 v k ((outL op k X Y).map (.int .i64)) ∧ Below w1.heap.size w1 wr) (fun _ i _ => N - (intOf i).toNat)
  case atStart => exact ⟨0, by omega, by go_num, World.ownsRow_nil _ _ _ _, Below.refl _ _⟩
  case round =>
    obtain ⟨k, hk, rfl, hown, hbel⟩ := hrel
    have hsz := hbel.size
    have hL := outL_succ op k X Y
    have HL := hide hL
    clear hL
    by_cases hlt : k < N
    · have hrx1 := hrx.below hbel
      have hry1 := hry.below hbel
      obtain ⟨bx, ox, rfl, hbx, hcx⟩ := rd_bits hrx1 k hlt
      obtain ⟨by_, oy, rfl, hby, hcy⟩ := rd_bits hry1 k hlt
      clear hrx1 hry1
      have d1 : 0 ≤ X / 2 ^ k % 2 ∧ X / 2 ^ k % 2 ≤ 1 := by omega
      have d2 : 0 ≤ Y / 2 ^ k % 2 ∧ Y / 2 ^ k % 2 ≤ 1 := by omega
      obtain ⟨d11, d12⟩ := d1
      obtain ⟨d21, d22⟩ := d2
      generalize hdx : X / 2 ^ k % 2 = dx at *
      generalize hdy : Y / 2 ^ k % 2 = dy at *
      clear hdx hdy
      have hlt' : (k : Int) < (N : Int) := by omega
      have hbx' : bx < wr.heap.size := by omega
      have hby' : by_ < wr.heap.size := by omega
      by_cases h15 : op = 15
      · have h15b : (op == 15) = true := by simpa using h15
        have hv : bitF op (dx + dy) = (dx + dy) / 2 := by simp [bitF, h15]
        rw [hv] at HL
        clear hv h15
        go_wp2_with fail
        have hxc := ext_cell
        refine wp_region_ext (by kernel_rfl) (by kernel_rfl) ?_
        repeat (go_big_quiet_step ((fail)))
        clear hxc
        refine wpQuiet_nil ?_
        intro wz hwwz
        have hqwz := q_of_ext hwwz
        clear hwwz
        obtain ⟨hcwz, hfwz, hzwz⟩ := hqwz.facts
        try simp at hzwz
        try have hs0wz : w.heap.size < wz.heap.size := by omega
        try have hs1wz : w.heap.size + 1 < wz.heap.size := by omega
        have hown2 := own_q hown hqwz
        have hbel2 := hbel.trans (hqwz.below.mono hsz)
        have hsz2 := hbel2.size
        clear hown hbel hsz hcwz hfwz
        generalize wz = wr at *
        go_wp2_with (at_builtin; refine wpList_append_own _ rfl _ _ 63 rfl (w1.heap.size) 3 i0 (.int .i64 0) 1 8 Try.underlying63 HI.out HZ0.out HZ1.out HZ2.out rfl (by decide) _ _ _ rfl ((hown2).alloc _) ⟨wr.heap.size, 0, none⟩ 1 1 [.int .i64 ((dx + dy) / 2)] rfl rfl ?_ ?_ ?_ ?_ ?_ ?_; exact (cell_one_new _ _ _); (focus (simp [Value.oneCell'])); (focus (simp only [maxLen]; omega)); (focus omega); (focus (simp; omega)); intro v1 w1 hown1 hgr1 hne1; clear hne1; have hb1 := below_app (hown2) hgr1 (by omega))
        rename_i w2
        have hbel3 := hbel2.trans hb1
        clear hown2
        go_wp2_with fail
        go_roundw
        case rel => exact ⟨k + 1, by omega, by go_num, by rw [HL.out, List.map_append]; exact hown1, hbel3⟩
        case measure => simp [intOf]; omega
      · by_cases h16 : op = 16
        · have h16b : (op == 16) = true := by simpa using h16
          have h15b : (op == 15) = false := by simpa using h15
          have hv : bitF op (dx + dy) = (dx + dy + 1) / 2 := by simp [bitF, h16]
          rw [hv] at HL
          clear hv h15 h16
          go_wp2_with fail
          have hxc := ext_cell
          refine wp_region_ext (by kernel_rfl) (by kernel_rfl) ?_
          repeat (go_big_quiet_step ((fail)))
          clear hxc
          refine wpQuiet_nil ?_
          intro wz hwwz
          have hqwz := q_of_ext hwwz
          clear hwwz
          obtain ⟨hcwz, hfwz, hzwz⟩ := hqwz.facts
          try simp at hzwz
          try have hs0wz : w.heap.size < wz.heap.size := by omega
          try have hs1wz : w.heap.size + 1 < wz.heap.size := by omega
          have hown2 := own_q hown hqwz
          have hbel2 := hbel.trans (hqwz.below.mono hsz)
          have hsz2 := hbel2.size
          clear hown hbel hsz hcwz hfwz
          generalize wz = wr at *
          go_wp2_with (at_builtin; refine wpList_append_own _ rfl _ _ 63 rfl (w1.heap.size) 3 i0 (.int .i64 0) 1 8 Try.underlying63 HI.out HZ0.out HZ1.out HZ2.out rfl (by decide) _ _ _ rfl ((hown2).alloc _) ⟨wr.heap.size, 0, none⟩ 1 1 [.int .i64 ((dx + dy + 1) / 2)] rfl rfl ?_ ?_ ?_ ?_ ?_ ?_; exact (cell_one_new _ _ _); (focus (simp [Value.oneCell'])); (focus (simp only [maxLen]; omega)); (focus omega); (focus (simp; omega)); intro v1 w1 hown1 hgr1 hne1; clear hne1; have hb1 := below_app (hown2) hgr1 (by omega))
          rename_i w2
          have hbel3 := hbel2.trans hb1
          clear hown2
          go_wp2_with fail
          go_roundw
          case rel => exact ⟨k + 1, by omega, by go_num, by rw [HL.out, List.map_append]; exact hown1, hbel3⟩
          case measure => simp [intOf]; omega
        · have h15b : (op == 15) = false := by simpa using h15
          have h16b : (op == 16) = false := by simpa using h16
          have hv : bitF op (dx + dy) = (dx + dy) % 2 := by simp [bitF, h15, h16]
          rw [hv] at HL
          clear hv h15 h16
          go_wp2_with fail
          have hxc := ext_cell
          refine wp_region_ext (by kernel_rfl) (by kernel_rfl) ?_
          repeat (go_big_quiet_step ((fail)))
          clear hxc
          refine wpQuiet_nil ?_
          intro wz hwwz
          have hqwz := q_of_ext hwwz
          clear hwwz
          obtain ⟨hcwz, hfwz, hzwz⟩ := hqwz.facts
          try simp at hzwz
          try have hs0wz : w.heap.size < wz.heap.size := by omega
          try have hs1wz : w.heap.size + 1 < wz.heap.size := by omega
          have hown2 := own_q hown hqwz
          have hbel2 := hbel.trans (hqwz.below.mono hsz)
          have hsz2 := hbel2.size
          clear hown hbel hsz hcwz hfwz
          generalize wz = wr at *
          go_wp2_with (at_builtin; refine wpList_append_own _ rfl _ _ 63 rfl (w1.heap.size) 3 i0 (.int .i64 0) 1 8 Try.underlying63 HI.out HZ0.out HZ1.out HZ2.out rfl (by decide) _ _ _ rfl ((hown2).alloc _) ⟨wr.heap.size, 0, none⟩ 1 1 [.int .i64 ((dx + dy) % 2)] rfl rfl ?_ ?_ ?_ ?_ ?_ ?_; exact (cell_one_new _ _ _); (focus (simp [Value.oneCell'])); (focus (simp only [maxLen]; omega)); (focus omega); (focus (simp; omega)); intro v1 w1 hown1 hgr1 hne1; clear hne1; have hb1 := below_app (hown2) hgr1 (by omega))
          rename_i w2
          have hbel3 := hbel2.trans hb1
          clear hown2
          go_wp2_with fail
          go_roundw
          case rel => exact ⟨k + 1, by omega, by go_num, by rw [HL.out, List.map_append]; exact hown1, hbel3⟩
          case measure => simp [intOf]; omega
    · have ek : k = N := by omega
      subst ek
      have hown2 := hown.mono (Nat.zero_le _)
      obtain ⟨A, c, e, hc1, hc2, hc3, hr⟩ := own_form hown
      subst e
      have hqr := q_below hqa hbel hqa.size
      have hcs := hbel.cell (p := ⟨w.heap.size, 0, none⟩) hb2
      have hcb := hbel.cell (p := ⟨w.heap.size, 1, none⟩) hb2
      rw [hb0] at hcs
      rw [hb1] at hcb
      clear hown hown2 hbel hb0 hb1 hrx hry hqa
      go_wp2_with fail
      refine (number_any _ _ _ _ _ (outL op k X Y) _ h1 h2 hr (outL_length _ _ _ _) hN31 (outL_bits _ _ _ _)).mono ?_
      rintro e w3 ⟨rfl, hq3⟩
      go_wp2_with fail
      go_ret
      exact ⟨ret_int (by unfold bwF; rw [HN.out, HXX.out, HYY.out]), (by repeat (first | exact Q.refl _ | assumption | refine Q.drew ?_ | refine Q.drewN ?_ _ | refine Q.alloc ?_ _ | refine Q.set ?_ (by first | (simp; done) | (simp; omega) | omega) _ | refine Q.trans ?_ (by assumption)))⟩
end Go.Proofs.Ytcjljmegppnlcaa
