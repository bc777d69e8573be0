/- The walks of Runs, of the program and of the reference. Conditions: the slice reads as bytes. -/
import Derived.Test.YtfiopjgpokdnoaaPackD
import Derived.Test.YtfiopjgpokdnoaaPackR
import Derived.BigRegion
namespace Go.Proofs.Ytfiopjgpokdnoaa
open Go.RowKit PP
set_option linter.unusedVariables false
theorem El_pair : El Try.prog 34 37 2 16 := El.of (z := .agg #[.int .i64 0, .int .i64 0]) Try.underlying34 (by kernel_rfl) rfl (by omega) (by omega)
def errLen (n m : Nat) : Nat := if m < n then 3 else 0
def RunsPost (w : World) (rs : List (Nat × Nat)) (er : Nat) (e : Ending) (w' : World) : Prop :=
  ∃ v, e = .returned (.tuple #[v, .int .i64 (er : Nat)]) ∧ w'.ownsRow w.heap.size 37 2 v rs.length (flat rs) ∧ Q w w'
theorem Runs_big (A : Option Addr) (n c : Nat) (w : World) (hn : 4096 < n) : Calls Try.prog 22 #[.slice A n c] w (RunsPost w [] 3) := by
  have hn' : 4096 < (n : Int) := by omega
  go_enter Try.func22, Try.ntmps22
  go_wp2_with fail
  go_ret2
  exact ⟨_, rfl, World.ownsRow_nil _ _ _ _, Q.refl _⟩
set_option maxHeartbeats 800000 in
theorem Runs_any (A : Option Addr) (n c : Nat) (bs : List Nat) (w : World) (h : Bytes w A n c bs) (hn : n ≤ 4096) : Calls Try.prog 22 #[.slice A n c] w (RunsPost w (runsF bs) 0) := by
  obtain ⟨hr, hl, hs, hc1, hc2⟩ := h
  subst hl
  have HS := hide hs
  clear hs
  have hlen : (bs.length : Int) ≤ 4096 := by omega
  have hlen' : ¬ 4096 < (bs.length : Int) := by omega
  go_enter Try.func22, Try.ntmps22
  go_wp2_with fail
  go_loopw [4, 13] (fun v i wr => ∃ k : Nat, k ≤ bs.length ∧ i = .int .i64 k ∧ wr.ownsRow w.heap.size 37 2 v (runsF (bs.take k)).length (flat (runsF (bs.take k))) ∧ Q w wr) (fun _ i _ => bs.length - (intOf i).toNat)
  case atStart => exact ⟨0, by omega, by go_num, World.ownsRow_nil _ _ _ _, Q.refl _⟩
  case round =>
    obtain ⟨k, hk, rfl, hown, hq⟩ := hrel
    have hrw := hr.q hq (Nat.le_refl _)
    have hsz := hq.size
    by_cases hlt : k < bs.length
    · obtain ⟨bb, o, x, rfl, hbb, hcx, hx, hg, ht⟩ := rd_byte hrw HS.out k hlt
      have hsn := runsF_snoc (bs.take k) x
      rw [← ht] at hsn
      have hln := runsF_length (bs.take k)
      have htl : (bs.take k).length = k := by simp; omega
      have hbd := expand_length_le (runsF (bs.take k))
      rw [expand_runsF, htl] at hbd
      rw [htl] at hln
      have hlt' : (k : Int) < (bs.length : Int) := by omega
      have HSN := hide hsn
      clear hsn ht htl hrw hg
      rcases List.eq_nil_or_concat (runsF (bs.take k)) with h0 | ⟨ini, ⟨b, m⟩, h0⟩
      · rw [h0] at hown
        rw [h0] at HSN
        have HE : Hid (runsF (bs.take (k + 1)) = [(x, 1)]) := hide (by rw [HSN.out]; rfl)
        clear h0 hbd hln HSN
        obtain ⟨Ao, co, eo, ho1, ho2, ho3, -⟩ := own_form hown
        subst eo
        clear ho3
        go_wp2_with (at_builtin; refine wpList_app1 rfl El_pair _ _ rfl rfl hown (by simp) rfl rfl ?_ ?_ ?_ ?_; (focus (simp [Value.oneCell'])); (focus simp); (focus omega); intro v1 w1 hown1 hb1)
        go_roundw
        case rel => exact ⟨k + 1, by omega, by go_num, by rw [HE.out]; exact hown1, q_below hq hb1 (Nat.le_refl _)⟩
        case measure => simp [intOf] <;> omega
      · rw [List.concat_eq_append] at h0
        rw [h0] at hown hbd HSN hln
        have hm := hbd ini.length b m (by simp)
        obtain ⟨g1, g2⟩ := flat_snoc_get ini b m
        have hil : ini.length + 1 ≤ k := by simpa using hln
        have hll : (ini ++ [(b, m)]).length = ini.length + 1 := by simp
        rw [hll] at hown
        obtain ⟨gg, co, rfl, hgg, hgl, ho1, ho2, hcell, hfz⟩ := own_at hown (by omega)
        have hce1 := hcell _ _ g1
        have hce2 := hcell _ _ g2
        have hfz2 := hfz (ini.length * 2 + 1)
        by_cases hbx : b = x
        · subst hbx
          have HE : Hid (runsF (bs.take (k + 1)) = ini ++ [(b, m + 1)]) := hide (by rw [HSN.out]; exact runS_same _ _ _)
          have hset := own_set hown (ini.length * 2 + 1) (.int .i64 ((m + 1 : Nat) : Int))
          rw [flat_snoc_set] at hset
          have HSET := hide hset
          clear hset hcell hfz h0 hbd hln HSN g1 g2 hll hown
          go_wp2_with fail
          go_region
          go_wp2_with fail
          go_roundw
          case rel => exact ⟨k + 1, by omega, by go_num, by rw [HE.out]; simpa using HSET.out.drew, Q.drew (Q.set hq hgg _)⟩
          case measure => simp [intOf] <;> omega
        · have HE : Hid (runsF (bs.take (k + 1)) = (ini ++ [(b, m)]) ++ [(x, 1)]) := hide (by rw [HSN.out]; exact runS_new _ _ _ _ hbx)
          have hbx1 : ((b : Int) == (x : Int)) = false := by simp; omega
          clear hcell hfz h0 hbd hln HSN g1 g2 hll
          go_wp2_with (at_builtin; refine wpList_app1 rfl El_pair _ _ rfl rfl hown (by simp) rfl rfl ?_ ?_ ?_ ?_; (focus (simp [Value.oneCell'])); (focus omega); (focus omega); intro v1 w1 hown1 hb1)
          go_roundw
          case rel => exact ⟨k + 1, by omega, by go_num, by rw [HE.out, flat_append, List.length_append, List.length_append]; exact hown1, q_below hq hb1 (Nat.le_refl _)⟩
          case measure => simp [intOf] <;> omega
    · have ek : k = bs.length := by omega
      subst ek
      rw [List.take_length] at hown
      go_wp2_with fail
      go_ret2
      exact ⟨_, rfl, hown, hq⟩
theorem rRuns_big (A : Option Addr) (n c : Nat) (w : World) (hn : 4096 < n) : Calls Try.prog 23 #[.slice A n c] w (RunsPost w [] 3) := by
  go_enter Try.func23, Try.ntmps23
  go_wp2_with fail
  refine (fits_big _ _ _ _ hn).mono ?_
  rintro e w1 ⟨rfl, rfl⟩
  go_wp2_with fail
  go_ret2
  exact ⟨_, rfl, World.ownsRow_nil _ _ _ _, Q.refl _⟩
set_option maxHeartbeats 800000 in
theorem rRuns_any (A : Option Addr) (n c : Nat) (bs : List Nat) (w : World) (h : Bytes w A n c bs) (hn : n ≤ 4096) : Calls Try.prog 23 #[.slice A n c] w (RunsPost w (runsF bs) 0) := by
  obtain ⟨hr, hl, hs, hc1, hc2⟩ := h
  subst hl
  have HS := hide hs
  clear hs
  have hlen : (bs.length : Int) ≤ 4096 := by omega
  go_enter Try.func23, Try.ntmps23
  go_wp2_with fail
  refine (fits_ok _ _ _ _ hn).mono ?_
  rintro e w1 ⟨rfl, rfl⟩
  go_wp2_with fail
  go_loopw [5, 6] (fun v i wr => ∃ k : Nat, k ≤ bs.length ∧ i = .int .i64 k ∧ wr.ownsRow w.heap.size 37 2 v (runsF (bs.take k)).length (flat (runsF (bs.take k))) ∧ Q w wr) (fun _ i _ => bs.length - (intOf i).toNat)
  case atStart => exact ⟨0, by omega, by go_num, World.ownsRow_nil _ _ _ _, Q.refl _⟩
  case round =>
    obtain ⟨k, hk, rfl, hown, hq⟩ := hrel
    have hrw := hr.q hq (Nat.le_refl _)
    have hsz := hq.size
    by_cases hlt : k < bs.length
    · obtain ⟨bb, o, x, rfl, hbb, hcx, hx, hg, ht⟩ := rd_byte hrw HS.out k hlt
      have hsn := runsF_snoc (bs.take k) x
      rw [← ht] at hsn
      have hln := runsF_length (bs.take k)
      have htl : (bs.take k).length = k := by simp; omega
      have hbd := expand_length_le (runsF (bs.take k))
      rw [expand_runsF, htl] at hbd
      rw [htl] at hln
      have hlt' : (k : Int) < (bs.length : Int) := by omega
      have HSN := hide hsn
      by_cases hk0 : k = 0
      · subst hk0
        have h0 : runsF (bs.take 0) = [] := rfl
        rw [h0] at hown HSN
        have HE : Hid (runsF (bs.take (0 + 1)) = [(x, 1)]) := hide (by rw [HSN.out]; rfl)
        clear h0 hbd hln HSN hsn ht htl hrw hg
        obtain ⟨Ao, co, eo, ho1, ho2, ho3, -⟩ := own_form hown
        subst eo
        clear ho3
        have hk0 : decide (((0 : Nat) : Int) > 0) = false := by simp
        simp only [Nat.add_zero] at hcx
        go_wp2_with fail
        have hxc := ext_cell
        refine wp_region_ext (by kernel_rfl) (by kernel_rfl) ?_
        repeat (go_big_quiet_step ((fail)))
        clear hxc
        refine wpQuiet_nil ?_
        intro wz hwwz
        have hqwz := q_of_ext hwwz
        clear hwwz
        obtain ⟨hcwz, hfwz, hzwz⟩ := hqwz.facts
        try simp at hzwz
        try have hs0wz : w.heap.size < wz.heap.size := by omega
        try have hs1wz : w.heap.size + 1 < wz.heap.size := by omega
        have hq2 := hq.trans hqwz
        have hown2 := own_q hown hqwz
        have hcx2 := (hcwz _ _ (by omega)).trans hcx
        clear hown hcwz hfwz hcx
        go_wp2_with (at_builtin; refine wpList_app1 rfl El_pair _ _ rfl rfl hown2 (by simp) rfl rfl ?_ ?_ ?_ ?_; (focus (simp [Value.oneCell'])); (focus simp); (focus omega); intro v1 w1 hown1 hb1)
        go_roundw
        case rel => exact ⟨1, by omega, by go_num, by rw [show (1 : Nat) = 0 + 1 from rfl, HE.out]; exact hown1, q_below hq2 hb1 (Nat.le_refl _)⟩
        case measure => simp [intOf] <;> omega
      · obtain ⟨ini, m, h0⟩ := runsF_last (bs.take (k - 1)) (bs.getD (k - 1) 0)
        obtain ⟨bb', o', y, e', hbb', hcy, hy, hg', ht'⟩ := rd_byte hrw HS.out (k - 1) (by omega)
        obtain ⟨rfl, rfl⟩ : bb = bb' ∧ o = o' := by simpa using e'
        rw [show k - 1 + 1 = k by omega] at ht'
        rw [show bs.getD (k - 1) 0 = y by simp [List.getD_eq_getElem?_getD, hg'], ← ht'] at h0
        generalize hb' : y = b at *
        clear hb'
        rw [h0] at hown hbd HSN hln
        have hm := hbd ini.length b m (by simp)
        obtain ⟨g1, g2⟩ := flat_snoc_get ini b m
        have hil : ini.length + 1 ≤ k := by simpa using hln
        have hll : (ini ++ [(b, m)]).length = ini.length + 1 := by simp
        rw [hll] at hown
        obtain ⟨gg, co, rfl, hgg, hgl, ho1, ho2, hcell, hfz⟩ := own_at hown (by omega)
        have hce1 := hcell _ _ g1
        have hce2 := hcell _ _ g2
        have hfz2 := hfz (ini.length * 2 + 1)
        have hk1 : decide (0 < k) = true := by simp; omega
        have hbw : bb < wr.heap.size := by omega
        have hk2 : ((k : Int) - 1).toNat = k - 1 := by omega
        have hk3 : (0 : Int) ≤ (k : Int) - 1 := by omega
        have hk4 : (k : Int) - 1 < (bs.length : Int) := by omega
        by_cases hbx : b = x
        · subst hbx
          have HE : Hid (runsF (bs.take (k + 1)) = ini ++ [(b, m + 1)]) := hide (by rw [HSN.out]; exact runS_same _ _ _)
          clear hcell hfz h0 hbd hln HSN g1 g2 hll hsn ht htl hrw hg hg' ht' e'
          go_wp2_with fail
          have hxc := ext_cell
          refine wp_region_ext (by kernel_rfl) (by kernel_rfl) ?_
          repeat (go_big_quiet_step ((fail)))
          clear hxc
          refine wpQuiet_nil ?_
          intro wz hwwz
          have hqwz := q_of_ext hwwz
          clear hwwz
          obtain ⟨hcwz, hfwz, hzwz⟩ := hqwz.facts
          try simp at hzwz
          try have hs0wz : w.heap.size < wz.heap.size := by omega
          try have hs1wz : w.heap.size + 1 < wz.heap.size := by omega
          have hq2 := hq.trans hqwz
          have hset := own_set (own_q hown hqwz) (ini.length * 2 + 1) (.int .i64 ((m + 1 : Nat) : Int))
          rw [flat_snoc_set] at hset
          have HSET := hide hset
          clear hset hown
          have hce12 := (hcwz _ _ hgl).trans hce1
          have hce22 := (hcwz _ _ hgl).trans hce2
          have hfz22 := (hfwz _ _ hgl).trans hfz2
          clear hcwz hfwz hce1 hce2 hfz2 hcx hcy
          go_wp2_with fail
          go_region
          go_wp2_with fail
          go_roundw
          case rel => exact ⟨k + 1, by omega, by go_num, by rw [HE.out]; simpa using HSET.out.drew, Q.drew (Q.set hq2 hgg _)⟩
          case measure => simp [intOf] <;> omega
        · have HE : Hid (runsF (bs.take (k + 1)) = (ini ++ [(b, m)]) ++ [(x, 1)]) := hide (by rw [HSN.out]; exact runS_new _ _ _ _ hbx)
          have hbx1 : ((x : Int) == (b : Int)) = false := by simp; omega
          clear hcell hfz h0 hbd hln HSN g1 g2 hll hsn ht htl hrw hg hg' ht' e'
          go_wp2_with fail
          have hxc := ext_cell
          refine wp_region_ext (by kernel_rfl) (by kernel_rfl) ?_
          repeat (go_big_quiet_step ((fail)))
          clear hxc
          refine wpQuiet_nil ?_
          intro wz hwwz
          have hqwz := q_of_ext hwwz
          clear hwwz
          obtain ⟨hcwz, hfwz, hzwz⟩ := hqwz.facts
          try simp at hzwz
          try have hs0wz : w.heap.size < wz.heap.size := by omega
          try have hs1wz : w.heap.size + 1 < wz.heap.size := by omega
          have hq2 := hq.trans hqwz
          have hown2 := own_q hown hqwz
          have hcx2 := (hcwz _ _ (by omega)).trans hcx
          clear hown hcwz hfwz hcx hce1 hce2 hfz2 hcy
          go_wp2_with (at_builtin; refine wpList_app1 rfl El_pair _ _ rfl rfl hown2 (by simp) rfl rfl ?_ ?_ ?_ ?_; (focus (simp [Value.oneCell'])); (focus omega); (focus omega); intro v1 w1 hown1 hb1)
          go_roundw
          case rel => exact ⟨k + 1, by omega, by go_num, by rw [HE.out, flat_append, List.length_append, List.length_append]; exact hown1, q_below hq2 hb1 (Nat.le_refl _)⟩
          case measure => simp [intOf] <;> omega
    · have ek : k = bs.length := by omega
      subst ek
      rw [List.take_length] at hown
      go_wp2_with fail
      go_ret2
      exact ⟨_, rfl, hown, hq⟩
end Go.Proofs.Ytfiopjgpokdnoaa
