/- counted, note. Conditions: the heap reads so, its numbers are within bounds. -/
import Derived.Test.YtdaklffbfadghaaGreatHpK
import Derived.Test.YtdaklffbfadghaaGreatBase
namespace Go.Proofs.YtdaklffbfadghaaGreat
open Go.RowKit HP
set_option linter.unusedVariables false
def countH (h : Hp) : Hp := { h with calls := h.calls + 1, failIn := if h.failIn = 0 then 0 else h.failIn - 1 }
def CountPost (w : World) (h : Hp) (e : Ending) (w' : World) : Prop := e = .returned (.bool (h.failIn == 1)) ∧ Did w h w' (countH h)
theorem Did.calls {w w1 : World} {h h1 : Hp} (a : Did w h w1 h1) (x : Int) : Did w h (w1.setCell ⟨h1.blk, 8, none⟩ (.int .i64 x)) { h1 with calls := x } := a.set 8 _ rfl rfl rfl rfl rfl rfl rfl
theorem Did.fails {w w1 : World} {h h1 : Hp} (a : Did w h w1 h1) (x : Int) : Did w h (w1.setCell ⟨h1.blk, 9, none⟩ (.int .i64 x)) { h1 with failIn := x } := a.set 9 _ rfl rfl rfl rfl rfl rfl rfl
theorem Did.peaks {w w1 : World} {h h1 : Hp} (a : Did w h w1 h1) (x : Int) : Did w h (w1.setCell ⟨h1.blk, 7, none⟩ (.int .i64 x)) { h1 with peak := x } := a.set 7 _ rfl rfl rfl rfl rfl rfl rfl
theorem Did.lock {w w1 : World} {h h1 : Hp} (a : Did w h w1 h1) (x : Int) : Did w h (w1.setCell ⟨h1.blk, 0, none⟩ (.int .i32 x)) { h1 with mu := x } := a.set 0 _ rfl rfl rfl rfl rfl rfl rfl
theorem counted_any (h : Hp) (w : World) (H : HpR w h) (hc : 0 ≤ h.calls ∧ h.calls ≤ 1000000000) (hf : 0 ≤ h.failIn ∧ h.failIn ≤ 1000) :
    Calls Tryz.prog 61 #[h.ptr] w (CountPost w h) := by
  have c8 : w.cell? ⟨h.blk, 8, none⟩ = some (.int .i64 h.calls) := by rw [H.cell 8]; rfl
  have c9 : w.cell? ⟨h.blk, 9, none⟩ = some (.int .i64 h.failIn) := by rw [H.cell 9]; rfl
  have f8 := H.free 8
  have f9 := H.free 9
  have HP0 : Hid (h.failIn = 0 → CountPost w h (.returned (.bool false)) (w.setCell ⟨h.blk, 8, none⟩ (.int .i64 (h.calls + 1)))) := fun e => by
    refine ⟨by rw [e]; rfl, ?_⟩
    have := (Did.refl H).calls (h.calls + 1)
    unfold countH
    rw [if_pos e]
    rw [e] at this
    exact this
  have HP1 : Hid (∀ b, ¬ h.failIn = 0 → (h.failIn == 1) = b → CountPost w h (.returned (.bool b)) ((w.setCell ⟨h.blk, 8, none⟩ (.int .i64 (h.calls + 1))).setCell ⟨h.blk, 9, none⟩ (.int .i64 (h.failIn - 1)))) := fun b e e1 => by
    refine ⟨by rw [e1], ?_⟩
    have := ((Did.refl H).calls (h.calls + 1)).fails (h.failIn - 1)
    unfold countH
    rw [if_neg e]
    exact this
  unfold Hp.ptr
  obtain ⟨g, hg⟩ : ∃ g, g = h.blk := ⟨_, rfl⟩
  obtain ⟨c, hc'⟩ : ∃ c, c = h.calls := ⟨_, rfl⟩
  obtain ⟨f, hf'⟩ : ∃ f, f = h.failIn := ⟨_, rfl⟩
  rw [← hg] at c8 c9 f8 f9 HP0 HP1 ⊢
  rw [← hc'] at c8 hc HP0 HP1
  rw [← hf'] at c9 hf HP0 HP1
  obtain ⟨hc0, hc1⟩ := hc
  obtain ⟨hf0, hf1⟩ := hf
  clear H hg hc' hf'
  by_cases h0 : f = 0
  · subst h0
    have HP := hide (HP0.out rfl)
    clear HP0 HP1
    go_enter Tryz.func61, Tryz.ntmps61
    go_wp2_with fail
    go_ret
    exact HP.out
  · have h1 : (f == 0) = false := by simpa using h0
    by_cases h2 : f = 1
    · subst h2
      have HP := hide (HP1.out true h0 rfl)
      clear HP0 HP1 h0
      go_enter Tryz.func61, Tryz.ntmps61
      go_wp2_with fail
      go_ret
      exact HP.out
    · have h3 : (f - 1 == 0) = false := by simp; omega
      have HP := hide (HP1.out false h0 (by simpa using h2))
      clear HP0 HP1
      go_enter Tryz.func61, Tryz.ntmps61
      go_wp2_with fail
      go_ret
      exact HP.out
def NotePost (w : World) (h : Hp) (e : Ending) (w' : World) : Prop := e = .returned (.tuple #[]) ∧ Did w h w' { h with peak := max h.peak (used (h.bks.map (·.pb))) }
set_option maxRecDepth 100000 in
theorem note_any (h : Hp) (w : World) (H : HpR w h) (hN : Near h.bks) : Calls Tryz.prog 64 #[h.ptr] w (NotePost w h) := by
  have c7 : w.cell? ⟨h.blk, 7, none⟩ = some (.int .i64 h.peak) := by rw [H.cell 7]; rfl
  have f7 := H.free 7
  have hb := blk_lt H.cells
  have HU : Hid (∀ W, Q w W → Calls Tryz.prog 65 #[.pointer (some ⟨h.blk, 4, none⟩)] W fun e w' => e = .returned (.int .i64 (used (h.bks.map (·.pb)))) ∧ Q W w') := fun W hW => used_any h W (H.q hW) hN
  have HD := hide H
  unfold Hp.ptr
  obtain ⟨g, hg⟩ : ∃ g, g = h.blk := ⟨_, rfl⟩
  obtain ⟨p, hp⟩ : ∃ p, p = h.peak := ⟨_, rfl⟩
  obtain ⟨u, hu⟩ : ∃ u, u = used (h.bks.map (·.pb)) := ⟨_, rfl⟩
  rw [← hg] at c7 f7 hb HU ⊢
  rw [← hp] at c7
  rw [← hu] at HU
  have HP : Hid (∀ W, Q w W → NotePost w h (.returned (.tuple #[])) (W.setCell ⟨g, 7, none⟩ (.int .i64 (max p u)))) := fun W hW => ⟨rfl, by rw [hu, hp, hg]; exact (Did.of_q HD.out hW).peaks _⟩
  clear hg hp hu H HD
  go_enter Tryz.func64, Tryz.ntmps64
  go_wp2_with fail
  refine Ri.made_last (Ri.phi [Ri.isV (.pointer (some ⟨g, 0, none⟩)), Ri.isV (.pointer (some ⟨g, 0, none⟩)), Ri.isV (.pointer (some ⟨g, 0, none⟩)), Ri.isV (.pointer (some ⟨g, 7, none⟩)), Ri.isV (.int .i64 p), Ri.isV (.pointer (some ⟨g, 0, none⟩)), Ri.isV (.pointer (some ⟨g, 0, none⟩)), Ri.isV (.pointer (some ⟨g, 4, none⟩)), Ri.isV (.int .i64 u), Ri.isV (.int .i64 (max p u)), Ri.isV (.pointer (some ⟨g, 0, none⟩)), Ri.isV (.pointer (some ⟨g, 7, none⟩))]) (by kernel_rfl) (by kernel_rfl) rfl (by kernel_rfl) rfl (Ri.phi_mono ?_) ?_ ?_
  · exact ⟨Ri.mono_isV _, Ri.mono_isV _, Ri.mono_isV _, Ri.mono_isV _, Ri.mono_isV _, Ri.mono_isV _, Ri.mono_isV _, Ri.mono_isV _, Ri.mono_isV _, Ri.mono_isV _, Ri.mono_isV _, Ri.mono_isV _, trivial⟩
  · refine Ri.All.cons ?_ (Ri.All.cons ?_ (Ri.All.cons ?_ (Ri.All.cons ?_ (Ri.All.cons ?_ (Ri.All.cons ?_ (Ri.All.cons ?_ (Ri.All.cons ?_ (Ri.All.cons ?_ (Ri.All.cons ?_ (Ri.All.cons ?_ (Ri.All.cons ?_ (Ri.All.nil))))))))))))
    · refine ⟨rfl, fun f W hq hf A hA hB hO => ?_⟩
      have e1 := (hB 0 (by kernel_rfl)).trans (show _ = .pointer (some ⟨g, 0, none⟩) by simp [Act.eval])
      exact Ri.wp_value _ (Ri.run_mv rfl e1) rfl
    · refine ⟨rfl, fun f W hq hf A hA hB hO => ?_⟩
      have e1 := (hB 0 (by kernel_rfl)).trans (show _ = .pointer (some ⟨g, 0, none⟩) by simp [Act.eval])
      exact Ri.wp_value _ (Ri.run_mv rfl e1) rfl
    · refine ⟨rfl, fun f W hq hf A hA hB hO => ?_⟩
      have e1 := (hA 3 1 (by kernel_rfl) (by simp)).trans (show f 1 = _ from hf 1 (by kernel_rfl))
      exact Ri.wp_value _ (Ri.run_nil rfl e1) rfl
    · refine ⟨rfl, fun f W hq hf A hA hB hO => ?_⟩
      have e1 := (hA 4 2 (by kernel_rfl) (by simp)).trans (show f 2 = _ from hf 2 (by kernel_rfl))
      exact Ri.wp_value _ (Ri.run_fld (f := _) rfl e1 Tryz.underlying94 rfl (sz := 0) (by kernel_rfl)) rfl
    · refine ⟨rfl, fun f W hq hf A hA hB hO => ?_⟩
      have e1 := (hA 5 3 (by kernel_rfl) (by simp)).trans (show f 3 = _ from hf 3 (by kernel_rfl))
      exact Ri.wp_value _ (Ri.run_ld1 rfl e1 Tryz.underlying3 rfl ((((Q.refl w).drew.trans hq).facts.1 g 7 hb).trans c7)) rfl
    · refine ⟨rfl, fun f W hq hf A hA hB hO => ?_⟩
      have e1 := (hB 0 (by kernel_rfl)).trans (show _ = .pointer (some ⟨g, 0, none⟩) by simp [Act.eval])
      exact Ri.wp_value _ (Ri.run_mv rfl e1) rfl
    · refine ⟨rfl, fun f W hq hf A hA hB hO => ?_⟩
      have e1 := (hA 7 5 (by kernel_rfl) (by simp)).trans (show f 5 = _ from hf 5 (by kernel_rfl))
      exact Ri.wp_value _ (Ri.run_nil rfl e1) rfl
    · refine ⟨rfl, fun f W hq hf A hA hB hO => ?_⟩
      have e1 := (hA 8 6 (by kernel_rfl) (by simp)).trans (show f 6 = _ from hf 6 (by kernel_rfl))
      exact Ri.wp_value _ (Ri.run_fld (f := _) rfl e1 Tryz.underlying94 rfl (sz := 1) (by kernel_rfl)) rfl
    · refine ⟨rfl, fun f W hq hf A hA hB hO => ?_⟩
      have e1 := (hA 9 7 (by kernel_rfl) (by simp)).trans (show f 7 = _ from hf 7 (by kernel_rfl))
      refine Ri.wp_call #[.pointer (some ⟨g, 4, none⟩)] rfl (by simp [e1]) Tryz.func65 (by kernel_rfl) (by kernel_rfl) ((HU.out W ((Q.refl w).drew.trans hq)).mono ?_)
      rintro e w3 ⟨rfl, hq3⟩
      exact ⟨_, rfl, hq3, rfl⟩
    · refine ⟨rfl, fun f W hq hf A hA hB hO => ?_⟩
      have e1 := (hA 6 4 (by kernel_rfl) (by simp)).trans (show f 4 = _ from hf 4 (by kernel_rfl))
      have e2 := (hA 10 8 (by kernel_rfl) (by simp)).trans (show f 8 = _ from hf 8 (by kernel_rfl))
      exact Ri.wp_value _ (Ri.run_maxi rfl e1 e2) rfl
    · refine ⟨rfl, fun f W hq hf A hA hB hO => ?_⟩
      have e1 := (hA 2 0 (by kernel_rfl) (by simp)).trans (show f 0 = _ from hf 0 (by kernel_rfl))
      exact Ri.wp_value _ (Ri.run_nil rfl e1) rfl
    · refine ⟨rfl, fun f W hq hf A hA hB hO => ?_⟩
      have e1 := (hA 12 10 (by kernel_rfl) (by simp)).trans (show f 10 = _ from hf 10 (by kernel_rfl))
      exact Ri.wp_value _ (Ri.run_fld (f := _) rfl e1 Tryz.underlying94 rfl (sz := 0) (by kernel_rfl)) rfl
  · intro f W hq hf A hAe hA hB
    have hqw : Q w W := hq
    have e1 := (hA 13 11 (by kernel_rfl) (by simp)).trans (show f 11 = _ from hf 11 (by simp))
    have e2 := (hA 11 9 (by kernel_rfl) (by simp)).trans (show f 9 = _ from hf 9 (by simp))
    have HP1 := hide (HP.out W hqw)
    refine Ri.wp_store rfl e1 e2 rfl (by kernel_rfl) rfl (by simp [Value.oneCell']) ((hqw.facts.1 g 7 hb).trans c7) ((hqw.facts.2.1 g 7 hb).trans f7) ?_
    rw [hAe]
    simp only [Ri.acts, Act.put]
    clear hf hA hB hAe e1 e2 hq HP
    go_wp2_with fail
    go_end0
    exact HP1.out
end Go.Proofs.YtdaklffbfadghaaGreat
