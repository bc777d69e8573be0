/- The walk of the law PackRuns. Conditions: the slice reads as bytes. -/
import Derived.Test.YtfiopjgpokdnoaaPackS
namespace Go.Proofs.Ytfiopjgpokdnoaa
open Go.RowKit PP
set_option linter.unusedVariables false
theorem expand_take (rs : List (Nat × Nat)) (j b k : Nat) (h : rs[j]? = some (b, k)) : expand (rs.take (j + 1)) = expand (rs.take j) ++ List.replicate k b := by
  obtain ⟨hj, e⟩ := List.getElem?_eq_some_iff.1 h
  rw [List.take_succ_eq_append_getElem hj, expand_append, e, expand_one]
theorem expand_take_le (rs : List (Nat × Nat)) (j : Nat) : (expand (rs.take j)).length ≤ (expand rs).length := by
  conv => rhs; rw [← List.take_append_drop j rs, expand_append, List.length_append]
  omega
theorem equalIn_int' (w : World) (d : Nat) (a b : Int) : (Op.equalIn (d + 1) 3 (.int .i64 a) (.int .i64 b)).run Try.prog w = .ok (a == b) w :=
  run_equalIn_int w d _ _ _ a b Try.underlying3
theorem equalIn_pair (w : World) (d : Nat) (a b : Int) : (Op.equalIn (d + 1 + 1) 37 (.agg #[.int .i64 a, .int .i64 b]) (.agg #[.int .i64 a, .int .i64 b])).run Try.prog w = .ok true w := by
  have hs : (sizeOf 3).run Try.prog w = .ok 1 w := by kernel_rfl
  have hp0 : (part 3 #[.int .i64 a, .int .i64 b] 0).run Try.prog w = .ok (.int .i64 a) w := by kernel_rfl
  have hp1 : (part 3 #[.int .i64 a, .int .i64 b] 1).run Try.prog w = .ok (.int .i64 b) w := by kernel_rfl
  have hq := equalIn_int' w d
  have hr : (List.range' 0 2 1) = [0, 1] := rfl
  unfold Op.equalIn
  simp [Sem.run_bind, run_underlying Try.underlying37, hs, Result.andThen, hp0, hp1, hq, hr]
theorem neq_pair (w : World) (a b : Int) : (binOp .neq 37 (.agg #[.int .i64 a, .int .i64 b]) (.agg #[.int .i64 a, .int .i64 b])).run Try.prog w = .ok (.bool false) w := by
  rw [run_neq_struct]
  rw [equalIn_pair w 9998 a b]
  rfl
theorem PackRuns_known (A : Option Addr) (n c : Nat) (w : World) (h3 : 20000 < n) : Calls Try.prog 6 #[.slice A n c] w fun e w' => e = .returned (.bool true) ∧ Q w w' := by
  have h2' : 20000 < (n : Int) := by omega
  go_enter Try.func6, Try.ntmps6
  go_wp2_with fail
  refine (known_any _).mono ?_
  rintro e w1 ⟨rfl, hq⟩
  go_wp2_with fail
  go_ret
  exact ⟨rfl, hq⟩
theorem PackRuns_main (A : Option Addr) (n c : Nat) (bs : List Nat) (w : World) (h : Bytes w A n c bs) (rs : List (Nat × Nat)) (er : Nat) (h3 : n ≤ 20000) (hex : er = 0 ∧ expand rs = bs ∨ er = 3) (hsm : ∀ i b k : Nat, rs[i]? = some (b, k) → b < 256)
    (hlr : rs.length ≤ 4096) (hle : (expand rs).length ≤ 4096)
    (c1 : ∀ w, Bytes w A n c bs → Calls Try.prog 22 #[.slice A n c] w (RunsPost w rs er)) (c2 : ∀ w, Bytes w A n c bs → Calls Try.prog 23 #[.slice A n c] w (RunsPost w rs er)) :
    Calls Try.prog 6 #[.slice A n c] w fun e w' => e = .returned (.bool true) ∧ Q w w' := by
  have C1 := hide c1
  have C2 := hide c2
  have hnp := neq_pair
  have H := hide h
  have HEX := hide hex
  have HSM := hide hsm
  have h3' : ¬ 20000 < (n : Int) := by omega
  have her : (er : Int) ≤ 3 := by omega
  clear c1 c2 h hex hsm
  go_enter Try.func6, Try.ntmps6
  go_wp2_with fail
  refine (C1.out _ H.out).mono ?_
  rintro e w1 ⟨v1, rfl, hown1, hq1⟩
  go_wp2_with fail
  refine (C2.out _ (H.out.up hq1)).mono ?_
  rintro e w2 ⟨v2, rfl, hown2, hq2⟩
  obtain ⟨A1, c1, rfl, h11, h12, h13, hr1⟩ := own_form hown1
  obtain ⟨A2, c2, rfl, h21, h22, h23, hr2⟩ := own_form hown2
  have R1 := hide (hr1.up hq2)
  have R2 := hide hr2
  have hq02 := hq1.trans hq2
  clear hown1 hown2 h13 h23 hr1 hr2
  go_wp2_with fail
  go_loopw [7, 8] (fun v i wr => ∃ j : Nat, j ≤ rs.length ∧ i = .int .i64 j ∧ wr.ownsRow w2.heap.size 5 1 v (expand (rs.take j)).length ((expand (rs.take j)).map byteV) ∧ Q w2 wr) (fun _ i _ => rs.length - (intOf i).toNat)
  case atStart => exact ⟨0, by omega, by go_num, World.ownsRow_nil _ _ _ _, Q.refl _⟩
  case round =>
    obtain ⟨j, hj, rfl, hown, hq⟩ := hrel
    have hsz := hq.size
    by_cases hlt : j < rs.length
    · have hlt' : (j : Int) < (rs.length : Int) := by omega
      obtain ⟨b, k, hg⟩ : ∃ b k, rs[j]? = some (b, k) := ⟨rs[j].1, rs[j].2, by simp [hlt]⟩
      obtain ⟨g1, g2⟩ := flat_get rs j b k hg
      have hb := HSM.out j b k hg
      have hxt := expand_take rs j b k hg
      have hxl := expand_take_le rs (j + 1)
      obtain ⟨b1, o1, e1, hb1, f1⟩ := R1.out.at_ (by rw [flat_length]; omega)
      obtain ⟨b2, o2, e2, hb2, f2⟩ := R2.out.at_ (by rw [flat_length]; omega)
      subst e1 e2
      have hF : ∀ W, Q w2 W → W.cell? ⟨b1, o1 + j * 2, none⟩ = some (.int .i64 (b : Nat)) ∧ W.cell? ⟨b1, o1 + j * 2 + 1, none⟩ = some (.int .i64 (k : Nat)) ∧ W.cell? ⟨b2, o2 + j * 2, none⟩ = some (.int .i64 (b : Nat)) ∧ W.cell? ⟨b2, o2 + j * 2 + 1, none⟩ = some (.int .i64 (k : Nat)) := fun W hW => by
        refine ⟨?_, ?_, ?_, ?_⟩
        · rw [hW.facts.1 _ _ hb1, f1 _ (by rw [flat_length]; omega), ← List.getElem?_eq_getElem, g1]
        · rw [hW.facts.1 _ _ hb1, Nat.add_assoc, f1 _ (by rw [flat_length]; omega), ← List.getElem?_eq_getElem, g2]
        · rw [hW.facts.1 _ _ hb2, f2 _ (by rw [flat_length]; omega), ← List.getElem?_eq_getElem, g1]
        · rw [hW.facts.1 _ _ hb2, Nat.add_assoc, f2 _ (by rw [flat_length]; omega), ← List.getElem?_eq_getElem, g2]
      obtain ⟨k11, k12, k21, k22⟩ := hF wr hq
      have hbw1 : b1 < wr.heap.size := by omega
      have hbw2 : b2 < wr.heap.size := by omega
      have hkl : k ≤ 4096 := by
        have : (expand (rs.take (j + 1))).length = (expand (rs.take j)).length + k := by rw [hxt]; simp
        omega
      have hel : (expand (rs.take j)).length + k ≤ 4096 := by
        have : (expand (rs.take (j + 1))).length = (expand (rs.take j)).length + k := by rw [hxt]; simp
        omega
      have HXT := hide hxt
      have HF := hide hF
      clear f1 f2 g1 g2 hg hxt hF hxl
      obtain ⟨X, hX⟩ : ∃ X, expand (rs.take j) = X := ⟨_, rfl⟩
      rw [hX] at hown HXT hel
      clear hX
      go_wp2_with fail
      have hxc := ext_cell
      refine wp_region_ext (by kernel_rfl) (by kernel_rfl) ?_
      repeat (go_big_quiet_step ((fail)))
      clear hxc
      refine wpQuiet_nil ?_
      intro wz hwwz
      have hqwz := q_of_ext hwwz
      clear hwwz
      obtain ⟨hcwz, hfwz, hzwz⟩ := hqwz.facts
      try simp at hzwz
      try have hs0wz : w.heap.size < wz.heap.size := by omega
      try have hs1wz : w.heap.size + 1 < wz.heap.size := by omega
      have hqz := hq.trans hqwz
      have hownz := own_q hown hqwz
      clear hown k11 k12 k21 k22 hcwz hfwz
      go_wp2_with fail
      go_loopw [7, 9] (fun v q wl => ∃ m : Nat, m ≤ k ∧ q = .int .i64 m ∧ wl.ownsRow w2.heap.size 5 1 v (X.length + m) ((X ++ List.replicate m b).map byteV) ∧ Q w2 wl) (fun _ q _ => k - (intOf q).toNat)
      case atStart => exact ⟨0, by omega, by go_num, by simpa using hownz, hqz⟩
      case round =>
        obtain ⟨m, hm, rfl, hownm, hqm⟩ := hrel
        have hszm := hqm.size
        obtain ⟨k11, k12, -, -⟩ := HF.out wr hqm
        have hkli : (k : Int) ≤ 4096 := by omega
        by_cases hlm : m < k
        · have hlm' : (m : Int) < (k : Int) := by omega
          have hmod : (b : Int) % 256 = b := by omega
          go_wp2_with (at_builtin; refine wpList_app1 rfl El_byte _ _ rfl rfl hownm (by simp) rfl rfl ?_ ?_ ?_ ?_; (focus (simp [Value.oneCell'])); (focus omega); (focus omega); intro v1 w4 hown4 hb4)
          go_roundw
          case rel => exact ⟨m + 1, by omega, by go_num, by rw [List.replicate_succ', ← List.append_assoc, List.map_append]; exact hown4, q_below hqm hb4 (Nat.le_refl _)⟩
          case measure => simp [intOf] <;> omega
        · have em : m = k := by omega
          subst em
          go_wp2_with fail
          go_roundw
          case rel => exact ⟨j + 1, by omega, by go_num, by rw [HXT.out, List.length_append, List.length_replicate]; exact hownm, hqm⟩
          case measure => simp [intOf] <;> omega
    · have ej : j = rs.length := by omega
      subst ej
      rw [List.take_length] at hown
      rcases HEX.out with ⟨rfl, hx⟩ | rfl
      · rw [hx] at hown
        obtain ⟨A3, c3, rfl, h31, h32, h33, hr3⟩ := own_form hown
        have HB := H.out.up ((hq1.trans hq2).trans hq)
        have k1 := conv_rd Try.underlying22 Try.underlying5 Try.underlying9 hr3 HB.small bs.length c3 rfl
        have k2 := conv_rd Try.underlying22 Try.underlying5 Try.underlying9 HB.rd HB.small n c HB.len
        clear hown h33 hr3 h31 h32 HB hx
        go_wp2_with fail
        refine (known_any _).mono ?_
        rintro e w5 ⟨rfl, hq5⟩
        go_wp2_with fail
        go_ret
        exact ⟨rfl, ((hq1.trans hq2).trans hq).trans hq5⟩
      · obtain ⟨A3, c3, rfl, h31, h32, h33, hr3⟩ := own_form hown
        clear hown h33 hr3 h31 h32
        go_wp2_with fail
        refine (known_any _).mono ?_
        rintro e w5 ⟨rfl, hq5⟩
        go_wp2_with fail
        go_ret
        exact ⟨rfl, ((hq1.trans hq2).trans hq).trans hq5⟩
theorem PackRuns_true (A : Option Addr) (n c : Nat) (bs : List Nat) (w : World) (h : Bytes w A n c bs) : Calls Try.prog 6 #[.slice A n c] w fun e w' => e = .returned (.bool true) ∧ Q w w' := by
  by_cases h3 : 20000 < n
  · exact PackRuns_known A n c w h3
  · by_cases h4 : n ≤ 4096
    · have hl := runsF_length bs
      have hln := h.len
      exact PackRuns_main A n c bs w h (runsF bs) 0 (by omega) (.inl ⟨rfl, expand_runsF bs⟩) (fun i b k hg => runsF_small bs h.small i b k hg (runsF_pos bs i b k hg)) (by omega) (by rw [expand_runsF]; omega)
        (fun w hb => Runs_any A n c bs w hb h4) (fun w hb => rRuns_any A n c bs w hb h4)
    · exact PackRuns_main A n c bs w h [] 3 (by omega) (.inr rfl) (fun i b k hg => by simp at hg) (by simp) (by simp [expand])
        (fun w hb => Runs_big A n c w (by omega)) (fun w hb => rRuns_big A n c w (by omega))
end Go.Proofs.Ytfiopjgpokdnoaa
