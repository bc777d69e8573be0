/- Rows of 1 numbers: write. Rows of 2 numbers: write. Rows of 3 numbers: write. Conditions: as each theorem says. -/
import Derived.Test.YtdaklffbfadghaaGreatLsU5
namespace Go.Proofs.YtdaklffbfadghaaGreat
open Go.RowKit HP
set_option linter.unusedVariables false
set_option linter.unusedSimpArgs false
set_option maxHeartbeats 4000000 in
set_option maxRecDepth 100000 in
theorem write1_any {h : Hp} {r : Rw} {w : World} (L : LR w h r) (I : Inv h.m) (i : Nat) (hi : i < 64) {p : Int} (hp : r.ps[i / 4]? = some p) (hh : Has h.m p 32) (x0 : Int) :
    Calls Tryz.prog 92 #[r.ptr, .int .i64 i, .agg #[.int .i64 x0]] w fun e w' => ∃ m', e = .returned (.tuple #[]) ∧ LS w h r w' m' r ∧ Writing h.m m' p (((i % 4 * (8 * 1) : Nat)) : Int) [x0] (8 * 1) := by
  obtain ⟨hp0, hp1⟩ := hh.bounds I
  obtain ⟨xs, hxs⟩ : ∃ xs, xs = [x0] := ⟨_, rfl⟩
  have hxl : xs.length = 1 := by rw [hxs]; rfl
  have HAT : Hid (∀ W, Q w W → Calls Tryz.prog 110 #[r.ptr, .int .i64 i] W fun e w' => e = .returned (.int .i64 (p + ((i % 4 * 8 : Nat) : Int))) ∧ Q W w') := fun W hq => at1_any ((LDid.refl L).q hq).lr i hi hp hp0 hp1
  obtain ⟨off, ho⟩ : ∃ off : Nat, off = i % 4 * 8 := ⟨_, rfl⟩
  have ho1 : off < 96 := by omega
  have HST : Hid (∀ W bs m' k b v a, LB w h r W m' r bs → Writing h.m m' p (off : Int) xs (8 * k + b) → xs[k]? = some v → b < 8 → a = p + (off : Int) + ((8 * k + b : Nat) : Int) → Calls Tryz.prog 11 #[h.ptr, .int .i64 a, .int .i64 (byteN v b : Nat)] W fun e W' => ∃ x, e = .returned x ∧ ∃ m2, LB w h r W' m2 r bs ∧ Writing h.m m2 p (off : Int) xs (8 * k + (b + 1))) := fun W bs m' k b v a X hW hv hb8 ea => by
    have hk := (List.getElem?_eq_some_iff.1 hv).1
    have hs := hW.step hh (by omega) (by omega) (by omega)
    rw [byteR_kb hv hb8] at hs
    rw [ea]
    refine (lb_store X hW.inv _ _).mono ?_
    rintro e W' ⟨he, hX⟩
    exact ⟨_, he, _, hX, hs.2⟩
  have e8 : ((i % 4 * (8 * 1) : Nat) : Int) = (off : Int) := by omega
  rw [e8, ← hxs]
  rw [← ho] at HAT
  have HST0 : Hid (Writing h.m h.m p (off : Int) xs (8 * 0)) := Writing.start I p off xs
  obtain ⟨q, hq⟩ : ∃ q : Int, q = p + (off : Int) := ⟨_, rfl⟩
  rw [← hq] at HAT HST
  have hq0 : 0 ≤ q := by omega
  have hq1 : q < 5000 := by omega
  have HK0 : Hid (∀ W bs m', LB w h r W m' r bs → W.cell? ⟨r.blk, 0, none⟩ = some h.ptr ∧ r.blk < W.heap.size) := fun W bs m' X => ⟨X.ls.k0, X.ls.lt⟩
  have HX0 : Hid (LB w h r w h.m r []) := LB.start L
  have hlt := L.rlt r.blk (.inl rfl)
  obtain ⟨hptr, ehp⟩ : ∃ v, v = h.ptr := ⟨_, rfl⟩
  unfold Rw.ptr at *
  obtain ⟨b, eb⟩ : ∃ b, b = r.blk := ⟨_, rfl⟩
  rw [← eb] at HAT HK0 hlt ⊢
  rw [← ehp] at HK0 HST
  clear ehp
  have HXS := hide hxs
  have HRX : Hid ((intsV xs).toArray = #[.int .i64 x0]) := by rw [hxs]; rfl
  clear hp hp0 hp1 hh L I hq ho eb hxs e8
  go_enter Tryz.func92, Tryz.ntmps92
  go_wp2_with (go_at_call 110; refine (HAT.out _ ((Q.refl w).alloc _)).mono ?_; rintro e w2 ⟨rfl, hq2⟩; have HX2 := hide ((HX0.out.alloc #[.int .i64 x0] 126).q hq2); obtain ⟨hc2, hf2, hz2⟩ := hq2.facts)
  clear hc2 hf2 hz2 hq2
  go_loopw [15] (fun vi wr => ∃ (k : Nat) (m' : HM), k ≤ 1 ∧ vi = .int .i64 (k : Int) ∧ LB w h r wr m' r [(w.heap.size, (intsV xs).toArray, 126)] ∧ Writing h.m m' p (off : Int) xs (8 * k)) (fun vi _ => 1 - (intOf vi).toNat)
  case atStart => exact ⟨0, _, by omega, by go_num, by rw [HRX.out]; exact HX2.out, HST0.out⟩
  case round =>
    obtain ⟨k, m', hk, rfl, hX, hW⟩ := hrel
    have HX := hide hX
    have HW := hide hW
    clear hX hW
    by_cases hlt2 : k < 1
    · have hd1 : decide ((k : Int) < 1) = true := by simp; omega
      have hkT : (k : Int) < 1 := by omega
      obtain ⟨v, hv⟩ : ∃ v, xs[k]? = some v := ⟨xs[k], List.getElem?_eq_getElem (by omega)⟩
      have HV := hide hv
      have cK : wr.cell? ⟨w.heap.size, k, none⟩ = some (.int .i64 v) := by rw [HX.out.cell (List.Mem.head _) k]; unfold intsV; simp [hv]
      obtain ⟨z, hz⟩ : ∃ z : Int, z = ((wordN v : Nat) : Int) := ⟨_, rfl⟩
      have hwz : IntKind.u64.wrap v = z := by rw [hz]; exact wrap_word v
      clear hv
      go_wp2_with fail
      go_loopw [22] (fun vb wr => ∃ (d : Nat) (m' : HM), d ≤ 8 ∧ vb = .int .i64 (d : Int) ∧ LB w h r wr m' r [(w.heap.size, (intsV xs).toArray, 126)] ∧ Writing h.m m' p (off : Int) xs (8 * k + d)) (fun vb _ => 8 - (intOf vb).toNat)
      case atStart => exact ⟨0, m', by omega, by go_num, HX.out, HW.out⟩
      case round =>
        obtain ⟨d, m2, hd, rfl, hX3, hW3⟩ := hrel
        have HX3 := hide hX3
        have HW3 := hide hW3
        clear hX3 hW3
        by_cases hd8 : d < 8
        · have hd2 : decide ((d : Int) < 8) = true := by simp; omega
          have hdi : (d : Int) < 8 := by omega
          obtain ⟨c0, hbl⟩ := HK0.out _ _ _ HX3.out
          clear hz
          go_wp2_with fail
          have hxc := ext_cell
          refine Ri.wp_region_cut 16 (fun w1 => ∃ k, w1 = ext _ k) (by kernel_rfl) (by kernel_rfl) rfl rfl (ext_of_q (Q.drew (Q.refl _))) ?_
          simp only [List.take_succ_cons, List.take_zero, List.drop_succ_cons, List.drop_zero]
          repeat (go_big_quiet_step ((fail)))
          clear hxc
          refine wpQuiet_nil ?_
          intro w4 hww4
          have hqw4 := q_of_ext hww4
          clear hww4
          obtain ⟨hcw4, hfw4, hzw4⟩ := hqw4.facts
          try simp at hzw4
          have HX4 := hide (HX3.out.q hqw4)
          refine Ri.wp_callP #[hptr, .int .i64 (q + 8 * (k : Int) + (d : Int)), .int .i64 (byteN v d : Nat)] rfl (by simp [Act.eval, word_shr3]) Tryz.func11 (by kernel_rfl) (by kernel_rfl) ((HST.out _ _ _ k d v _ HX4.out HW3.out HV.out hd8 (by omega)).mono ?_)
          rintro e w5 ⟨x, rfl, m3, hX5, hW5⟩
          refine ⟨x, rfl, ?_⟩
          have HX5 := hide hX5
          have HW5 := hide hW5
          clear hX5 hW5 hcw4 hfw4 hzw4 hqw4
          refine ⟨fun w1 => ∃ k, w1 = ext _ k, ext_of_q (Q.refl _), ?_⟩
          try simp only [Act.put, List.setIfInBounds_toArray, List.set_cons_succ, List.set_cons_zero]
          have hxc := ext_cell
          repeat (go_big_quiet_step ((fail)))
          clear hxc
          refine wpQuiet_nil ?_
          intro w6 hww6
          have hqw6 := q_of_ext hww6
          clear hww6
          obtain ⟨hcw6, hfw6, hzw6⟩ := hqw6.facts
          try simp at hzw6
          have HX6 := hide (HX5.out.q hqw6)
          clear hcw6 hfw6 hzw6 hqw6
          go_wp2_with fail
          go_roundw
          case rel => exact ⟨d + 1, m3, by omega, by go_num, HX6.out, HW5.out⟩
          case measure => simp [intOf] <;> omega
        · have hd2 : decide ((d : Int) < 8) = false := by simp; omega
          obtain rfl : d = 8 := by omega
          go_wp2_with fail
          go_roundw
          case rel => exact ⟨k + 1, m2, by omega, by go_num, HX3.out, HW3.out⟩
          case measure => simp [intOf] <;> omega
    · have hd1 : decide ((k : Int) < 1) = false := by simp; omega
      obtain rfl : k = 1 := by omega
      go_wp2_with fail
      go_end0
      exact ⟨m', rfl, HX.out.ls, HW.out⟩
end Go.Proofs.YtdaklffbfadghaaGreat

namespace Go.Proofs.YtdaklffbfadghaaGreat
open Go.RowKit HP
set_option linter.unusedVariables false
set_option linter.unusedSimpArgs false
set_option maxHeartbeats 4000000 in
set_option maxRecDepth 100000 in
theorem write2_any {h : Hp} {r : Rw} {w : World} (L : LR w h r) (I : Inv h.m) (i : Nat) (hi : i < 64) {p : Int} (hp : r.ps[i / 4]? = some p) (hh : Has h.m p 64) (x0 x1 : Int) :
    Calls Tryz.prog 73 #[r.ptr, .int .i64 i, .agg #[.int .i64 x0, .int .i64 x1]] w fun e w' => ∃ m', e = .returned (.tuple #[]) ∧ LS w h r w' m' r ∧ Writing h.m m' p (((i % 4 * (8 * 2) : Nat)) : Int) [x0, x1] (8 * 2) := by
  obtain ⟨hp0, hp1⟩ := hh.bounds I
  obtain ⟨xs, hxs⟩ : ∃ xs, xs = [x0, x1] := ⟨_, rfl⟩
  have hxl : xs.length = 2 := by rw [hxs]; rfl
  have HAT : Hid (∀ W, Q w W → Calls Tryz.prog 103 #[r.ptr, .int .i64 i] W fun e w' => e = .returned (.int .i64 (p + ((i % 4 * 16 : Nat) : Int))) ∧ Q W w') := fun W hq => at2_any ((LDid.refl L).q hq).lr i hi hp hp0 hp1
  obtain ⟨off, ho⟩ : ∃ off : Nat, off = i % 4 * 16 := ⟨_, rfl⟩
  have ho1 : off < 96 := by omega
  have HST : Hid (∀ W bs m' k b v a, LB w h r W m' r bs → Writing h.m m' p (off : Int) xs (8 * k + b) → xs[k]? = some v → b < 8 → a = p + (off : Int) + ((8 * k + b : Nat) : Int) → Calls Tryz.prog 11 #[h.ptr, .int .i64 a, .int .i64 (byteN v b : Nat)] W fun e W' => ∃ x, e = .returned x ∧ ∃ m2, LB w h r W' m2 r bs ∧ Writing h.m m2 p (off : Int) xs (8 * k + (b + 1))) := fun W bs m' k b v a X hW hv hb8 ea => by
    have hk := (List.getElem?_eq_some_iff.1 hv).1
    have hs := hW.step hh (by omega) (by omega) (by omega)
    rw [byteR_kb hv hb8] at hs
    rw [ea]
    refine (lb_store X hW.inv _ _).mono ?_
    rintro e W' ⟨he, hX⟩
    exact ⟨_, he, _, hX, hs.2⟩
  have e8 : ((i % 4 * (8 * 2) : Nat) : Int) = (off : Int) := by omega
  rw [e8, ← hxs]
  rw [← ho] at HAT
  have HST0 : Hid (Writing h.m h.m p (off : Int) xs (8 * 0)) := Writing.start I p off xs
  obtain ⟨q, hq⟩ : ∃ q : Int, q = p + (off : Int) := ⟨_, rfl⟩
  rw [← hq] at HAT HST
  have hq0 : 0 ≤ q := by omega
  have hq1 : q < 5000 := by omega
  have HK0 : Hid (∀ W bs m', LB w h r W m' r bs → W.cell? ⟨r.blk, 0, none⟩ = some h.ptr ∧ r.blk < W.heap.size) := fun W bs m' X => ⟨X.ls.k0, X.ls.lt⟩
  have HX0 : Hid (LB w h r w h.m r []) := LB.start L
  have hlt := L.rlt r.blk (.inl rfl)
  obtain ⟨hptr, ehp⟩ : ∃ v, v = h.ptr := ⟨_, rfl⟩
  unfold Rw.ptr at *
  obtain ⟨b, eb⟩ : ∃ b, b = r.blk := ⟨_, rfl⟩
  rw [← eb] at HAT HK0 hlt ⊢
  rw [← ehp] at HK0 HST
  clear ehp
  have HXS := hide hxs
  have HRX : Hid ((intsV xs).toArray = #[.int .i64 x0, .int .i64 x1]) := by rw [hxs]; rfl
  clear hp hp0 hp1 hh L I hq ho eb hxs e8
  go_enter Tryz.func73, Tryz.ntmps73
  go_wp2_with (go_at_call 103; refine (HAT.out _ ((Q.refl w).alloc _)).mono ?_; rintro e w2 ⟨rfl, hq2⟩; have HX2 := hide ((HX0.out.alloc #[.int .i64 x0, .int .i64 x1] 64).q hq2); obtain ⟨hc2, hf2, hz2⟩ := hq2.facts)
  clear hc2 hf2 hz2 hq2
  go_loopw [15] (fun vi wr => ∃ (k : Nat) (m' : HM), k ≤ 2 ∧ vi = .int .i64 (k : Int) ∧ LB w h r wr m' r [(w.heap.size, (intsV xs).toArray, 64)] ∧ Writing h.m m' p (off : Int) xs (8 * k)) (fun vi _ => 2 - (intOf vi).toNat)
  case atStart => exact ⟨0, _, by omega, by go_num, by rw [HRX.out]; exact HX2.out, HST0.out⟩
  case round =>
    obtain ⟨k, m', hk, rfl, hX, hW⟩ := hrel
    have HX := hide hX
    have HW := hide hW
    clear hX hW
    by_cases hlt2 : k < 2
    · have hd1 : decide ((k : Int) < 2) = true := by simp; omega
      have hkT : (k : Int) < 2 := by omega
      obtain ⟨v, hv⟩ : ∃ v, xs[k]? = some v := ⟨xs[k], List.getElem?_eq_getElem (by omega)⟩
      have HV := hide hv
      have cK : wr.cell? ⟨w.heap.size, k, none⟩ = some (.int .i64 v) := by rw [HX.out.cell (List.Mem.head _) k]; unfold intsV; simp [hv]
      obtain ⟨z, hz⟩ : ∃ z : Int, z = ((wordN v : Nat) : Int) := ⟨_, rfl⟩
      have hwz : IntKind.u64.wrap v = z := by rw [hz]; exact wrap_word v
      clear hv
      go_wp2_with fail
      go_loopw [22] (fun vb wr => ∃ (d : Nat) (m' : HM), d ≤ 8 ∧ vb = .int .i64 (d : Int) ∧ LB w h r wr m' r [(w.heap.size, (intsV xs).toArray, 64)] ∧ Writing h.m m' p (off : Int) xs (8 * k + d)) (fun vb _ => 8 - (intOf vb).toNat)
      case atStart => exact ⟨0, m', by omega, by go_num, HX.out, HW.out⟩
      case round =>
        obtain ⟨d, m2, hd, rfl, hX3, hW3⟩ := hrel
        have HX3 := hide hX3
        have HW3 := hide hW3
        clear hX3 hW3
        by_cases hd8 : d < 8
        · have hd2 : decide ((d : Int) < 8) = true := by simp; omega
          have hdi : (d : Int) < 8 := by omega
          obtain ⟨c0, hbl⟩ := HK0.out _ _ _ HX3.out
          clear hz
          go_wp2_with fail
          have hxc := ext_cell
          refine Ri.wp_region_cut 16 (fun w1 => ∃ k, w1 = ext _ k) (by kernel_rfl) (by kernel_rfl) rfl rfl (ext_of_q (Q.drew (Q.refl _))) ?_
          simp only [List.take_succ_cons, List.take_zero, List.drop_succ_cons, List.drop_zero]
          repeat (go_big_quiet_step ((fail)))
          clear hxc
          refine wpQuiet_nil ?_
          intro w4 hww4
          have hqw4 := q_of_ext hww4
          clear hww4
          obtain ⟨hcw4, hfw4, hzw4⟩ := hqw4.facts
          try simp at hzw4
          have HX4 := hide (HX3.out.q hqw4)
          refine Ri.wp_callP #[hptr, .int .i64 (q + 8 * (k : Int) + (d : Int)), .int .i64 (byteN v d : Nat)] rfl (by simp [Act.eval, word_shr3]) Tryz.func11 (by kernel_rfl) (by kernel_rfl) ((HST.out _ _ _ k d v _ HX4.out HW3.out HV.out hd8 (by omega)).mono ?_)
          rintro e w5 ⟨x, rfl, m3, hX5, hW5⟩
          refine ⟨x, rfl, ?_⟩
          have HX5 := hide hX5
          have HW5 := hide hW5
          clear hX5 hW5 hcw4 hfw4 hzw4 hqw4
          refine ⟨fun w1 => ∃ k, w1 = ext _ k, ext_of_q (Q.refl _), ?_⟩
          try simp only [Act.put, List.setIfInBounds_toArray, List.set_cons_succ, List.set_cons_zero]
          have hxc := ext_cell
          repeat (go_big_quiet_step ((fail)))
          clear hxc
          refine wpQuiet_nil ?_
          intro w6 hww6
          have hqw6 := q_of_ext hww6
          clear hww6
          obtain ⟨hcw6, hfw6, hzw6⟩ := hqw6.facts
          try simp at hzw6
          have HX6 := hide (HX5.out.q hqw6)
          clear hcw6 hfw6 hzw6 hqw6
          go_wp2_with fail
          go_roundw
          case rel => exact ⟨d + 1, m3, by omega, by go_num, HX6.out, HW5.out⟩
          case measure => simp [intOf] <;> omega
        · have hd2 : decide ((d : Int) < 8) = false := by simp; omega
          obtain rfl : d = 8 := by omega
          go_wp2_with fail
          go_roundw
          case rel => exact ⟨k + 1, m2, by omega, by go_num, HX3.out, HW3.out⟩
          case measure => simp [intOf] <;> omega
    · have hd1 : decide ((k : Int) < 2) = false := by simp; omega
      obtain rfl : k = 2 := by omega
      go_wp2_with fail
      go_end0
      exact ⟨m', rfl, HX.out.ls, HW.out⟩
end Go.Proofs.YtdaklffbfadghaaGreat

namespace Go.Proofs.YtdaklffbfadghaaGreat
open Go.RowKit HP
set_option linter.unusedVariables false
set_option linter.unusedSimpArgs false
set_option maxHeartbeats 4000000 in
set_option maxRecDepth 100000 in
theorem write3_any {h : Hp} {r : Rw} {w : World} (L : LR w h r) (I : Inv h.m) (i : Nat) (hi : i < 64) {p : Int} (hp : r.ps[i / 4]? = some p) (hh : Has h.m p 96) (x0 x1 x2 : Int) :
    Calls Tryz.prog 80 #[r.ptr, .int .i64 i, .agg #[.int .i64 x0, .int .i64 x1, .int .i64 x2]] w fun e w' => ∃ m', e = .returned (.tuple #[]) ∧ LS w h r w' m' r ∧ Writing h.m m' p (((i % 4 * (8 * 3) : Nat)) : Int) [x0, x1, x2] (8 * 3) := by
  obtain ⟨hp0, hp1⟩ := hh.bounds I
  obtain ⟨xs, hxs⟩ : ∃ xs, xs = [x0, x1, x2] := ⟨_, rfl⟩
  have hxl : xs.length = 3 := by rw [hxs]; rfl
  have HAT : Hid (∀ W, Q w W → Calls Tryz.prog 107 #[r.ptr, .int .i64 i] W fun e w' => e = .returned (.int .i64 (p + ((i % 4 * 24 : Nat) : Int))) ∧ Q W w') := fun W hq => at3_any ((LDid.refl L).q hq).lr i hi hp hp0 hp1
  obtain ⟨off, ho⟩ : ∃ off : Nat, off = i % 4 * 24 := ⟨_, rfl⟩
  have ho1 : off < 96 := by omega
  have HST : Hid (∀ W bs m' k b v a, LB w h r W m' r bs → Writing h.m m' p (off : Int) xs (8 * k + b) → xs[k]? = some v → b < 8 → a = p + (off : Int) + ((8 * k + b : Nat) : Int) → Calls Tryz.prog 11 #[h.ptr, .int .i64 a, .int .i64 (byteN v b : Nat)] W fun e W' => ∃ x, e = .returned x ∧ ∃ m2, LB w h r W' m2 r bs ∧ Writing h.m m2 p (off : Int) xs (8 * k + (b + 1))) := fun W bs m' k b v a X hW hv hb8 ea => by
    have hk := (List.getElem?_eq_some_iff.1 hv).1
    have hs := hW.step hh (by omega) (by omega) (by omega)
    rw [byteR_kb hv hb8] at hs
    rw [ea]
    refine (lb_store X hW.inv _ _).mono ?_
    rintro e W' ⟨he, hX⟩
    exact ⟨_, he, _, hX, hs.2⟩
  have e8 : ((i % 4 * (8 * 3) : Nat) : Int) = (off : Int) := by omega
  rw [e8, ← hxs]
  rw [← ho] at HAT
  have HST0 : Hid (Writing h.m h.m p (off : Int) xs (8 * 0)) := Writing.start I p off xs
  obtain ⟨q, hq⟩ : ∃ q : Int, q = p + (off : Int) := ⟨_, rfl⟩
  rw [← hq] at HAT HST
  have hq0 : 0 ≤ q := by omega
  have hq1 : q < 5000 := by omega
  have HK0 : Hid (∀ W bs m', LB w h r W m' r bs → W.cell? ⟨r.blk, 0, none⟩ = some h.ptr ∧ r.blk < W.heap.size) := fun W bs m' X => ⟨X.ls.k0, X.ls.lt⟩
  have HX0 : Hid (LB w h r w h.m r []) := LB.start L
  have hlt := L.rlt r.blk (.inl rfl)
  obtain ⟨hptr, ehp⟩ : ∃ v, v = h.ptr := ⟨_, rfl⟩
  unfold Rw.ptr at *
  obtain ⟨b, eb⟩ : ∃ b, b = r.blk := ⟨_, rfl⟩
  rw [← eb] at HAT HK0 hlt ⊢
  rw [← ehp] at HK0 HST
  clear ehp
  have HXS := hide hxs
  have HRX : Hid ((intsV xs).toArray = #[.int .i64 x0, .int .i64 x1, .int .i64 x2]) := by rw [hxs]; rfl
  clear hp hp0 hp1 hh L I hq ho eb hxs e8
  go_enter Tryz.func80, Tryz.ntmps80
  go_wp2_with (go_at_call 107; refine (HAT.out _ ((Q.refl w).alloc _)).mono ?_; rintro e w2 ⟨rfl, hq2⟩; have HX2 := hide ((HX0.out.alloc #[.int .i64 x0, .int .i64 x1, .int .i64 x2] 135).q hq2); obtain ⟨hc2, hf2, hz2⟩ := hq2.facts)
  clear hc2 hf2 hz2 hq2
  go_loopw [15] (fun vi wr => ∃ (k : Nat) (m' : HM), k ≤ 3 ∧ vi = .int .i64 (k : Int) ∧ LB w h r wr m' r [(w.heap.size, (intsV xs).toArray, 135)] ∧ Writing h.m m' p (off : Int) xs (8 * k)) (fun vi _ => 3 - (intOf vi).toNat)
  case atStart => exact ⟨0, _, by omega, by go_num, by rw [HRX.out]; exact HX2.out, HST0.out⟩
  case round =>
    obtain ⟨k, m', hk, rfl, hX, hW⟩ := hrel
    have HX := hide hX
    have HW := hide hW
    clear hX hW
    by_cases hlt2 : k < 3
    · have hd1 : decide ((k : Int) < 3) = true := by simp; omega
      have hkT : (k : Int) < 3 := by omega
      obtain ⟨v, hv⟩ : ∃ v, xs[k]? = some v := ⟨xs[k], List.getElem?_eq_getElem (by omega)⟩
      have HV := hide hv
      have cK : wr.cell? ⟨w.heap.size, k, none⟩ = some (.int .i64 v) := by rw [HX.out.cell (List.Mem.head _) k]; unfold intsV; simp [hv]
      obtain ⟨z, hz⟩ : ∃ z : Int, z = ((wordN v : Nat) : Int) := ⟨_, rfl⟩
      have hwz : IntKind.u64.wrap v = z := by rw [hz]; exact wrap_word v
      clear hv
      go_wp2_with fail
      go_loopw [22] (fun vb wr => ∃ (d : Nat) (m' : HM), d ≤ 8 ∧ vb = .int .i64 (d : Int) ∧ LB w h r wr m' r [(w.heap.size, (intsV xs).toArray, 135)] ∧ Writing h.m m' p (off : Int) xs (8 * k + d)) (fun vb _ => 8 - (intOf vb).toNat)
      case atStart => exact ⟨0, m', by omega, by go_num, HX.out, HW.out⟩
      case round =>
        obtain ⟨d, m2, hd, rfl, hX3, hW3⟩ := hrel
        have HX3 := hide hX3
        have HW3 := hide hW3
        clear hX3 hW3
        by_cases hd8 : d < 8
        · have hd2 : decide ((d : Int) < 8) = true := by simp; omega
          have hdi : (d : Int) < 8 := by omega
          obtain ⟨c0, hbl⟩ := HK0.out _ _ _ HX3.out
          clear hz
          go_wp2_with fail
          have hxc := ext_cell
          refine Ri.wp_region_cut 16 (fun w1 => ∃ k, w1 = ext _ k) (by kernel_rfl) (by kernel_rfl) rfl rfl (ext_of_q (Q.drew (Q.refl _))) ?_
          simp only [List.take_succ_cons, List.take_zero, List.drop_succ_cons, List.drop_zero]
          repeat (go_big_quiet_step ((fail)))
          clear hxc
          refine wpQuiet_nil ?_
          intro w4 hww4
          have hqw4 := q_of_ext hww4
          clear hww4
          obtain ⟨hcw4, hfw4, hzw4⟩ := hqw4.facts
          try simp at hzw4
          have HX4 := hide (HX3.out.q hqw4)
          refine Ri.wp_callP #[hptr, .int .i64 (q + 8 * (k : Int) + (d : Int)), .int .i64 (byteN v d : Nat)] rfl (by simp [Act.eval, word_shr3]) Tryz.func11 (by kernel_rfl) (by kernel_rfl) ((HST.out _ _ _ k d v _ HX4.out HW3.out HV.out hd8 (by omega)).mono ?_)
          rintro e w5 ⟨x, rfl, m3, hX5, hW5⟩
          refine ⟨x, rfl, ?_⟩
          have HX5 := hide hX5
          have HW5 := hide hW5
          clear hX5 hW5 hcw4 hfw4 hzw4 hqw4
          refine ⟨fun w1 => ∃ k, w1 = ext _ k, ext_of_q (Q.refl _), ?_⟩
          try simp only [Act.put, List.setIfInBounds_toArray, List.set_cons_succ, List.set_cons_zero]
          have hxc := ext_cell
          repeat (go_big_quiet_step ((fail)))
          clear hxc
          refine wpQuiet_nil ?_
          intro w6 hww6
          have hqw6 := q_of_ext hww6
          clear hww6
          obtain ⟨hcw6, hfw6, hzw6⟩ := hqw6.facts
          try simp at hzw6
          have HX6 := hide (HX5.out.q hqw6)
          clear hcw6 hfw6 hzw6 hqw6
          go_wp2_with fail
          go_roundw
          case rel => exact ⟨d + 1, m3, by omega, by go_num, HX6.out, HW5.out⟩
          case measure => simp [intOf] <;> omega
        · have hd2 : decide ((d : Int) < 8) = false := by simp; omega
          obtain rfl : d = 8 := by omega
          go_wp2_with fail
          go_roundw
          case rel => exact ⟨k + 1, m2, by omega, by go_num, HX3.out, HW3.out⟩
          case measure => simp [intOf] <;> omega
    · have hd1 : decide ((k : Int) < 3) = false := by simp; omega
      obtain rfl : k = 3 := by omega
      go_wp2_with fail
      go_end0
      exact ⟨m', rfl, HX.out.ls, HW.out⟩
end Go.Proofs.YtdaklffbfadghaaGreat
