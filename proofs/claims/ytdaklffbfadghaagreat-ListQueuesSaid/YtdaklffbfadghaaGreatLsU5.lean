/- Rows of 1 numbers: size, at. Rows of 2 numbers: size, at. Rows of 3 numbers: size, at. Conditions: as each theorem says. -/
import Derived.Test.YtdaklffbfadghaaGreatLsN
namespace Go.Proofs.YtdaklffbfadghaaGreat
open Go.RowKit HP
set_option linter.unusedVariables false
set_option linter.unusedSimpArgs false
set_option maxHeartbeats 4000000 in
set_option maxRecDepth 100000 in
theorem size1_any (b : Nat) (w : World) : Calls Tryz.prog 128 #[.pointer (some ⟨b, 0, none⟩)] w fun e w' => e = .returned (.int .i64 8) ∧ Q w w' := by
  go_enter Tryz.func128, Tryz.ntmps128
  go_wp2_with fail
  go_ret
  exact ⟨rfl, (Q.refl w).alloc _⟩
set_option maxHeartbeats 4000000 in
set_option maxRecDepth 100000 in
theorem at1_any {h : Hp} {r : Rw} {w : World} (L : LR w h r) (i : Nat) (hi : i < 64) {p : Int} (hp : r.ps[i / 4]? = some p) (hp0 : 0 ≤ p) (hp1 : p ≤ 4096) :
    Calls Tryz.prog 110 #[r.ptr, .int .i64 i] w fun e w' => e = .returned (.int .i64 (p + ((i % 4 * 8 : Nat) : Int))) ∧ Q w w' := by
  obtain ⟨g, c, e1, c2, hg⟩ := (LS.start L).piece hp
  have c1 := L.k1
  rw [e1] at c1
  have hl := (List.getElem?_eq_some_iff.1 hp).1
  obtain ⟨n, hn⟩ : ∃ n, n = r.ps.length := ⟨_, rfl⟩
  rw [← hn] at c1 hl
  have hb := L.rlt r.blk (.inl rfl)
  unfold Rw.ptr
  obtain ⟨b, eb⟩ : ∃ b, b = r.blk := ⟨_, rfl⟩
  rw [← eb] at c1 hb ⊢
  obtain ⟨j, hj⟩ : ∃ j, j = i / 4 := ⟨_, rfl⟩
  obtain ⟨k, hk⟩ : ∃ k, k = i % 4 := ⟨_, rfl⟩
  rw [← hj] at c2 hl
  have hjn : (j : Int) < (n : Int) := by omega
  have hk4 : k < 4 := by omega
  have hj16 : j < 16 := by omega
  have e3 : ((i % 4 * 8 : Nat) : Int) = (k : Int) * 8 := by omega
  rw [e3]
  have hii : (i : Int) < 64 := by omega
  have hwj : wrap64 (j : Int) = (j : Int) := wrap_small _ (by omega)
  have hwk : wrap64 (k : Int) = (k : Int) := wrap_small _ (by omega)
  clear hj16
  have hq4 : Int.tdiv (i : Int) 4 = (j : Int) := by rw [hj]; rfl
  have hr4 : Int.tmod (i : Int) 4 = (k : Int) := by rw [hk]; rfl
  clear hn hp L e1 eb hj hk e3
  go_enter Tryz.func110, Tryz.ntmps110
  go_wp2_with fail
  have hxc := ext_cell
  refine wp_region_ext (by kernel_rfl) (by kernel_rfl) ?_
  repeat (go_big_quiet_step (((go_at_call 128; exact ext_call (size1_any _ _)))))
  clear hxc
  refine wpQuiet_nil ?_
  intro w1 hww1
  have hqw1 := q_of_ext hww1
  clear hww1
  obtain ⟨hcw1, hfw1, hzw1⟩ := hqw1.facts
  try simp at hzw1
  try have hs0w1 : w.heap.size < w1.heap.size := by omega
  try have hs1w1 : w.heap.size + 1 < w1.heap.size := by omega
  go_wp2_with fail
  go_ret
  exact ⟨by first | exact ret_int rfl | exact ret_int (wrap_at hp0 hp1 hk4 (by decide)), hqw1⟩
set_option maxHeartbeats 4000000 in
set_option maxRecDepth 100000 in
theorem read1_any {h : Hp} {r : Rw} {w : World} (L : LR w h r) (I : Inv h.m) (i : Nat) (hi : i < 64) {x0 : Int} (hr : RowIs h.m 1 r.ps i [x0]) (hb : ∀ v ∈ [x0], -9223372036854775808 ≤ v ∧ v ≤ 9223372036854775807) :
    Calls Tryz.prog 91 #[r.ptr, .int .i64 i] w fun e w' => e = .returned (.agg #[.int .i64 x0]) ∧ LS w h r w' h.m r := by
  obtain ⟨xs, hxs⟩ : ∃ xs, xs = [x0] := ⟨_, rfl⟩
  rw [← hxs] at hr hb
  obtain ⟨p, hp, hl, hp0, hp1⟩ := hr.place I (by decide)
  have HAT : Hid (∀ W, Q w W → Calls Tryz.prog 110 #[r.ptr, .int .i64 i] W fun e w' => e = .returned (.int .i64 (p + ((i % 4 * 8 : Nat) : Int))) ∧ Q W w') := fun W hq => at1_any ((LDid.refl L).q hq).lr i hi hp hp0 hp1
  have HLD : Hid (∀ W bs k b v a, LB w h r W h.m r bs → xs[k]? = some v → b < 8 → a = p + ((i % 4 * 8 : Nat) : Int) + ((8 * k + b : Nat) : Int) → Calls Tryz.prog 36 #[h.ptr, .int .i64 a] W fun e W' => e = .returned (.tuple #[.int .i64 (byteN v b : Nat), .int .i64 0]) ∧ LB w h r W' h.m r bs) := fun W bs k b v a X hv hb8 ea => by
    rw [ea]
    have := lb_load X I (p + ((i % 4 * 8 : Nat) : Int) + ((8 * k + b : Nat) : Int))
    rw [hr.load I hp hv hb8] at this
    exact this
  obtain ⟨off, ho⟩ : ∃ off : Nat, off = i % 4 * 8 := ⟨_, rfl⟩
  rw [← ho] at HAT HLD
  have ho1 : off < 96 := by omega
  obtain ⟨q, hq⟩ : ∃ q : Int, q = p + (off : Int) := ⟨_, rfl⟩
  rw [← hq] at HAT HLD
  have hq0 : 0 ≤ q := by omega
  have hq1 : q < 5000 := by omega
  have HK0 : Hid (∀ W bs, LB w h r W h.m r bs → W.cell? ⟨r.blk, 0, none⟩ = some h.ptr) := fun W bs X => X.ls.k0
  have HX0 : Hid (LB w h r w h.m r []) := LB.start L
  have hlt := L.rlt r.blk (.inl rfl)
  obtain ⟨hptr, ehp⟩ : ∃ v, v = h.ptr := ⟨_, rfl⟩
  unfold Rw.ptr at *
  obtain ⟨b, eb⟩ : ∃ b, b = r.blk := ⟨_, rfl⟩
  rw [← eb] at HAT HK0 hlt ⊢
  rw [← ehp] at HK0 HLD
  clear ehp
  have HXS := hide hxs
  have HR0 : Hid (rowC xs 0 = #[.int .i64 0]) := by rw [hxs]; rfl
  have HBD := hide hb
  clear hp hp0 hp1 hr hb L I hq ho eb hxs
  go_enter Tryz.func91, Tryz.ntmps91
  go_wp2_with (go_at_call 110; refine (HAT.out _ (((Q.refl w).alloc _).alloc _)).mono ?_; rintro e w2 ⟨rfl, hq2⟩; have HX2 := hide (((HX0.out.alloc #[.int .i64 0] 126).alloc #[.int .i64 0] 126).q hq2); obtain ⟨hc2, hf2, hz2⟩ := hq2.facts)
  clear hc2 hf2 hz2 hq2
  go_loopw [17] (fun vi wr => ∃ k : Nat, k ≤ 1 ∧ vi = .int .i64 (k : Int) ∧ LB w h r wr h.m r [(w.heap.size + 1, rowC xs k, 126), (w.heap.size, rowC xs 0, 126)]) (fun vi _ => 1 - (intOf vi).toNat)
  case atStart => exact ⟨0, by omega, by go_num, by rw [HR0.out]; have := HX2.out; simpa using this⟩
  case round =>
    obtain ⟨k, hk, rfl, hX⟩ := hrel
    have HX := hide hX
    clear hX
    by_cases hlt2 : k < 1
    · have hd1 : decide ((k : Int) < 1) = true := by simp; omega
      have hkT : (k : Int) < 1 := by omega
      obtain ⟨v, hv⟩ : ∃ v, xs[k]? = some v := ⟨xs[k], List.getElem?_eq_getElem (by omega)⟩
      have HV := hide hv
      clear hv
      go_wp2_with fail
      go_loopw [8, 20] (fun vn vb wr => ∃ d : Nat, d ≤ 8 ∧ vb = .int .i64 (d : Int) ∧ vn = .int .u64 ((wordN v % 2 ^ (8 * d) : Nat) : Int) ∧ LB w h r wr h.m r [(w.heap.size + 1, rowC xs k, 126), (w.heap.size, rowC xs 0, 126)]) (fun _ vb _ => 8 - (intOf vb).toNat)
      case atStart => exact ⟨0, by omega, by go_num, by simp [Nat.mod_one], HX.out⟩
      case round =>
        obtain ⟨d, hd, rfl, rfl, hX3⟩ := hrel
        have HX3 := hide hX3
        clear hX3
        by_cases hd8 : d < 8
        · have hd2 : decide ((d : Int) < 8) = true := by simp; omega
          have hdi : (d : Int) < 8 := by omega
          have c0 := HK0.out _ _ HX3.out
          go_wp2_with (go_at_call 36; refine (HLD.out _ _ k d v _ HX3.out HV.out hd8 (by omega)).mono ?_; rintro e w4 ⟨rfl, hX4⟩; have HX4 := hide hX4; clear hX4)
          go_roundw
          case rel => exact ⟨d + 1, by omega, by go_num, by rw [← word_or3 v hd8], HX4.out⟩
          case measure => simp [intOf] <;> omega
        · have hd2 : decide ((d : Int) < 8) = false := by simp; omega
          have hd9 : d = 8 := by omega
          have HWE := hide (word_end hd9 (HBD.out v (List.mem_of_getElem? HV.out)))
          obtain ⟨z, hz⟩ : ∃ z : Int, z = ((wordN v % 2 ^ (8 * d) : Nat) : Int) := ⟨_, rfl⟩
          rw [← hz] at HWE ⊢
          have hwz := HWE.out
          have cK : wr.cell? ⟨w.heap.size + 1, k, none⟩ = some (.int .i64 0) := by rw [HX3.out.cell (List.Mem.head _) k]; exact rowC_at (by omega)
          have fK := HX3.out.fz (List.Mem.head _) k
          clear hz hd9
          go_wp2_with fail
          go_roundw
          case rel => exact ⟨k + 1, by omega, by go_num, by have := HX3.out.put (k := 0) rfl k (.int .i64 v); rw [rowC_set HV.out] at this; exact this⟩
          case measure => simp [intOf] <;> omega
    · have hd1 : decide ((k : Int) < 1) = false := by simp; omega
      obtain rfl : k = 1 := by omega
      have eA : rowC xs 1 = #[.int .i64 x0] := by rw [HXS.out]; rfl
      have hmA : (w.heap.size + 1, rowC xs 1, 126) ∈ [(w.heap.size + 1, rowC xs 1, 126), (w.heap.size, rowC xs 0, 126)] := List.Mem.head _
      have hmB : (w.heap.size, rowC xs 0, 126) ∈ [(w.heap.size + 1, rowC xs 1, 126), (w.heap.size, rowC xs 0, 126)] := List.Mem.tail _ (List.Mem.head _)
      have cA0 : wr.cell? ⟨w.heap.size + 1, 0, none⟩ = some (.int .i64 x0) := by rw [HX.out.cell hmA 0, eA]; rfl
      have cB0 : wr.cell? ⟨w.heap.size, 0, none⟩ = some (.int .i64 0) := by rw [HX.out.cell hmB 0, HR0.out]; rfl
      have fB0 := HX.out.fz hmB 0
      clear hmA hmB eA
      have HE := hide ((HX.out.put (k := 1) rfl 0 (.int .i64 x0)))
      go_wp2_with fail
      have HG := HE.out.at_ (List.Mem.tail _ (List.Mem.head _))
      have eB : ((rowC xs 0).setIfInBounds 0 (.int .i64 x0)) = #[.int .i64 x0] := by rw [HR0.out]; rfl
      rw [eB] at HG
      refine bodyPost_ret (v := .agg #[.int .i64 x0]) (results_row1 rfl _ _ (w.heap.size) _ #[.int .i64 x0] (0, 0) _ rfl HG Tryz.underlying126 rfl (by kernel_rfl)) rfl ⟨rfl, HE.out.ls⟩
end Go.Proofs.YtdaklffbfadghaaGreat

namespace Go.Proofs.YtdaklffbfadghaaGreat
open Go.RowKit HP
set_option linter.unusedVariables false
set_option linter.unusedSimpArgs false
set_option maxHeartbeats 4000000 in
set_option maxRecDepth 100000 in
theorem size2_any (b : Nat) (w : World) : Calls Tryz.prog 125 #[.pointer (some ⟨b, 0, none⟩)] w fun e w' => e = .returned (.int .i64 16) ∧ Q w w' := by
  go_enter Tryz.func125, Tryz.ntmps125
  go_wp2_with fail
  go_ret
  exact ⟨rfl, (Q.refl w).alloc _⟩
set_option maxHeartbeats 4000000 in
set_option maxRecDepth 100000 in
theorem at2_any {h : Hp} {r : Rw} {w : World} (L : LR w h r) (i : Nat) (hi : i < 64) {p : Int} (hp : r.ps[i / 4]? = some p) (hp0 : 0 ≤ p) (hp1 : p ≤ 4096) :
    Calls Tryz.prog 103 #[r.ptr, .int .i64 i] w fun e w' => e = .returned (.int .i64 (p + ((i % 4 * 16 : Nat) : Int))) ∧ Q w w' := by
  obtain ⟨g, c, e1, c2, hg⟩ := (LS.start L).piece hp
  have c1 := L.k1
  rw [e1] at c1
  have hl := (List.getElem?_eq_some_iff.1 hp).1
  obtain ⟨n, hn⟩ : ∃ n, n = r.ps.length := ⟨_, rfl⟩
  rw [← hn] at c1 hl
  have hb := L.rlt r.blk (.inl rfl)
  unfold Rw.ptr
  obtain ⟨b, eb⟩ : ∃ b, b = r.blk := ⟨_, rfl⟩
  rw [← eb] at c1 hb ⊢
  obtain ⟨j, hj⟩ : ∃ j, j = i / 4 := ⟨_, rfl⟩
  obtain ⟨k, hk⟩ : ∃ k, k = i % 4 := ⟨_, rfl⟩
  rw [← hj] at c2 hl
  have hjn : (j : Int) < (n : Int) := by omega
  have hk4 : k < 4 := by omega
  have hj16 : j < 16 := by omega
  have e3 : ((i % 4 * 16 : Nat) : Int) = (k : Int) * 16 := by omega
  rw [e3]
  have hii : (i : Int) < 64 := by omega
  have hwj : wrap64 (j : Int) = (j : Int) := wrap_small _ (by omega)
  have hwk : wrap64 (k : Int) = (k : Int) := wrap_small _ (by omega)
  clear hj16
  have hq4 : Int.tdiv (i : Int) 4 = (j : Int) := by rw [hj]; rfl
  have hr4 : Int.tmod (i : Int) 4 = (k : Int) := by rw [hk]; rfl
  clear hn hp L e1 eb hj hk e3
  go_enter Tryz.func103, Tryz.ntmps103
  go_wp2_with fail
  have hxc := ext_cell
  refine wp_region_ext (by kernel_rfl) (by kernel_rfl) ?_
  repeat (go_big_quiet_step (((go_at_call 125; exact ext_call (size2_any _ _)))))
  clear hxc
  refine wpQuiet_nil ?_
  intro w1 hww1
  have hqw1 := q_of_ext hww1
  clear hww1
  obtain ⟨hcw1, hfw1, hzw1⟩ := hqw1.facts
  try simp at hzw1
  try have hs0w1 : w.heap.size < w1.heap.size := by omega
  try have hs1w1 : w.heap.size + 1 < w1.heap.size := by omega
  go_wp2_with fail
  go_ret
  exact ⟨by first | exact ret_int rfl | exact ret_int (wrap_at hp0 hp1 hk4 (by decide)), hqw1⟩
set_option maxHeartbeats 4000000 in
set_option maxRecDepth 100000 in
theorem read2_any {h : Hp} {r : Rw} {w : World} (L : LR w h r) (I : Inv h.m) (i : Nat) (hi : i < 64) {x0 x1 : Int} (hr : RowIs h.m 2 r.ps i [x0, x1]) (hb : ∀ v ∈ [x0, x1], -9223372036854775808 ≤ v ∧ v ≤ 9223372036854775807) :
    Calls Tryz.prog 72 #[r.ptr, .int .i64 i] w fun e w' => e = .returned (.agg #[.int .i64 x0, .int .i64 x1]) ∧ LS w h r w' h.m r := by
  obtain ⟨xs, hxs⟩ : ∃ xs, xs = [x0, x1] := ⟨_, rfl⟩
  rw [← hxs] at hr hb
  obtain ⟨p, hp, hl, hp0, hp1⟩ := hr.place I (by decide)
  have HAT : Hid (∀ W, Q w W → Calls Tryz.prog 103 #[r.ptr, .int .i64 i] W fun e w' => e = .returned (.int .i64 (p + ((i % 4 * 16 : Nat) : Int))) ∧ Q W w') := fun W hq => at2_any ((LDid.refl L).q hq).lr i hi hp hp0 hp1
  have HLD : Hid (∀ W bs k b v a, LB w h r W h.m r bs → xs[k]? = some v → b < 8 → a = p + ((i % 4 * 16 : Nat) : Int) + ((8 * k + b : Nat) : Int) → Calls Tryz.prog 36 #[h.ptr, .int .i64 a] W fun e W' => e = .returned (.tuple #[.int .i64 (byteN v b : Nat), .int .i64 0]) ∧ LB w h r W' h.m r bs) := fun W bs k b v a X hv hb8 ea => by
    rw [ea]
    have := lb_load X I (p + ((i % 4 * 16 : Nat) : Int) + ((8 * k + b : Nat) : Int))
    rw [hr.load I hp hv hb8] at this
    exact this
  obtain ⟨off, ho⟩ : ∃ off : Nat, off = i % 4 * 16 := ⟨_, rfl⟩
  rw [← ho] at HAT HLD
  have ho1 : off < 96 := by omega
  obtain ⟨q, hq⟩ : ∃ q : Int, q = p + (off : Int) := ⟨_, rfl⟩
  rw [← hq] at HAT HLD
  have hq0 : 0 ≤ q := by omega
  have hq1 : q < 5000 := by omega
  have HK0 : Hid (∀ W bs, LB w h r W h.m r bs → W.cell? ⟨r.blk, 0, none⟩ = some h.ptr) := fun W bs X => X.ls.k0
  have HX0 : Hid (LB w h r w h.m r []) := LB.start L
  have hlt := L.rlt r.blk (.inl rfl)
  obtain ⟨hptr, ehp⟩ : ∃ v, v = h.ptr := ⟨_, rfl⟩
  unfold Rw.ptr at *
  obtain ⟨b, eb⟩ : ∃ b, b = r.blk := ⟨_, rfl⟩
  rw [← eb] at HAT HK0 hlt ⊢
  rw [← ehp] at HK0 HLD
  clear ehp
  have HXS := hide hxs
  have HR0 : Hid (rowC xs 0 = #[.int .i64 0, .int .i64 0]) := by rw [hxs]; rfl
  have HBD := hide hb
  clear hp hp0 hp1 hr hb L I hq ho eb hxs
  go_enter Tryz.func72, Tryz.ntmps72
  go_wp2_with (go_at_call 103; refine (HAT.out _ (((Q.refl w).alloc _).alloc _)).mono ?_; rintro e w2 ⟨rfl, hq2⟩; have HX2 := hide (((HX0.out.alloc #[.int .i64 0, .int .i64 0] 64).alloc #[.int .i64 0, .int .i64 0] 64).q hq2); obtain ⟨hc2, hf2, hz2⟩ := hq2.facts)
  clear hc2 hf2 hz2 hq2
  go_loopw [17] (fun vi wr => ∃ k : Nat, k ≤ 2 ∧ vi = .int .i64 (k : Int) ∧ LB w h r wr h.m r [(w.heap.size + 1, rowC xs k, 64), (w.heap.size, rowC xs 0, 64)]) (fun vi _ => 2 - (intOf vi).toNat)
  case atStart => exact ⟨0, by omega, by go_num, by rw [HR0.out]; have := HX2.out; simpa using this⟩
  case round =>
    obtain ⟨k, hk, rfl, hX⟩ := hrel
    have HX := hide hX
    clear hX
    by_cases hlt2 : k < 2
    · have hd1 : decide ((k : Int) < 2) = true := by simp; omega
      have hkT : (k : Int) < 2 := by omega
      obtain ⟨v, hv⟩ : ∃ v, xs[k]? = some v := ⟨xs[k], List.getElem?_eq_getElem (by omega)⟩
      have HV := hide hv
      clear hv
      go_wp2_with fail
      go_loopw [8, 20] (fun vn vb wr => ∃ d : Nat, d ≤ 8 ∧ vb = .int .i64 (d : Int) ∧ vn = .int .u64 ((wordN v % 2 ^ (8 * d) : Nat) : Int) ∧ LB w h r wr h.m r [(w.heap.size + 1, rowC xs k, 64), (w.heap.size, rowC xs 0, 64)]) (fun _ vb _ => 8 - (intOf vb).toNat)
      case atStart => exact ⟨0, by omega, by go_num, by simp [Nat.mod_one], HX.out⟩
      case round =>
        obtain ⟨d, hd, rfl, rfl, hX3⟩ := hrel
        have HX3 := hide hX3
        clear hX3
        by_cases hd8 : d < 8
        · have hd2 : decide ((d : Int) < 8) = true := by simp; omega
          have hdi : (d : Int) < 8 := by omega
          have c0 := HK0.out _ _ HX3.out
          go_wp2_with (go_at_call 36; refine (HLD.out _ _ k d v _ HX3.out HV.out hd8 (by omega)).mono ?_; rintro e w4 ⟨rfl, hX4⟩; have HX4 := hide hX4; clear hX4)
          go_roundw
          case rel => exact ⟨d + 1, by omega, by go_num, by rw [← word_or3 v hd8], HX4.out⟩
          case measure => simp [intOf] <;> omega
        · have hd2 : decide ((d : Int) < 8) = false := by simp; omega
          have hd9 : d = 8 := by omega
          have HWE := hide (word_end hd9 (HBD.out v (List.mem_of_getElem? HV.out)))
          obtain ⟨z, hz⟩ : ∃ z : Int, z = ((wordN v % 2 ^ (8 * d) : Nat) : Int) := ⟨_, rfl⟩
          rw [← hz] at HWE ⊢
          have hwz := HWE.out
          have cK : wr.cell? ⟨w.heap.size + 1, k, none⟩ = some (.int .i64 0) := by rw [HX3.out.cell (List.Mem.head _) k]; exact rowC_at (by omega)
          have fK := HX3.out.fz (List.Mem.head _) k
          clear hz hd9
          go_wp2_with fail
          go_roundw
          case rel => exact ⟨k + 1, by omega, by go_num, by have := HX3.out.put (k := 0) rfl k (.int .i64 v); rw [rowC_set HV.out] at this; exact this⟩
          case measure => simp [intOf] <;> omega
    · have hd1 : decide ((k : Int) < 2) = false := by simp; omega
      obtain rfl : k = 2 := by omega
      have eA : rowC xs 2 = #[.int .i64 x0, .int .i64 x1] := by rw [HXS.out]; rfl
      have hmA : (w.heap.size + 1, rowC xs 2, 64) ∈ [(w.heap.size + 1, rowC xs 2, 64), (w.heap.size, rowC xs 0, 64)] := List.Mem.head _
      have hmB : (w.heap.size, rowC xs 0, 64) ∈ [(w.heap.size + 1, rowC xs 2, 64), (w.heap.size, rowC xs 0, 64)] := List.Mem.tail _ (List.Mem.head _)
      have cA0 : wr.cell? ⟨w.heap.size + 1, 0, none⟩ = some (.int .i64 x0) := by rw [HX.out.cell hmA 0, eA]; rfl
      have cB0 : wr.cell? ⟨w.heap.size, 0, none⟩ = some (.int .i64 0) := by rw [HX.out.cell hmB 0, HR0.out]; rfl
      have fB0 := HX.out.fz hmB 0
      have cA1 : wr.cell? ⟨w.heap.size + 1, 1, none⟩ = some (.int .i64 x1) := by rw [HX.out.cell hmA 1, eA]; rfl
      have cB1 : wr.cell? ⟨w.heap.size, 1, none⟩ = some (.int .i64 0) := by rw [HX.out.cell hmB 1, HR0.out]; rfl
      have fB1 := HX.out.fz hmB 1
      clear hmA hmB eA
      have HE := hide (((HX.out.put (k := 1) rfl 0 (.int .i64 x0)).put (k := 1) rfl 1 (.int .i64 x1)))
      go_wp2_with fail
      have HG := HE.out.at_ (List.Mem.tail _ (List.Mem.head _))
      have eB : (((rowC xs 0).setIfInBounds 0 (.int .i64 x0)).setIfInBounds 1 (.int .i64 x1)) = #[.int .i64 x0, .int .i64 x1] := by rw [HR0.out]; rfl
      rw [eB] at HG
      refine bodyPost_ret (v := .agg #[.int .i64 x0, .int .i64 x1]) (results_row1 rfl _ _ (w.heap.size) _ #[.int .i64 x0, .int .i64 x1] (0, 0) _ rfl HG Tryz.underlying64 rfl (by kernel_rfl)) rfl ⟨rfl, HE.out.ls⟩
end Go.Proofs.YtdaklffbfadghaaGreat

namespace Go.Proofs.YtdaklffbfadghaaGreat
open Go.RowKit HP
set_option linter.unusedVariables false
set_option linter.unusedSimpArgs false
set_option maxHeartbeats 4000000 in
set_option maxRecDepth 100000 in
theorem size3_any (b : Nat) (w : World) : Calls Tryz.prog 126 #[.pointer (some ⟨b, 0, none⟩)] w fun e w' => e = .returned (.int .i64 24) ∧ Q w w' := by
  go_enter Tryz.func126, Tryz.ntmps126
  go_wp2_with fail
  go_ret
  exact ⟨rfl, (Q.refl w).alloc _⟩
set_option maxHeartbeats 4000000 in
set_option maxRecDepth 100000 in
theorem at3_any {h : Hp} {r : Rw} {w : World} (L : LR w h r) (i : Nat) (hi : i < 64) {p : Int} (hp : r.ps[i / 4]? = some p) (hp0 : 0 ≤ p) (hp1 : p ≤ 4096) :
    Calls Tryz.prog 107 #[r.ptr, .int .i64 i] w fun e w' => e = .returned (.int .i64 (p + ((i % 4 * 24 : Nat) : Int))) ∧ Q w w' := by
  obtain ⟨g, c, e1, c2, hg⟩ := (LS.start L).piece hp
  have c1 := L.k1
  rw [e1] at c1
  have hl := (List.getElem?_eq_some_iff.1 hp).1
  obtain ⟨n, hn⟩ : ∃ n, n = r.ps.length := ⟨_, rfl⟩
  rw [← hn] at c1 hl
  have hb := L.rlt r.blk (.inl rfl)
  unfold Rw.ptr
  obtain ⟨b, eb⟩ : ∃ b, b = r.blk := ⟨_, rfl⟩
  rw [← eb] at c1 hb ⊢
  obtain ⟨j, hj⟩ : ∃ j, j = i / 4 := ⟨_, rfl⟩
  obtain ⟨k, hk⟩ : ∃ k, k = i % 4 := ⟨_, rfl⟩
  rw [← hj] at c2 hl
  have hjn : (j : Int) < (n : Int) := by omega
  have hk4 : k < 4 := by omega
  have hj16 : j < 16 := by omega
  have e3 : ((i % 4 * 24 : Nat) : Int) = (k : Int) * 24 := by omega
  rw [e3]
  have hii : (i : Int) < 64 := by omega
  have hwj : wrap64 (j : Int) = (j : Int) := wrap_small _ (by omega)
  have hwk : wrap64 (k : Int) = (k : Int) := wrap_small _ (by omega)
  clear hj16
  have hq4 : Int.tdiv (i : Int) 4 = (j : Int) := by rw [hj]; rfl
  have hr4 : Int.tmod (i : Int) 4 = (k : Int) := by rw [hk]; rfl
  clear hn hp L e1 eb hj hk e3
  go_enter Tryz.func107, Tryz.ntmps107
  go_wp2_with fail
  have hxc := ext_cell
  refine wp_region_ext (by kernel_rfl) (by kernel_rfl) ?_
  repeat (go_big_quiet_step (((go_at_call 126; exact ext_call (size3_any _ _)))))
  clear hxc
  refine wpQuiet_nil ?_
  intro w1 hww1
  have hqw1 := q_of_ext hww1
  clear hww1
  obtain ⟨hcw1, hfw1, hzw1⟩ := hqw1.facts
  try simp at hzw1
  try have hs0w1 : w.heap.size < w1.heap.size := by omega
  try have hs1w1 : w.heap.size + 1 < w1.heap.size := by omega
  go_wp2_with fail
  go_ret
  exact ⟨by first | exact ret_int rfl | exact ret_int (wrap_at hp0 hp1 hk4 (by decide)), hqw1⟩
set_option maxHeartbeats 4000000 in
set_option maxRecDepth 100000 in
theorem read3_any {h : Hp} {r : Rw} {w : World} (L : LR w h r) (I : Inv h.m) (i : Nat) (hi : i < 64) {x0 x1 x2 : Int} (hr : RowIs h.m 3 r.ps i [x0, x1, x2]) (hb : ∀ v ∈ [x0, x1, x2], -9223372036854775808 ≤ v ∧ v ≤ 9223372036854775807) :
    Calls Tryz.prog 81 #[r.ptr, .int .i64 i] w fun e w' => e = .returned (.agg #[.int .i64 x0, .int .i64 x1, .int .i64 x2]) ∧ LS w h r w' h.m r := by
  obtain ⟨xs, hxs⟩ : ∃ xs, xs = [x0, x1, x2] := ⟨_, rfl⟩
  rw [← hxs] at hr hb
  obtain ⟨p, hp, hl, hp0, hp1⟩ := hr.place I (by decide)
  have HAT : Hid (∀ W, Q w W → Calls Tryz.prog 107 #[r.ptr, .int .i64 i] W fun e w' => e = .returned (.int .i64 (p + ((i % 4 * 24 : Nat) : Int))) ∧ Q W w') := fun W hq => at3_any ((LDid.refl L).q hq).lr i hi hp hp0 hp1
  have HLD : Hid (∀ W bs k b v a, LB w h r W h.m r bs → xs[k]? = some v → b < 8 → a = p + ((i % 4 * 24 : Nat) : Int) + ((8 * k + b : Nat) : Int) → Calls Tryz.prog 36 #[h.ptr, .int .i64 a] W fun e W' => e = .returned (.tuple #[.int .i64 (byteN v b : Nat), .int .i64 0]) ∧ LB w h r W' h.m r bs) := fun W bs k b v a X hv hb8 ea => by
    rw [ea]
    have := lb_load X I (p + ((i % 4 * 24 : Nat) : Int) + ((8 * k + b : Nat) : Int))
    rw [hr.load I hp hv hb8] at this
    exact this
  obtain ⟨off, ho⟩ : ∃ off : Nat, off = i % 4 * 24 := ⟨_, rfl⟩
  rw [← ho] at HAT HLD
  have ho1 : off < 96 := by omega
  obtain ⟨q, hq⟩ : ∃ q : Int, q = p + (off : Int) := ⟨_, rfl⟩
  rw [← hq] at HAT HLD
  have hq0 : 0 ≤ q := by omega
  have hq1 : q < 5000 := by omega
  have HK0 : Hid (∀ W bs, LB w h r W h.m r bs → W.cell? ⟨r.blk, 0, none⟩ = some h.ptr) := fun W bs X => X.ls.k0
  have HX0 : Hid (LB w h r w h.m r []) := LB.start L
  have hlt := L.rlt r.blk (.inl rfl)
  obtain ⟨hptr, ehp⟩ : ∃ v, v = h.ptr := ⟨_, rfl⟩
  unfold Rw.ptr at *
  obtain ⟨b, eb⟩ : ∃ b, b = r.blk := ⟨_, rfl⟩
  rw [← eb] at HAT HK0 hlt ⊢
  rw [← ehp] at HK0 HLD
  clear ehp
  have HXS := hide hxs
  have HR0 : Hid (rowC xs 0 = #[.int .i64 0, .int .i64 0, .int .i64 0]) := by rw [hxs]; rfl
  have HBD := hide hb
  clear hp hp0 hp1 hr hb L I hq ho eb hxs
  go_enter Tryz.func81, Tryz.ntmps81
  go_wp2_with (go_at_call 107; refine (HAT.out _ (((Q.refl w).alloc _).alloc _)).mono ?_; rintro e w2 ⟨rfl, hq2⟩; have HX2 := hide (((HX0.out.alloc #[.int .i64 0, .int .i64 0, .int .i64 0] 135).alloc #[.int .i64 0, .int .i64 0, .int .i64 0] 135).q hq2); obtain ⟨hc2, hf2, hz2⟩ := hq2.facts)
  clear hc2 hf2 hz2 hq2
  go_loopw [17] (fun vi wr => ∃ k : Nat, k ≤ 3 ∧ vi = .int .i64 (k : Int) ∧ LB w h r wr h.m r [(w.heap.size + 1, rowC xs k, 135), (w.heap.size, rowC xs 0, 135)]) (fun vi _ => 3 - (intOf vi).toNat)
  case atStart => exact ⟨0, by omega, by go_num, by rw [HR0.out]; have := HX2.out; simpa using this⟩
  case round =>
    obtain ⟨k, hk, rfl, hX⟩ := hrel
    have HX := hide hX
    clear hX
    by_cases hlt2 : k < 3
    · have hd1 : decide ((k : Int) < 3) = true := by simp; omega
      have hkT : (k : Int) < 3 := by omega
      obtain ⟨v, hv⟩ : ∃ v, xs[k]? = some v := ⟨xs[k], List.getElem?_eq_getElem (by omega)⟩
      have HV := hide hv
      clear hv
      go_wp2_with fail
      go_loopw [8, 20] (fun vn vb wr => ∃ d : Nat, d ≤ 8 ∧ vb = .int .i64 (d : Int) ∧ vn = .int .u64 ((wordN v % 2 ^ (8 * d) : Nat) : Int) ∧ LB w h r wr h.m r [(w.heap.size + 1, rowC xs k, 135), (w.heap.size, rowC xs 0, 135)]) (fun _ vb _ => 8 - (intOf vb).toNat)
      case atStart => exact ⟨0, by omega, by go_num, by simp [Nat.mod_one], HX.out⟩
      case round =>
        obtain ⟨d, hd, rfl, rfl, hX3⟩ := hrel
        have HX3 := hide hX3
        clear hX3
        by_cases hd8 : d < 8
        · have hd2 : decide ((d : Int) < 8) = true := by simp; omega
          have hdi : (d : Int) < 8 := by omega
          have c0 := HK0.out _ _ HX3.out
          go_wp2_with (go_at_call 36; refine (HLD.out _ _ k d v _ HX3.out HV.out hd8 (by omega)).mono ?_; rintro e w4 ⟨rfl, hX4⟩; have HX4 := hide hX4; clear hX4)
          go_roundw
          case rel => exact ⟨d + 1, by omega, by go_num, by rw [← word_or3 v hd8], HX4.out⟩
          case measure => simp [intOf] <;> omega
        · have hd2 : decide ((d : Int) < 8) = false := by simp; omega
          have hd9 : d = 8 := by omega
          have HWE := hide (word_end hd9 (HBD.out v (List.mem_of_getElem? HV.out)))
          obtain ⟨z, hz⟩ : ∃ z : Int, z = ((wordN v % 2 ^ (8 * d) : Nat) : Int) := ⟨_, rfl⟩
          rw [← hz] at HWE ⊢
          have hwz := HWE.out
          have cK : wr.cell? ⟨w.heap.size + 1, k, none⟩ = some (.int .i64 0) := by rw [HX3.out.cell (List.Mem.head _) k]; exact rowC_at (by omega)
          have fK := HX3.out.fz (List.Mem.head _) k
          clear hz hd9
          go_wp2_with fail
          go_roundw
          case rel => exact ⟨k + 1, by omega, by go_num, by have := HX3.out.put (k := 0) rfl k (.int .i64 v); rw [rowC_set HV.out] at this; exact this⟩
          case measure => simp [intOf] <;> omega
    · have hd1 : decide ((k : Int) < 3) = false := by simp; omega
      obtain rfl : k = 3 := by omega
      have eA : rowC xs 3 = #[.int .i64 x0, .int .i64 x1, .int .i64 x2] := by rw [HXS.out]; rfl
      have hmA : (w.heap.size + 1, rowC xs 3, 135) ∈ [(w.heap.size + 1, rowC xs 3, 135), (w.heap.size, rowC xs 0, 135)] := List.Mem.head _
      have hmB : (w.heap.size, rowC xs 0, 135) ∈ [(w.heap.size + 1, rowC xs 3, 135), (w.heap.size, rowC xs 0, 135)] := List.Mem.tail _ (List.Mem.head _)
      have cA0 : wr.cell? ⟨w.heap.size + 1, 0, none⟩ = some (.int .i64 x0) := by rw [HX.out.cell hmA 0, eA]; rfl
      have cB0 : wr.cell? ⟨w.heap.size, 0, none⟩ = some (.int .i64 0) := by rw [HX.out.cell hmB 0, HR0.out]; rfl
      have fB0 := HX.out.fz hmB 0
      have cA1 : wr.cell? ⟨w.heap.size + 1, 1, none⟩ = some (.int .i64 x1) := by rw [HX.out.cell hmA 1, eA]; rfl
      have cB1 : wr.cell? ⟨w.heap.size, 1, none⟩ = some (.int .i64 0) := by rw [HX.out.cell hmB 1, HR0.out]; rfl
      have fB1 := HX.out.fz hmB 1
      have cA2 : wr.cell? ⟨w.heap.size + 1, 2, none⟩ = some (.int .i64 x2) := by rw [HX.out.cell hmA 2, eA]; rfl
      have cB2 : wr.cell? ⟨w.heap.size, 2, none⟩ = some (.int .i64 0) := by rw [HX.out.cell hmB 2, HR0.out]; rfl
      have fB2 := HX.out.fz hmB 2
      clear hmA hmB eA
      have HE := hide ((((HX.out.put (k := 1) rfl 0 (.int .i64 x0)).put (k := 1) rfl 1 (.int .i64 x1)).put (k := 1) rfl 2 (.int .i64 x2)))
      go_wp2_with fail
      have HG := HE.out.at_ (List.Mem.tail _ (List.Mem.head _))
      have eB : ((((rowC xs 0).setIfInBounds 0 (.int .i64 x0)).setIfInBounds 1 (.int .i64 x1)).setIfInBounds 2 (.int .i64 x2)) = #[.int .i64 x0, .int .i64 x1, .int .i64 x2] := by rw [HR0.out]; rfl
      rw [eB] at HG
      refine bodyPost_ret (v := .agg #[.int .i64 x0, .int .i64 x1, .int .i64 x2]) (results_row1 rfl _ _ (w.heap.size) _ #[.int .i64 x0, .int .i64 x1, .int .i64 x2] (0, 0) _ rfl HG Tryz.underlying135 rfl (by kernel_rfl)) rfl ⟨rfl, HE.out.ls⟩
end Go.Proofs.YtdaklffbfadghaaGreat
