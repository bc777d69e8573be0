/- Rows of 1 numbers: size, at. Rows of 2 numbers: size, at. Rows of 3 numbers: size, at. Rows of 1 numbers: write. Rows of 2 numbers: write. Rows of 3 numbers: write. Append of one element to an own row: the new row lies where the old one did, or is new. Rows of 1 numbers: grow, drop. Rows of 2 numbers: grow, drop. Rows of 3 numbers: grow, drop. Conditions: as each theorem says. -/
import Derived.Test.YtdaklffbfadghaaGreatTm7
import Derived.Test.YtdaklffbfadghaaGreatTm1
import Derived.Maps.AppendAt
namespace Go.Proofs.YtdaklffbfadghaaGreat
open Go.RowKit HP
set_option linter.unusedVariables false
set_option linter.unusedSimpArgs false
set_option maxHeartbeats 4000000 in
set_option maxRecDepth 100000 in
theorem size1_any (b : Nat) (w : World) : Calls Tryz.prog 128 #[.pointer (some ⟨b, 0, none⟩)] w fun e w' => e = .returned (.int .i64 8) ∧ Q w w' := by
  go_enter Tryz.func128, Tryz.ntmps128
  go_wp2_with fail
  go_ret
  exact ⟨rfl, (Q.refl w).alloc _⟩
set_option maxHeartbeats 4000000 in
set_option maxRecDepth 100000 in
theorem at1_any {h : Hp} {r : Rw} {w : World} (L : LR w h r) (i : Nat) (hi : i < 64) {p : Int} (hp : r.ps[i / 4]? = some p) (hp0 : 0 ≤ p) (hp1 : p ≤ 4096) :
    Calls Tryz.prog 110 #[r.ptr, .int .i64 i] w fun e w' => e = .returned (.int .i64 (p + ((i % 4 * 8 : Nat) : Int))) ∧ Q w w' := by
  obtain ⟨g, c, e1, c2, hg⟩ := (LS.start L).piece hp
  have c1 := L.k1
  rw [e1] at c1
  have hl := (List.getElem?_eq_some_iff.1 hp).1
  obtain ⟨n, hn⟩ : ∃ n, n = r.ps.length := ⟨_, rfl⟩
  rw [← hn] at c1 hl
  have hb := L.rlt r.blk (.inl rfl)
  unfold Rw.ptr
  obtain ⟨b, eb⟩ : ∃ b, b = r.blk := ⟨_, rfl⟩
  rw [← eb] at c1 hb ⊢
  obtain ⟨j, hj⟩ : ∃ j, j = i / 4 := ⟨_, rfl⟩
  obtain ⟨k, hk⟩ : ∃ k, k = i % 4 := ⟨_, rfl⟩
  rw [← hj] at c2 hl
  have hjn : (j : Int) < (n : Int) := by omega
  have hk4 : k < 4 := by omega
  have hj16 : j < 16 := by omega
  have e3 : ((i % 4 * 8 : Nat) : Int) = (k : Int) * 8 := by omega
  rw [e3]
  have hii : (i : Int) < 64 := by omega
  have hwj : wrap64 (j : Int) = (j : Int) := wrap_small _ (by omega)
  have hwk : wrap64 (k : Int) = (k : Int) := wrap_small _ (by omega)
  clear hj16
  have hq4 : Int.tdiv (i : Int) 4 = (j : Int) := by rw [hj]; rfl
  have hr4 : Int.tmod (i : Int) 4 = (k : Int) := by rw [hk]; rfl
  clear hn hp L e1 eb hj hk e3
  go_enter Tryz.func110, Tryz.ntmps110
  go_wp2_with fail
  have hxc := ext_cell
  refine wp_region_ext (by kernel_rfl) (by kernel_rfl) ?_
  repeat (go_big_quiet_step (((go_at_call 128; exact ext_call (size1_any _ _)))))
  clear hxc
  refine wpQuiet_nil ?_
  intro w1 hww1
  have hqw1 := q_of_ext hww1
  clear hww1
  obtain ⟨hcw1, hfw1, hzw1⟩ := hqw1.facts
  try simp at hzw1
  try have hs0w1 : w.heap.size < w1.heap.size := by omega
  try have hs1w1 : w.heap.size + 1 < w1.heap.size := by omega
  go_wp2_with fail
  go_ret
  exact ⟨by first | exact ret_int rfl | exact ret_int (wrap_at hp0 hp1 hk4 (by decide)), hqw1⟩
set_option maxHeartbeats 4000000 in
set_option maxRecDepth 100000 in
theorem read1_any {h : Hp} {r : Rw} {w : World} (L : LR w h r) (I : Inv h.m) (i : Nat) (hi : i < 64) {x0 : Int} (hr : RowIs h.m 1 r.ps i [x0]) (hb : ∀ v ∈ [x0], -9223372036854775808 ≤ v ∧ v ≤ 9223372036854775807) :
    Calls Tryz.prog 91 #[r.ptr, .int .i64 i] w fun e w' => e = .returned (.agg #[.int .i64 x0]) ∧ LS w h r w' h.m r := by
  obtain ⟨xs, hxs⟩ : ∃ xs, xs = [x0] := ⟨_, rfl⟩
  rw [← hxs] at hr hb
  obtain ⟨p, hp, hl, hp0, hp1⟩ := hr.place I (by decide)
  have HAT : Hid (∀ W, Q w W → Calls Tryz.prog 110 #[r.ptr, .int .i64 i] W fun e w' => e = .returned (.int .i64 (p + ((i % 4 * 8 : Nat) : Int))) ∧ Q W w') := fun W hq => at1_any ((LDid.refl L).q hq).lr i hi hp hp0 hp1
  have HLD : Hid (∀ W bs k b v a, LB w h r W h.m r bs → xs[k]? = some v → b < 8 → a = p + ((i % 4 * 8 : Nat) : Int) + ((8 * k + b : Nat) : Int) → Calls Tryz.prog 36 #[h.ptr, .int .i64 a] W fun e W' => e = .returned (.tuple #[.int .i64 (byteN v b : Nat), .int .i64 0]) ∧ LB w h r W' h.m r bs) := fun W bs k b v a X hv hb8 ea => by
    rw [ea]
    have := lb_load X I (p + ((i % 4 * 8 : Nat) : Int) + ((8 * k + b : Nat) : Int))
    rw [hr.load I hp hv hb8] at this
    exact this
  obtain ⟨off, ho⟩ : ∃ off : Nat, off = i % 4 * 8 := ⟨_, rfl⟩
  rw [← ho] at HAT HLD
  have ho1 : off < 96 := by omega
  obtain ⟨q, hq⟩ : ∃ q : Int, q = p + (off : Int) := ⟨_, rfl⟩
  rw [← hq] at HAT HLD
  have hq0 : 0 ≤ q := by omega
  have hq1 : q < 5000 := by omega
  have HK0 : Hid (∀ W bs, LB w h r W h.m r bs → W.cell? ⟨r.blk, 0, none⟩ = some h.ptr) := fun W bs X => X.ls.k0
  have HX0 : Hid (LB w h r w h.m r []) := LB.start L
  have hlt := L.rlt r.blk (.inl rfl)
  obtain ⟨hptr, ehp⟩ : ∃ v, v = h.ptr := ⟨_, rfl⟩
  unfold Rw.ptr at *
  obtain ⟨b, eb⟩ : ∃ b, b = r.blk := ⟨_, rfl⟩
  rw [← eb] at HAT HK0 hlt ⊢
  rw [← ehp] at HK0 HLD
  clear ehp
  have HXS := hide hxs
  have HR0 : Hid (rowC xs 0 = #[.int .i64 0]) := by rw [hxs]; rfl
  have HBD := hide hb
  clear hp hp0 hp1 hr hb L I hq ho eb hxs
  go_enter Tryz.func91, Tryz.ntmps91
  go_wp2_with (go_at_call 110; refine (HAT.out _ (((Q.refl w).alloc _).alloc _)).mono ?_; rintro e w2 ⟨rfl, hq2⟩; have HX2 := hide (((HX0.out.alloc #[.int .i64 0] 126).alloc #[.int .i64 0] 126).q hq2); obtain ⟨hc2, hf2, hz2⟩ := hq2.facts)
  clear hc2 hf2 hz2 hq2
  go_loopw [17] (fun vi wr => ∃ k : Nat, k ≤ 1 ∧ vi = .int .i64 (k : Int) ∧ LB w h r wr h.m r [(w.heap.size + 1, rowC xs k, 126), (w.heap.size, rowC xs 0, 126)]) (fun vi _ => 1 - (intOf vi).toNat)
  case atStart => exact ⟨0, by omega, by go_num, by rw [HR0.out]; have := HX2.out; simpa using this⟩
  case round =>
    obtain ⟨k, hk, rfl, hX⟩ := hrel
    have HX := hide hX
    clear hX
    by_cases hlt2 : k < 1
    · have hd1 : decide ((k : Int) < 1) = true := by simp; omega
      have hkT : (k : Int) < 1 := by omega
      obtain ⟨v, hv⟩ : ∃ v, xs[k]? = some v := ⟨xs[k], List.getElem?_eq_getElem (by omega)⟩
      have HV := hide hv
      clear hv
      go_wp2_with fail
      go_loopw [8, 20] (fun vn vb wr => ∃ d : Nat, d ≤ 8 ∧ vb = .int .i64 (d : Int) ∧ vn = .int .u64 ((wordN v % 2 ^ (8 * d) : Nat) : Int) ∧ LB w h r wr h.m r [(w.heap.size + 1, rowC xs k, 126), (w.heap.size, rowC xs 0, 126)]) (fun _ vb _ => 8 - (intOf vb).toNat)
      case atStart => exact ⟨0, by omega, by go_num, by simp [Nat.mod_one], HX.out⟩
      case round =>
        obtain ⟨d, hd, rfl, rfl, hX3⟩ := hrel
        have HX3 := hide hX3
        clear hX3
        by_cases hd8 : d < 8
        · have hd2 : decide ((d : Int) < 8) = true := by simp; omega
          have hdi : (d : Int) < 8 := by omega
          have c0 := HK0.out _ _ HX3.out
          go_wp2_with (go_at_call 36; refine (HLD.out _ _ k d v _ HX3.out HV.out hd8 (by omega)).mono ?_; rintro e w4 ⟨rfl, hX4⟩; have HX4 := hide hX4; clear hX4)
          go_roundw
          case rel => exact ⟨d + 1, by omega, by go_num, by rw [← word_or3 v hd8], HX4.out⟩
          case measure => simp [intOf] <;> omega
        · have hd2 : decide ((d : Int) < 8) = false := by simp; omega
          have hd9 : d = 8 := by omega
          have HWE := hide (word_end hd9 (HBD.out v (List.mem_of_getElem? HV.out)))
          obtain ⟨z, hz⟩ : ∃ z : Int, z = ((wordN v % 2 ^ (8 * d) : Nat) : Int) := ⟨_, rfl⟩
          rw [← hz] at HWE ⊢
          have hwz := HWE.out
          have cK : wr.cell? ⟨w.heap.size + 1, k, none⟩ = some (.int .i64 0) := by rw [HX3.out.cell (List.Mem.head _) k]; exact rowC_at (by omega)
          have fK := HX3.out.fz (List.Mem.head _) k
          clear hz hd9
          go_wp2_with fail
          go_roundw
          case rel => exact ⟨k + 1, by omega, by go_num, by have := HX3.out.put (k := 0) rfl k (.int .i64 v); rw [rowC_set HV.out] at this; exact this⟩
          case measure => simp [intOf] <;> omega
    · have hd1 : decide ((k : Int) < 1) = false := by simp; omega
      obtain rfl : k = 1 := by omega
      have eA : rowC xs 1 = #[.int .i64 x0] := by rw [HXS.out]; rfl
      have hmA : (w.heap.size + 1, rowC xs 1, 126) ∈ [(w.heap.size + 1, rowC xs 1, 126), (w.heap.size, rowC xs 0, 126)] := List.Mem.head _
      have hmB : (w.heap.size, rowC xs 0, 126) ∈ [(w.heap.size + 1, rowC xs 1, 126), (w.heap.size, rowC xs 0, 126)] := List.Mem.tail _ (List.Mem.head _)
      have cA0 : wr.cell? ⟨w.heap.size + 1, 0, none⟩ = some (.int .i64 x0) := by rw [HX.out.cell hmA 0, eA]; rfl
      have cB0 : wr.cell? ⟨w.heap.size, 0, none⟩ = some (.int .i64 0) := by rw [HX.out.cell hmB 0, HR0.out]; rfl
      have fB0 := HX.out.fz hmB 0
      clear hmA hmB eA
      have HE := hide ((HX.out.put (k := 1) rfl 0 (.int .i64 x0)))
      go_wp2_with fail
      have HG := HE.out.at_ (List.Mem.tail _ (List.Mem.head _))
      have eB : ((rowC xs 0).setIfInBounds 0 (.int .i64 x0)) = #[.int .i64 x0] := by rw [HR0.out]; rfl
      rw [eB] at HG
      refine bodyPost_ret (v := .agg #[.int .i64 x0]) (results_row1 rfl _ _ (w.heap.size) _ #[.int .i64 x0] (0, 0) _ rfl HG Tryz.underlying126 rfl (by kernel_rfl)) rfl ⟨rfl, HE.out.ls⟩
end Go.Proofs.YtdaklffbfadghaaGreat

namespace Go.Proofs.YtdaklffbfadghaaGreat
open Go.RowKit HP
set_option linter.unusedVariables false
set_option linter.unusedSimpArgs false
set_option maxHeartbeats 4000000 in
set_option maxRecDepth 100000 in
theorem size2_any (b : Nat) (w : World) : Calls Tryz.prog 125 #[.pointer (some ⟨b, 0, none⟩)] w fun e w' => e = .returned (.int .i64 16) ∧ Q w w' := by
  go_enter Tryz.func125, Tryz.ntmps125
  go_wp2_with fail
  go_ret
  exact ⟨rfl, (Q.refl w).alloc _⟩
set_option maxHeartbeats 4000000 in
set_option maxRecDepth 100000 in
theorem at2_any {h : Hp} {r : Rw} {w : World} (L : LR w h r) (i : Nat) (hi : i < 64) {p : Int} (hp : r.ps[i / 4]? = some p) (hp0 : 0 ≤ p) (hp1 : p ≤ 4096) :
    Calls Tryz.prog 103 #[r.ptr, .int .i64 i] w fun e w' => e = .returned (.int .i64 (p + ((i % 4 * 16 : Nat) : Int))) ∧ Q w w' := by
  obtain ⟨g, c, e1, c2, hg⟩ := (LS.start L).piece hp
  have c1 := L.k1
  rw [e1] at c1
  have hl := (List.getElem?_eq_some_iff.1 hp).1
  obtain ⟨n, hn⟩ : ∃ n, n = r.ps.length := ⟨_, rfl⟩
  rw [← hn] at c1 hl
  have hb := L.rlt r.blk (.inl rfl)
  unfold Rw.ptr
  obtain ⟨b, eb⟩ : ∃ b, b = r.blk := ⟨_, rfl⟩
  rw [← eb] at c1 hb ⊢
  obtain ⟨j, hj⟩ : ∃ j, j = i / 4 := ⟨_, rfl⟩
  obtain ⟨k, hk⟩ : ∃ k, k = i % 4 := ⟨_, rfl⟩
  rw [← hj] at c2 hl
  have hjn : (j : Int) < (n : Int) := by omega
  have hk4 : k < 4 := by omega
  have hj16 : j < 16 := by omega
  have e3 : ((i % 4 * 16 : Nat) : Int) = (k : Int) * 16 := by omega
  rw [e3]
  have hii : (i : Int) < 64 := by omega
  have hwj : wrap64 (j : Int) = (j : Int) := wrap_small _ (by omega)
  have hwk : wrap64 (k : Int) = (k : Int) := wrap_small _ (by omega)
  clear hj16
  have hq4 : Int.tdiv (i : Int) 4 = (j : Int) := by rw [hj]; rfl
  have hr4 : Int.tmod (i : Int) 4 = (k : Int) := by rw [hk]; rfl
  clear hn hp L e1 eb hj hk e3
  go_enter Tryz.func103, Tryz.ntmps103
  go_wp2_with fail
  have hxc := ext_cell
  refine wp_region_ext (by kernel_rfl) (by kernel_rfl) ?_
  repeat (go_big_quiet_step (((go_at_call 125; exact ext_call (size2_any _ _)))))
  clear hxc
  refine wpQuiet_nil ?_
  intro w1 hww1
  have hqw1 := q_of_ext hww1
  clear hww1
  obtain ⟨hcw1, hfw1, hzw1⟩ := hqw1.facts
  try simp at hzw1
  try have hs0w1 : w.heap.size < w1.heap.size := by omega
  try have hs1w1 : w.heap.size + 1 < w1.heap.size := by omega
  go_wp2_with fail
  go_ret
  exact ⟨by first | exact ret_int rfl | exact ret_int (wrap_at hp0 hp1 hk4 (by decide)), hqw1⟩
set_option maxHeartbeats 4000000 in
set_option maxRecDepth 100000 in
theorem read2_any {h : Hp} {r : Rw} {w : World} (L : LR w h r) (I : Inv h.m) (i : Nat) (hi : i < 64) {x0 x1 : Int} (hr : RowIs h.m 2 r.ps i [x0, x1]) (hb : ∀ v ∈ [x0, x1], -9223372036854775808 ≤ v ∧ v ≤ 9223372036854775807) :
    Calls Tryz.prog 72 #[r.ptr, .int .i64 i] w fun e w' => e = .returned (.agg #[.int .i64 x0, .int .i64 x1]) ∧ LS w h r w' h.m r := by
  obtain ⟨xs, hxs⟩ : ∃ xs, xs = [x0, x1] := ⟨_, rfl⟩
  rw [← hxs] at hr hb
  obtain ⟨p, hp, hl, hp0, hp1⟩ := hr.place I (by decide)
  have HAT : Hid (∀ W, Q w W → Calls Tryz.prog 103 #[r.ptr, .int .i64 i] W fun e w' => e = .returned (.int .i64 (p + ((i % 4 * 16 : Nat) : Int))) ∧ Q W w') := fun W hq => at2_any ((LDid.refl L).q hq).lr i hi hp hp0 hp1
  have HLD : Hid (∀ W bs k b v a, LB w h r W h.m r bs → xs[k]? = some v → b < 8 → a = p + ((i % 4 * 16 : Nat) : Int) + ((8 * k + b : Nat) : Int) → Calls Tryz.prog 36 #[h.ptr, .int .i64 a] W fun e W' => e = .returned (.tuple #[.int .i64 (byteN v b : Nat), .int .i64 0]) ∧ LB w h r W' h.m r bs) := fun W bs k b v a X hv hb8 ea => by
    rw [ea]
    have := lb_load X I (p + ((i % 4 * 16 : Nat) : Int) + ((8 * k + b : Nat) : Int))
    rw [hr.load I hp hv hb8] at this
    exact this
  obtain ⟨off, ho⟩ : ∃ off : Nat, off = i % 4 * 16 := ⟨_, rfl⟩
  rw [← ho] at HAT HLD
  have ho1 : off < 96 := by omega
  obtain ⟨q, hq⟩ : ∃ q : Int, q = p + (off : Int) := ⟨_, rfl⟩
  rw [← hq] at HAT HLD
  have hq0 : 0 ≤ q := by omega
  have hq1 : q < 5000 := by omega
  have HK0 : Hid (∀ W bs, LB w h r W h.m r bs → W.cell? ⟨r.blk, 0, none⟩ = some h.ptr) := fun W bs X => X.ls.k0
  have HX0 : Hid (LB w h r w h.m r []) := LB.start L
  have hlt := L.rlt r.blk (.inl rfl)
  obtain ⟨hptr, ehp⟩ : ∃ v, v = h.ptr := ⟨_, rfl⟩
  unfold Rw.ptr at *
  obtain ⟨b, eb⟩ : ∃ b, b = r.blk := ⟨_, rfl⟩
  rw [← eb] at HAT HK0 hlt ⊢
  rw [← ehp] at HK0 HLD
  clear ehp
  have HXS := hide hxs
  have HR0 : Hid (rowC xs 0 = #[.int .i64 0, .int .i64 0]) := by rw [hxs]; rfl
  have HBD := hide hb
  clear hp hp0 hp1 hr hb L I hq ho eb hxs
  go_enter Tryz.func72, Tryz.ntmps72
  go_wp2_with (go_at_call 103; refine (HAT.out _ (((Q.refl w).alloc _).alloc _)).mono ?_; rintro e w2 ⟨rfl, hq2⟩; have HX2 := hide (((HX0.out.alloc #[.int .i64 0, .int .i64 0] 64).alloc #[.int .i64 0, .int .i64 0] 64).q hq2); obtain ⟨hc2, hf2, hz2⟩ := hq2.facts)
  clear hc2 hf2 hz2 hq2
  go_loopw [17] (fun vi wr => ∃ k : Nat, k ≤ 2 ∧ vi = .int .i64 (k : Int) ∧ LB w h r wr h.m r [(w.heap.size + 1, rowC xs k, 64), (w.heap.size, rowC xs 0, 64)]) (fun vi _ => 2 - (intOf vi).toNat)
  case atStart => exact ⟨0, by omega, by go_num, by rw [HR0.out]; have := HX2.out; simpa using this⟩
  case round =>
    obtain ⟨k, hk, rfl, hX⟩ := hrel
    have HX := hide hX
    clear hX
    by_cases hlt2 : k < 2
    · have hd1 : decide ((k : Int) < 2) = true := by simp; omega
      have hkT : (k : Int) < 2 := by omega
      obtain ⟨v, hv⟩ : ∃ v, xs[k]? = some v := ⟨xs[k], List.getElem?_eq_getElem (by omega)⟩
      have HV := hide hv
      clear hv
      go_wp2_with fail
      go_loopw [8, 20] (fun vn vb wr => ∃ d : Nat, d ≤ 8 ∧ vb = .int .i64 (d : Int) ∧ vn = .int .u64 ((wordN v % 2 ^ (8 * d) : Nat) : Int) ∧ LB w h r wr h.m r [(w.heap.size + 1, rowC xs k, 64), (w.heap.size, rowC xs 0, 64)]) (fun _ vb _ => 8 - (intOf vb).toNat)
      case atStart => exact ⟨0, by omega, by go_num, by simp [Nat.mod_one], HX.out⟩
      case round =>
        obtain ⟨d, hd, rfl, rfl, hX3⟩ := hrel
        have HX3 := hide hX3
        clear hX3
        by_cases hd8 : d < 8
        · have hd2 : decide ((d : Int) < 8) = true := by simp; omega
          have hdi : (d : Int) < 8 := by omega
          have c0 := HK0.out _ _ HX3.out
          go_wp2_with (go_at_call 36; refine (HLD.out _ _ k d v _ HX3.out HV.out hd8 (by omega)).mono ?_; rintro e w4 ⟨rfl, hX4⟩; have HX4 := hide hX4; clear hX4)
          go_roundw
          case rel => exact ⟨d + 1, by omega, by go_num, by rw [← word_or3 v hd8], HX4.out⟩
          case measure => simp [intOf] <;> omega
        · have hd2 : decide ((d : Int) < 8) = false := by simp; omega
          have hd9 : d = 8 := by omega
          have HWE := hide (word_end hd9 (HBD.out v (List.mem_of_getElem? HV.out)))
          obtain ⟨z, hz⟩ : ∃ z : Int, z = ((wordN v % 2 ^ (8 * d) : Nat) : Int) := ⟨_, rfl⟩
          rw [← hz] at HWE ⊢
          have hwz := HWE.out
          have cK : wr.cell? ⟨w.heap.size + 1, k, none⟩ = some (.int .i64 0) := by rw [HX3.out.cell (List.Mem.head _) k]; exact rowC_at (by omega)
          have fK := HX3.out.fz (List.Mem.head _) k
          clear hz hd9
          go_wp2_with fail
          go_roundw
          case rel => exact ⟨k + 1, by omega, by go_num, by have := HX3.out.put (k := 0) rfl k (.int .i64 v); rw [rowC_set HV.out] at this; exact this⟩
          case measure => simp [intOf] <;> omega
    · have hd1 : decide ((k : Int) < 2) = false := by simp; omega
      obtain rfl : k = 2 := by omega
      have eA : rowC xs 2 = #[.int .i64 x0, .int .i64 x1] := by rw [HXS.out]; rfl
      have hmA : (w.heap.size + 1, rowC xs 2, 64) ∈ [(w.heap.size + 1, rowC xs 2, 64), (w.heap.size, rowC xs 0, 64)] := List.Mem.head _
      have hmB : (w.heap.size, rowC xs 0, 64) ∈ [(w.heap.size + 1, rowC xs 2, 64), (w.heap.size, rowC xs 0, 64)] := List.Mem.tail _ (List.Mem.head _)
      have cA0 : wr.cell? ⟨w.heap.size + 1, 0, none⟩ = some (.int .i64 x0) := by rw [HX.out.cell hmA 0, eA]; rfl
      have cB0 : wr.cell? ⟨w.heap.size, 0, none⟩ = some (.int .i64 0) := by rw [HX.out.cell hmB 0, HR0.out]; rfl
      have fB0 := HX.out.fz hmB 0
      have cA1 : wr.cell? ⟨w.heap.size + 1, 1, none⟩ = some (.int .i64 x1) := by rw [HX.out.cell hmA 1, eA]; rfl
      have cB1 : wr.cell? ⟨w.heap.size, 1, none⟩ = some (.int .i64 0) := by rw [HX.out.cell hmB 1, HR0.out]; rfl
      have fB1 := HX.out.fz hmB 1
      clear hmA hmB eA
      have HE := hide (((HX.out.put (k := 1) rfl 0 (.int .i64 x0)).put (k := 1) rfl 1 (.int .i64 x1)))
      go_wp2_with fail
      have HG := HE.out.at_ (List.Mem.tail _ (List.Mem.head _))
      have eB : (((rowC xs 0).setIfInBounds 0 (.int .i64 x0)).setIfInBounds 1 (.int .i64 x1)) = #[.int .i64 x0, .int .i64 x1] := by rw [HR0.out]; rfl
      rw [eB] at HG
      refine bodyPost_ret (v := .agg #[.int .i64 x0, .int .i64 x1]) (results_row1 rfl _ _ (w.heap.size) _ #[.int .i64 x0, .int .i64 x1] (0, 0) _ rfl HG Tryz.underlying64 rfl (by kernel_rfl)) rfl ⟨rfl, HE.out.ls⟩
end Go.Proofs.YtdaklffbfadghaaGreat

namespace Go.Proofs.YtdaklffbfadghaaGreat
open Go.RowKit HP
set_option linter.unusedVariables false
set_option linter.unusedSimpArgs false
set_option maxHeartbeats 4000000 in
set_option maxRecDepth 100000 in
theorem size3_any (b : Nat) (w : World) : Calls Tryz.prog 126 #[.pointer (some ⟨b, 0, none⟩)] w fun e w' => e = .returned (.int .i64 24) ∧ Q w w' := by
  go_enter Tryz.func126, Tryz.ntmps126
  go_wp2_with fail
  go_ret
  exact ⟨rfl, (Q.refl w).alloc _⟩
set_option maxHeartbeats 4000000 in
set_option maxRecDepth 100000 in
theorem at3_any {h : Hp} {r : Rw} {w : World} (L : LR w h r) (i : Nat) (hi : i < 64) {p : Int} (hp : r.ps[i / 4]? = some p) (hp0 : 0 ≤ p) (hp1 : p ≤ 4096) :
    Calls Tryz.prog 107 #[r.ptr, .int .i64 i] w fun e w' => e = .returned (.int .i64 (p + ((i % 4 * 24 : Nat) : Int))) ∧ Q w w' := by
  obtain ⟨g, c, e1, c2, hg⟩ := (LS.start L).piece hp
  have c1 := L.k1
  rw [e1] at c1
  have hl := (List.getElem?_eq_some_iff.1 hp).1
  obtain ⟨n, hn⟩ : ∃ n, n = r.ps.length := ⟨_, rfl⟩
  rw [← hn] at c1 hl
  have hb := L.rlt r.blk (.inl rfl)
  unfold Rw.ptr
  obtain ⟨b, eb⟩ : ∃ b, b = r.blk := ⟨_, rfl⟩
  rw [← eb] at c1 hb ⊢
  obtain ⟨j, hj⟩ : ∃ j, j = i / 4 := ⟨_, rfl⟩
  obtain ⟨k, hk⟩ : ∃ k, k = i % 4 := ⟨_, rfl⟩
  rw [← hj] at c2 hl
  have hjn : (j : Int) < (n : Int) := by omega
  have hk4 : k < 4 := by omega
  have hj16 : j < 16 := by omega
  have e3 : ((i % 4 * 24 : Nat) : Int) = (k : Int) * 24 := by omega
  rw [e3]
  have hii : (i : Int) < 64 := by omega
  have hwj : wrap64 (j : Int) = (j : Int) := wrap_small _ (by omega)
  have hwk : wrap64 (k : Int) = (k : Int) := wrap_small _ (by omega)
  clear hj16
  have hq4 : Int.tdiv (i : Int) 4 = (j : Int) := by rw [hj]; rfl
  have hr4 : Int.tmod (i : Int) 4 = (k : Int) := by rw [hk]; rfl
  clear hn hp L e1 eb hj hk e3
  go_enter Tryz.func107, Tryz.ntmps107
  go_wp2_with fail
  have hxc := ext_cell
  refine wp_region_ext (by kernel_rfl) (by kernel_rfl) ?_
  repeat (go_big_quiet_step (((go_at_call 126; exact ext_call (size3_any _ _)))))
  clear hxc
  refine wpQuiet_nil ?_
  intro w1 hww1
  have hqw1 := q_of_ext hww1
  clear hww1
  obtain ⟨hcw1, hfw1, hzw1⟩ := hqw1.facts
  try simp at hzw1
  try have hs0w1 : w.heap.size < w1.heap.size := by omega
  try have hs1w1 : w.heap.size + 1 < w1.heap.size := by omega
  go_wp2_with fail
  go_ret
  exact ⟨by first | exact ret_int rfl | exact ret_int (wrap_at hp0 hp1 hk4 (by decide)), hqw1⟩
set_option maxHeartbeats 4000000 in
set_option maxRecDepth 100000 in
theorem read3_any {h : Hp} {r : Rw} {w : World} (L : LR w h r) (I : Inv h.m) (i : Nat) (hi : i < 64) {x0 x1 x2 : Int} (hr : RowIs h.m 3 r.ps i [x0, x1, x2]) (hb : ∀ v ∈ [x0, x1, x2], -9223372036854775808 ≤ v ∧ v ≤ 9223372036854775807) :
    Calls Tryz.prog 81 #[r.ptr, .int .i64 i] w fun e w' => e = .returned (.agg #[.int .i64 x0, .int .i64 x1, .int .i64 x2]) ∧ LS w h r w' h.m r := by
  obtain ⟨xs, hxs⟩ : ∃ xs, xs = [x0, x1, x2] := ⟨_, rfl⟩
  rw [← hxs] at hr hb
  obtain ⟨p, hp, hl, hp0, hp1⟩ := hr.place I (by decide)
  have HAT : Hid (∀ W, Q w W → Calls Tryz.prog 107 #[r.ptr, .int .i64 i] W fun e w' => e = .returned (.int .i64 (p + ((i % 4 * 24 : Nat) : Int))) ∧ Q W w') := fun W hq => at3_any ((LDid.refl L).q hq).lr i hi hp hp0 hp1
  have HLD : Hid (∀ W bs k b v a, LB w h r W h.m r bs → xs[k]? = some v → b < 8 → a = p + ((i % 4 * 24 : Nat) : Int) + ((8 * k + b : Nat) : Int) → Calls Tryz.prog 36 #[h.ptr, .int .i64 a] W fun e W' => e = .returned (.tuple #[.int .i64 (byteN v b : Nat), .int .i64 0]) ∧ LB w h r W' h.m r bs) := fun W bs k b v a X hv hb8 ea => by
    rw [ea]
    have := lb_load X I (p + ((i % 4 * 24 : Nat) : Int) + ((8 * k + b : Nat) : Int))
    rw [hr.load I hp hv hb8] at this
    exact this
  obtain ⟨off, ho⟩ : ∃ off : Nat, off = i % 4 * 24 := ⟨_, rfl⟩
  rw [← ho] at HAT HLD
  have ho1 : off < 96 := by omega
  obtain ⟨q, hq⟩ : ∃ q : Int, q = p + (off : Int) := ⟨_, rfl⟩
  rw [← hq] at HAT HLD
  have hq0 : 0 ≤ q := by omega
  have hq1 : q < 5000 := by omega
  have HK0 : Hid (∀ W bs, LB w h r W h.m r bs → W.cell? ⟨r.blk, 0, none⟩ = some h.ptr) := fun W bs X => X.ls.k0
  have HX0 : Hid (LB w h r w h.m r []) := LB.start L
  have hlt := L.rlt r.blk (.inl rfl)
  obtain ⟨hptr, ehp⟩ : ∃ v, v = h.ptr := ⟨_, rfl⟩
  unfold Rw.ptr at *
  obtain ⟨b, eb⟩ : ∃ b, b = r.blk := ⟨_, rfl⟩
  rw [← eb] at HAT HK0 hlt ⊢
  rw [← ehp] at HK0 HLD
  clear ehp
  have HXS := hide hxs
  have HR0 : Hid (rowC xs 0 = #[.int .i64 0, .int .i64 0, .int .i64 0]) := by rw [hxs]; rfl
  have HBD := hide hb
  clear hp hp0 hp1 hr hb L I hq ho eb hxs
  go_enter Tryz.func81, Tryz.ntmps81
  go_wp2_with (go_at_call 107; refine (HAT.out _ (((Q.refl w).alloc _).alloc _)).mono ?_; rintro e w2 ⟨rfl, hq2⟩; have HX2 := hide (((HX0.out.alloc #[.int .i64 0, .int .i64 0, .int .i64 0] 135).alloc #[.int .i64 0, .int .i64 0, .int .i64 0] 135).q hq2); obtain ⟨hc2, hf2, hz2⟩ := hq2.facts)
  clear hc2 hf2 hz2 hq2
  go_loopw [17] (fun vi wr => ∃ k : Nat, k ≤ 3 ∧ vi = .int .i64 (k : Int) ∧ LB w h r wr h.m r [(w.heap.size + 1, rowC xs k, 135), (w.heap.size, rowC xs 0, 135)]) (fun vi _ => 3 - (intOf vi).toNat)
  case atStart => exact ⟨0, by omega, by go_num, by rw [HR0.out]; have := HX2.out; simpa using this⟩
  case round =>
    obtain ⟨k, hk, rfl, hX⟩ := hrel
    have HX := hide hX
    clear hX
    by_cases hlt2 : k < 3
    · have hd1 : decide ((k : Int) < 3) = true := by simp; omega
      have hkT : (k : Int) < 3 := by omega
      obtain ⟨v, hv⟩ : ∃ v, xs[k]? = some v := ⟨xs[k], List.getElem?_eq_getElem (by omega)⟩
      have HV := hide hv
      clear hv
      go_wp2_with fail
      go_loopw [8, 20] (fun vn vb wr => ∃ d : Nat, d ≤ 8 ∧ vb = .int .i64 (d : Int) ∧ vn = .int .u64 ((wordN v % 2 ^ (8 * d) : Nat) : Int) ∧ LB w h r wr h.m r [(w.heap.size + 1, rowC xs k, 135), (w.heap.size, rowC xs 0, 135)]) (fun _ vb _ => 8 - (intOf vb).toNat)
      case atStart => exact ⟨0, by omega, by go_num, by simp [Nat.mod_one], HX.out⟩
      case round =>
        obtain ⟨d, hd, rfl, rfl, hX3⟩ := hrel
        have HX3 := hide hX3
        clear hX3
        by_cases hd8 : d < 8
        · have hd2 : decide ((d : Int) < 8) = true := by simp; omega
          have hdi : (d : Int) < 8 := by omega
          have c0 := HK0.out _ _ HX3.out
          go_wp2_with (go_at_call 36; refine (HLD.out _ _ k d v _ HX3.out HV.out hd8 (by omega)).mono ?_; rintro e w4 ⟨rfl, hX4⟩; have HX4 := hide hX4; clear hX4)
          go_roundw
          case rel => exact ⟨d + 1, by omega, by go_num, by rw [← word_or3 v hd8], HX4.out⟩
          case measure => simp [intOf] <;> omega
        · have hd2 : decide ((d : Int) < 8) = false := by simp; omega
          have hd9 : d = 8 := by omega
          have HWE := hide (word_end hd9 (HBD.out v (List.mem_of_getElem? HV.out)))
          obtain ⟨z, hz⟩ : ∃ z : Int, z = ((wordN v % 2 ^ (8 * d) : Nat) : Int) := ⟨_, rfl⟩
          rw [← hz] at HWE ⊢
          have hwz := HWE.out
          have cK : wr.cell? ⟨w.heap.size + 1, k, none⟩ = some (.int .i64 0) := by rw [HX3.out.cell (List.Mem.head _) k]; exact rowC_at (by omega)
          have fK := HX3.out.fz (List.Mem.head _) k
          clear hz hd9
          go_wp2_with fail
          go_roundw
          case rel => exact ⟨k + 1, by omega, by go_num, by have := HX3.out.put (k := 0) rfl k (.int .i64 v); rw [rowC_set HV.out] at this; exact this⟩
          case measure => simp [intOf] <;> omega
    · have hd1 : decide ((k : Int) < 3) = false := by simp; omega
      obtain rfl : k = 3 := by omega
      have eA : rowC xs 3 = #[.int .i64 x0, .int .i64 x1, .int .i64 x2] := by rw [HXS.out]; rfl
      have hmA : (w.heap.size + 1, rowC xs 3, 135) ∈ [(w.heap.size + 1, rowC xs 3, 135), (w.heap.size, rowC xs 0, 135)] := List.Mem.head _
      have hmB : (w.heap.size, rowC xs 0, 135) ∈ [(w.heap.size + 1, rowC xs 3, 135), (w.heap.size, rowC xs 0, 135)] := List.Mem.tail _ (List.Mem.head _)
      have cA0 : wr.cell? ⟨w.heap.size + 1, 0, none⟩ = some (.int .i64 x0) := by rw [HX.out.cell hmA 0, eA]; rfl
      have cB0 : wr.cell? ⟨w.heap.size, 0, none⟩ = some (.int .i64 0) := by rw [HX.out.cell hmB 0, HR0.out]; rfl
      have fB0 := HX.out.fz hmB 0
      have cA1 : wr.cell? ⟨w.heap.size + 1, 1, none⟩ = some (.int .i64 x1) := by rw [HX.out.cell hmA 1, eA]; rfl
      have cB1 : wr.cell? ⟨w.heap.size, 1, none⟩ = some (.int .i64 0) := by rw [HX.out.cell hmB 1, HR0.out]; rfl
      have fB1 := HX.out.fz hmB 1
      have cA2 : wr.cell? ⟨w.heap.size + 1, 2, none⟩ = some (.int .i64 x2) := by rw [HX.out.cell hmA 2, eA]; rfl
      have cB2 : wr.cell? ⟨w.heap.size, 2, none⟩ = some (.int .i64 0) := by rw [HX.out.cell hmB 2, HR0.out]; rfl
      have fB2 := HX.out.fz hmB 2
      clear hmA hmB eA
      have HE := hide ((((HX.out.put (k := 1) rfl 0 (.int .i64 x0)).put (k := 1) rfl 1 (.int .i64 x1)).put (k := 1) rfl 2 (.int .i64 x2)))
      go_wp2_with fail
      have HG := HE.out.at_ (List.Mem.tail _ (List.Mem.head _))
      have eB : ((((rowC xs 0).setIfInBounds 0 (.int .i64 x0)).setIfInBounds 1 (.int .i64 x1)).setIfInBounds 2 (.int .i64 x2)) = #[.int .i64 x0, .int .i64 x1, .int .i64 x2] := by rw [HR0.out]; rfl
      rw [eB] at HG
      refine bodyPost_ret (v := .agg #[.int .i64 x0, .int .i64 x1, .int .i64 x2]) (results_row1 rfl _ _ (w.heap.size) _ #[.int .i64 x0, .int .i64 x1, .int .i64 x2] (0, 0) _ rfl HG Tryz.underlying135 rfl (by kernel_rfl)) rfl ⟨rfl, HE.out.ls⟩
end Go.Proofs.YtdaklffbfadghaaGreat

namespace Go.Proofs.YtdaklffbfadghaaGreat
open Go.RowKit HP
set_option linter.unusedVariables false
set_option linter.unusedSimpArgs false
set_option maxHeartbeats 4000000 in
set_option maxRecDepth 100000 in
theorem write1_any {h : Hp} {r : Rw} {w : World} (L : LR w h r) (I : Inv h.m) (i : Nat) (hi : i < 64) {p : Int} (hp : r.ps[i / 4]? = some p) (hh : Has h.m p 32) (x0 : Int) :
    Calls Tryz.prog 92 #[r.ptr, .int .i64 i, .agg #[.int .i64 x0]] w fun e w' => ∃ m', e = .returned (.tuple #[]) ∧ LS w h r w' m' r ∧ Writing h.m m' p (((i % 4 * (8 * 1) : Nat)) : Int) [x0] (8 * 1) := by
  obtain ⟨hp0, hp1⟩ := hh.bounds I
  obtain ⟨xs, hxs⟩ : ∃ xs, xs = [x0] := ⟨_, rfl⟩
  have hxl : xs.length = 1 := by rw [hxs]; rfl
  have HAT : Hid (∀ W, Q w W → Calls Tryz.prog 110 #[r.ptr, .int .i64 i] W fun e w' => e = .returned (.int .i64 (p + ((i % 4 * 8 : Nat) : Int))) ∧ Q W w') := fun W hq => at1_any ((LDid.refl L).q hq).lr i hi hp hp0 hp1
  obtain ⟨off, ho⟩ : ∃ off : Nat, off = i % 4 * 8 := ⟨_, rfl⟩
  have ho1 : off < 96 := by omega
  have HST : Hid (∀ W bs m' k b v a, LB w h r W m' r bs → Writing h.m m' p (off : Int) xs (8 * k + b) → xs[k]? = some v → b < 8 → a = p + (off : Int) + ((8 * k + b : Nat) : Int) → Calls Tryz.prog 11 #[h.ptr, .int .i64 a, .int .i64 (byteN v b : Nat)] W fun e W' => ∃ x, e = .returned x ∧ ∃ m2, LB w h r W' m2 r bs ∧ Writing h.m m2 p (off : Int) xs (8 * k + (b + 1))) := fun W bs m' k b v a X hW hv hb8 ea => by
    have hk := (List.getElem?_eq_some_iff.1 hv).1
    have hs := hW.step hh (by omega) (by omega) (by omega)
    rw [byteR_kb hv hb8] at hs
    rw [ea]
    refine (lb_store X hW.inv _ _).mono ?_
    rintro e W' ⟨he, hX⟩
    exact ⟨_, he, _, hX, hs.2⟩
  have e8 : ((i % 4 * (8 * 1) : Nat) : Int) = (off : Int) := by omega
  rw [e8, ← hxs]
  rw [← ho] at HAT
  have HST0 : Hid (Writing h.m h.m p (off : Int) xs (8 * 0)) := Writing.start I p off xs
  obtain ⟨q, hq⟩ : ∃ q : Int, q = p + (off : Int) := ⟨_, rfl⟩
  rw [← hq] at HAT HST
  have hq0 : 0 ≤ q := by omega
  have hq1 : q < 5000 := by omega
  have HK0 : Hid (∀ W bs m', LB w h r W m' r bs → W.cell? ⟨r.blk, 0, none⟩ = some h.ptr ∧ r.blk < W.heap.size) := fun W bs m' X => ⟨X.ls.k0, X.ls.lt⟩
  have HX0 : Hid (LB w h r w h.m r []) := LB.start L
  have hlt := L.rlt r.blk (.inl rfl)
  obtain ⟨hptr, ehp⟩ : ∃ v, v = h.ptr := ⟨_, rfl⟩
  unfold Rw.ptr at *
  obtain ⟨b, eb⟩ : ∃ b, b = r.blk := ⟨_, rfl⟩
  rw [← eb] at HAT HK0 hlt ⊢
  rw [← ehp] at HK0 HST
  clear ehp
  have HXS := hide hxs
  have HRX : Hid ((intsV xs).toArray = #[.int .i64 x0]) := by rw [hxs]; rfl
  clear hp hp0 hp1 hh L I hq ho eb hxs e8
  go_enter Tryz.func92, Tryz.ntmps92
  go_wp2_with (go_at_call 110; refine (HAT.out _ ((Q.refl w).alloc _)).mono ?_; rintro e w2 ⟨rfl, hq2⟩; have HX2 := hide ((HX0.out.alloc #[.int .i64 x0] 126).q hq2); obtain ⟨hc2, hf2, hz2⟩ := hq2.facts)
  clear hc2 hf2 hz2 hq2
  go_loopw [15] (fun vi wr => ∃ (k : Nat) (m' : HM), k ≤ 1 ∧ vi = .int .i64 (k : Int) ∧ LB w h r wr m' r [(w.heap.size, (intsV xs).toArray, 126)] ∧ Writing h.m m' p (off : Int) xs (8 * k)) (fun vi _ => 1 - (intOf vi).toNat)
  case atStart => exact ⟨0, _, by omega, by go_num, by rw [HRX.out]; exact HX2.out, HST0.out⟩
  case round =>
    obtain ⟨k, m', hk, rfl, hX, hW⟩ := hrel
    have HX := hide hX
    have HW := hide hW
    clear hX hW
    by_cases hlt2 : k < 1
    · have hd1 : decide ((k : Int) < 1) = true := by simp; omega
      have hkT : (k : Int) < 1 := by omega
      obtain ⟨v, hv⟩ : ∃ v, xs[k]? = some v := ⟨xs[k], List.getElem?_eq_getElem (by omega)⟩
      have HV := hide hv
      have cK : wr.cell? ⟨w.heap.size, k, none⟩ = some (.int .i64 v) := by rw [HX.out.cell (List.Mem.head _) k]; unfold intsV; simp [hv]
      obtain ⟨z, hz⟩ : ∃ z : Int, z = ((wordN v : Nat) : Int) := ⟨_, rfl⟩
      have hwz : IntKind.u64.wrap v = z := by rw [hz]; exact wrap_word v
      clear hv
      go_wp2_with fail
      go_loopw [22] (fun vb wr => ∃ (d : Nat) (m' : HM), d ≤ 8 ∧ vb = .int .i64 (d : Int) ∧ LB w h r wr m' r [(w.heap.size, (intsV xs).toArray, 126)] ∧ Writing h.m m' p (off : Int) xs (8 * k + d)) (fun vb _ => 8 - (intOf vb).toNat)
      case atStart => exact ⟨0, m', by omega, by go_num, HX.out, HW.out⟩
      case round =>
        obtain ⟨d, m2, hd, rfl, hX3, hW3⟩ := hrel
        have HX3 := hide hX3
        have HW3 := hide hW3
        clear hX3 hW3
        by_cases hd8 : d < 8
        · have hd2 : decide ((d : Int) < 8) = true := by simp; omega
          have hdi : (d : Int) < 8 := by omega
          obtain ⟨c0, hbl⟩ := HK0.out _ _ _ HX3.out
          clear hz
          go_wp2_with fail
          have hxc := ext_cell
          refine Ri.wp_region_cut 16 (fun w1 => ∃ k, w1 = ext _ k) (by kernel_rfl) (by kernel_rfl) rfl rfl (ext_of_q (Q.drew (Q.refl _))) ?_
          simp only [List.take_succ_cons, List.take_zero, List.drop_succ_cons, List.drop_zero]
          repeat (go_big_quiet_step ((fail)))
          clear hxc
          refine wpQuiet_nil ?_
          intro w4 hww4
          have hqw4 := q_of_ext hww4
          clear hww4
          obtain ⟨hcw4, hfw4, hzw4⟩ := hqw4.facts
          try simp at hzw4
          have HX4 := hide (HX3.out.q hqw4)
          refine Ri.wp_callP #[hptr, .int .i64 (q + 8 * (k : Int) + (d : Int)), .int .i64 (byteN v d : Nat)] rfl (by simp [Act.eval, word_shr3]) Tryz.func11 (by kernel_rfl) (by kernel_rfl) ((HST.out _ _ _ k d v _ HX4.out HW3.out HV.out hd8 (by omega)).mono ?_)
          rintro e w5 ⟨x, rfl, m3, hX5, hW5⟩
          refine ⟨x, rfl, ?_⟩
          have HX5 := hide hX5
          have HW5 := hide hW5
          clear hX5 hW5 hcw4 hfw4 hzw4 hqw4
          refine ⟨fun w1 => ∃ k, w1 = ext _ k, ext_of_q (Q.refl _), ?_⟩
          try simp only [Act.put, List.setIfInBounds_toArray, List.set_cons_succ, List.set_cons_zero]
          have hxc := ext_cell
          repeat (go_big_quiet_step ((fail)))
          clear hxc
          refine wpQuiet_nil ?_
          intro w6 hww6
          have hqw6 := q_of_ext hww6
          clear hww6
          obtain ⟨hcw6, hfw6, hzw6⟩ := hqw6.facts
          try simp at hzw6
          have HX6 := hide (HX5.out.q hqw6)
          clear hcw6 hfw6 hzw6 hqw6
          go_wp2_with fail
          go_roundw
          case rel => exact ⟨d + 1, m3, by omega, by go_num, HX6.out, HW5.out⟩
          case measure => simp [intOf] <;> omega
        · have hd2 : decide ((d : Int) < 8) = false := by simp; omega
          obtain rfl : d = 8 := by omega
          go_wp2_with fail
          go_roundw
          case rel => exact ⟨k + 1, m2, by omega, by go_num, HX3.out, HW3.out⟩
          case measure => simp [intOf] <;> omega
    · have hd1 : decide ((k : Int) < 1) = false := by simp; omega
      obtain rfl : k = 1 := by omega
      go_wp2_with fail
      go_end0
      exact ⟨m', rfl, HX.out.ls, HW.out⟩
end Go.Proofs.YtdaklffbfadghaaGreat

namespace Go.Proofs.YtdaklffbfadghaaGreat
open Go.RowKit HP
set_option linter.unusedVariables false
set_option linter.unusedSimpArgs false
set_option maxHeartbeats 4000000 in
set_option maxRecDepth 100000 in
theorem write2_any {h : Hp} {r : Rw} {w : World} (L : LR w h r) (I : Inv h.m) (i : Nat) (hi : i < 64) {p : Int} (hp : r.ps[i / 4]? = some p) (hh : Has h.m p 64) (x0 x1 : Int) :
    Calls Tryz.prog 73 #[r.ptr, .int .i64 i, .agg #[.int .i64 x0, .int .i64 x1]] w fun e w' => ∃ m', e = .returned (.tuple #[]) ∧ LS w h r w' m' r ∧ Writing h.m m' p (((i % 4 * (8 * 2) : Nat)) : Int) [x0, x1] (8 * 2) := by
  obtain ⟨hp0, hp1⟩ := hh.bounds I
  obtain ⟨xs, hxs⟩ : ∃ xs, xs = [x0, x1] := ⟨_, rfl⟩
  have hxl : xs.length = 2 := by rw [hxs]; rfl
  have HAT : Hid (∀ W, Q w W → Calls Tryz.prog 103 #[r.ptr, .int .i64 i] W fun e w' => e = .returned (.int .i64 (p + ((i % 4 * 16 : Nat) : Int))) ∧ Q W w') := fun W hq => at2_any ((LDid.refl L).q hq).lr i hi hp hp0 hp1
  obtain ⟨off, ho⟩ : ∃ off : Nat, off = i % 4 * 16 := ⟨_, rfl⟩
  have ho1 : off < 96 := by omega
  have HST : Hid (∀ W bs m' k b v a, LB w h r W m' r bs → Writing h.m m' p (off : Int) xs (8 * k + b) → xs[k]? = some v → b < 8 → a = p + (off : Int) + ((8 * k + b : Nat) : Int) → Calls Tryz.prog 11 #[h.ptr, .int .i64 a, .int .i64 (byteN v b : Nat)] W fun e W' => ∃ x, e = .returned x ∧ ∃ m2, LB w h r W' m2 r bs ∧ Writing h.m m2 p (off : Int) xs (8 * k + (b + 1))) := fun W bs m' k b v a X hW hv hb8 ea => by
    have hk := (List.getElem?_eq_some_iff.1 hv).1
    have hs := hW.step hh (by omega) (by omega) (by omega)
    rw [byteR_kb hv hb8] at hs
    rw [ea]
    refine (lb_store X hW.inv _ _).mono ?_
    rintro e W' ⟨he, hX⟩
    exact ⟨_, he, _, hX, hs.2⟩
  have e8 : ((i % 4 * (8 * 2) : Nat) : Int) = (off : Int) := by omega
  rw [e8, ← hxs]
  rw [← ho] at HAT
  have HST0 : Hid (Writing h.m h.m p (off : Int) xs (8 * 0)) := Writing.start I p off xs
  obtain ⟨q, hq⟩ : ∃ q : Int, q = p + (off : Int) := ⟨_, rfl⟩
  rw [← hq] at HAT HST
  have hq0 : 0 ≤ q := by omega
  have hq1 : q < 5000 := by omega
  have HK0 : Hid (∀ W bs m', LB w h r W m' r bs → W.cell? ⟨r.blk, 0, none⟩ = some h.ptr ∧ r.blk < W.heap.size) := fun W bs m' X => ⟨X.ls.k0, X.ls.lt⟩
  have HX0 : Hid (LB w h r w h.m r []) := LB.start L
  have hlt := L.rlt r.blk (.inl rfl)
  obtain ⟨hptr, ehp⟩ : ∃ v, v = h.ptr := ⟨_, rfl⟩
  unfold Rw.ptr at *
  obtain ⟨b, eb⟩ : ∃ b, b = r.blk := ⟨_, rfl⟩
  rw [← eb] at HAT HK0 hlt ⊢
  rw [← ehp] at HK0 HST
  clear ehp
  have HXS := hide hxs
  have HRX : Hid ((intsV xs).toArray = #[.int .i64 x0, .int .i64 x1]) := by rw [hxs]; rfl
  clear hp hp0 hp1 hh L I hq ho eb hxs e8
  go_enter Tryz.func73, Tryz.ntmps73
  go_wp2_with (go_at_call 103; refine (HAT.out _ ((Q.refl w).alloc _)).mono ?_; rintro e w2 ⟨rfl, hq2⟩; have HX2 := hide ((HX0.out.alloc #[.int .i64 x0, .int .i64 x1] 64).q hq2); obtain ⟨hc2, hf2, hz2⟩ := hq2.facts)
  clear hc2 hf2 hz2 hq2
  go_loopw [15] (fun vi wr => ∃ (k : Nat) (m' : HM), k ≤ 2 ∧ vi = .int .i64 (k : Int) ∧ LB w h r wr m' r [(w.heap.size, (intsV xs).toArray, 64)] ∧ Writing h.m m' p (off : Int) xs (8 * k)) (fun vi _ => 2 - (intOf vi).toNat)
  case atStart => exact ⟨0, _, by omega, by go_num, by rw [HRX.out]; exact HX2.out, HST0.out⟩
  case round =>
    obtain ⟨k, m', hk, rfl, hX, hW⟩ := hrel
    have HX := hide hX
    have HW := hide hW
    clear hX hW
    by_cases hlt2 : k < 2
    · have hd1 : decide ((k : Int) < 2) = true := by simp; omega
      have hkT : (k : Int) < 2 := by omega
      obtain ⟨v, hv⟩ : ∃ v, xs[k]? = some v := ⟨xs[k], List.getElem?_eq_getElem (by omega)⟩
      have HV := hide hv
      have cK : wr.cell? ⟨w.heap.size, k, none⟩ = some (.int .i64 v) := by rw [HX.out.cell (List.Mem.head _) k]; unfold intsV; simp [hv]
      obtain ⟨z, hz⟩ : ∃ z : Int, z = ((wordN v : Nat) : Int) := ⟨_, rfl⟩
      have hwz : IntKind.u64.wrap v = z := by rw [hz]; exact wrap_word v
      clear hv
      go_wp2_with fail
      go_loopw [22] (fun vb wr => ∃ (d : Nat) (m' : HM), d ≤ 8 ∧ vb = .int .i64 (d : Int) ∧ LB w h r wr m' r [(w.heap.size, (intsV xs).toArray, 64)] ∧ Writing h.m m' p (off : Int) xs (8 * k + d)) (fun vb _ => 8 - (intOf vb).toNat)
      case atStart => exact ⟨0, m', by omega, by go_num, HX.out, HW.out⟩
      case round =>
        obtain ⟨d, m2, hd, rfl, hX3, hW3⟩ := hrel
        have HX3 := hide hX3
        have HW3 := hide hW3
        clear hX3 hW3
        by_cases hd8 : d < 8
        · have hd2 : decide ((d : Int) < 8) = true := by simp; omega
          have hdi : (d : Int) < 8 := by omega
          obtain ⟨c0, hbl⟩ := HK0.out _ _ _ HX3.out
          clear hz
          go_wp2_with fail
          have hxc := ext_cell
          refine Ri.wp_region_cut 16 (fun w1 => ∃ k, w1 = ext _ k) (by kernel_rfl) (by kernel_rfl) rfl rfl (ext_of_q (Q.drew (Q.refl _))) ?_
          simp only [List.take_succ_cons, List.take_zero, List.drop_succ_cons, List.drop_zero]
          repeat (go_big_quiet_step ((fail)))
          clear hxc
          refine wpQuiet_nil ?_
          intro w4 hww4
          have hqw4 := q_of_ext hww4
          clear hww4
          obtain ⟨hcw4, hfw4, hzw4⟩ := hqw4.facts
          try simp at hzw4
          have HX4 := hide (HX3.out.q hqw4)
          refine Ri.wp_callP #[hptr, .int .i64 (q + 8 * (k : Int) + (d : Int)), .int .i64 (byteN v d : Nat)] rfl (by simp [Act.eval, word_shr3]) Tryz.func11 (by kernel_rfl) (by kernel_rfl) ((HST.out _ _ _ k d v _ HX4.out HW3.out HV.out hd8 (by omega)).mono ?_)
          rintro e w5 ⟨x, rfl, m3, hX5, hW5⟩
          refine ⟨x, rfl, ?_⟩
          have HX5 := hide hX5
          have HW5 := hide hW5
          clear hX5 hW5 hcw4 hfw4 hzw4 hqw4
          refine ⟨fun w1 => ∃ k, w1 = ext _ k, ext_of_q (Q.refl _), ?_⟩
          try simp only [Act.put, List.setIfInBounds_toArray, List.set_cons_succ, List.set_cons_zero]
          have hxc := ext_cell
          repeat (go_big_quiet_step ((fail)))
          clear hxc
          refine wpQuiet_nil ?_
          intro w6 hww6
          have hqw6 := q_of_ext hww6
          clear hww6
          obtain ⟨hcw6, hfw6, hzw6⟩ := hqw6.facts
          try simp at hzw6
          have HX6 := hide (HX5.out.q hqw6)
          clear hcw6 hfw6 hzw6 hqw6
          go_wp2_with fail
          go_roundw
          case rel => exact ⟨d + 1, m3, by omega, by go_num, HX6.out, HW5.out⟩
          case measure => simp [intOf] <;> omega
        · have hd2 : decide ((d : Int) < 8) = false := by simp; omega
          obtain rfl : d = 8 := by omega
          go_wp2_with fail
          go_roundw
          case rel => exact ⟨k + 1, m2, by omega, by go_num, HX3.out, HW3.out⟩
          case measure => simp [intOf] <;> omega
    · have hd1 : decide ((k : Int) < 2) = false := by simp; omega
      obtain rfl : k = 2 := by omega
      go_wp2_with fail
      go_end0
      exact ⟨m', rfl, HX.out.ls, HW.out⟩
end Go.Proofs.YtdaklffbfadghaaGreat

namespace Go.Proofs.YtdaklffbfadghaaGreat
open Go.RowKit HP
set_option linter.unusedVariables false
set_option linter.unusedSimpArgs false
set_option maxHeartbeats 4000000 in
set_option maxRecDepth 100000 in
theorem write3_any {h : Hp} {r : Rw} {w : World} (L : LR w h r) (I : Inv h.m) (i : Nat) (hi : i < 64) {p : Int} (hp : r.ps[i / 4]? = some p) (hh : Has h.m p 96) (x0 x1 x2 : Int) :
    Calls Tryz.prog 80 #[r.ptr, .int .i64 i, .agg #[.int .i64 x0, .int .i64 x1, .int .i64 x2]] w fun e w' => ∃ m', e = .returned (.tuple #[]) ∧ LS w h r w' m' r ∧ Writing h.m m' p (((i % 4 * (8 * 3) : Nat)) : Int) [x0, x1, x2] (8 * 3) := by
  obtain ⟨hp0, hp1⟩ := hh.bounds I
  obtain ⟨xs, hxs⟩ : ∃ xs, xs = [x0, x1, x2] := ⟨_, rfl⟩
  have hxl : xs.length = 3 := by rw [hxs]; rfl
  have HAT : Hid (∀ W, Q w W → Calls Tryz.prog 107 #[r.ptr, .int .i64 i] W fun e w' => e = .returned (.int .i64 (p + ((i % 4 * 24 : Nat) : Int))) ∧ Q W w') := fun W hq => at3_any ((LDid.refl L).q hq).lr i hi hp hp0 hp1
  obtain ⟨off, ho⟩ : ∃ off : Nat, off = i % 4 * 24 := ⟨_, rfl⟩
  have ho1 : off < 96 := by omega
  have HST : Hid (∀ W bs m' k b v a, LB w h r W m' r bs → Writing h.m m' p (off : Int) xs (8 * k + b) → xs[k]? = some v → b < 8 → a = p + (off : Int) + ((8 * k + b : Nat) : Int) → Calls Tryz.prog 11 #[h.ptr, .int .i64 a, .int .i64 (byteN v b : Nat)] W fun e W' => ∃ x, e = .returned x ∧ ∃ m2, LB w h r W' m2 r bs ∧ Writing h.m m2 p (off : Int) xs (8 * k + (b + 1))) := fun W bs m' k b v a X hW hv hb8 ea => by
    have hk := (List.getElem?_eq_some_iff.1 hv).1
    have hs := hW.step hh (by omega) (by omega) (by omega)
    rw [byteR_kb hv hb8] at hs
    rw [ea]
    refine (lb_store X hW.inv _ _).mono ?_
    rintro e W' ⟨he, hX⟩
    exact ⟨_, he, _, hX, hs.2⟩
  have e8 : ((i % 4 * (8 * 3) : Nat) : Int) = (off : Int) := by omega
  rw [e8, ← hxs]
  rw [← ho] at HAT
  have HST0 : Hid (Writing h.m h.m p (off : Int) xs (8 * 0)) := Writing.start I p off xs
  obtain ⟨q, hq⟩ : ∃ q : Int, q = p + (off : Int) := ⟨_, rfl⟩
  rw [← hq] at HAT HST
  have hq0 : 0 ≤ q := by omega
  have hq1 : q < 5000 := by omega
  have HK0 : Hid (∀ W bs m', LB w h r W m' r bs → W.cell? ⟨r.blk, 0, none⟩ = some h.ptr ∧ r.blk < W.heap.size) := fun W bs m' X => ⟨X.ls.k0, X.ls.lt⟩
  have HX0 : Hid (LB w h r w h.m r []) := LB.start L
  have hlt := L.rlt r.blk (.inl rfl)
  obtain ⟨hptr, ehp⟩ : ∃ v, v = h.ptr := ⟨_, rfl⟩
  unfold Rw.ptr at *
  obtain ⟨b, eb⟩ : ∃ b, b = r.blk := ⟨_, rfl⟩
  rw [← eb] at HAT HK0 hlt ⊢
  rw [← ehp] at HK0 HST
  clear ehp
  have HXS := hide hxs
  have HRX : Hid ((intsV xs).toArray = #[.int .i64 x0, .int .i64 x1, .int .i64 x2]) := by rw [hxs]; rfl
  clear hp hp0 hp1 hh L I hq ho eb hxs e8
  go_enter Tryz.func80, Tryz.ntmps80
  go_wp2_with (go_at_call 107; refine (HAT.out _ ((Q.refl w).alloc _)).mono ?_; rintro e w2 ⟨rfl, hq2⟩; have HX2 := hide ((HX0.out.alloc #[.int .i64 x0, .int .i64 x1, .int .i64 x2] 135).q hq2); obtain ⟨hc2, hf2, hz2⟩ := hq2.facts)
  clear hc2 hf2 hz2 hq2
  go_loopw [15] (fun vi wr => ∃ (k : Nat) (m' : HM), k ≤ 3 ∧ vi = .int .i64 (k : Int) ∧ LB w h r wr m' r [(w.heap.size, (intsV xs).toArray, 135)] ∧ Writing h.m m' p (off : Int) xs (8 * k)) (fun vi _ => 3 - (intOf vi).toNat)
  case atStart => exact ⟨0, _, by omega, by go_num, by rw [HRX.out]; exact HX2.out, HST0.out⟩
  case round =>
    obtain ⟨k, m', hk, rfl, hX, hW⟩ := hrel
    have HX := hide hX
    have HW := hide hW
    clear hX hW
    by_cases hlt2 : k < 3
    · have hd1 : decide ((k : Int) < 3) = true := by simp; omega
      have hkT : (k : Int) < 3 := by omega
      obtain ⟨v, hv⟩ : ∃ v, xs[k]? = some v := ⟨xs[k], List.getElem?_eq_getElem (by omega)⟩
      have HV := hide hv
      have cK : wr.cell? ⟨w.heap.size, k, none⟩ = some (.int .i64 v) := by rw [HX.out.cell (List.Mem.head _) k]; unfold intsV; simp [hv]
      obtain ⟨z, hz⟩ : ∃ z : Int, z = ((wordN v : Nat) : Int) := ⟨_, rfl⟩
      have hwz : IntKind.u64.wrap v = z := by rw [hz]; exact wrap_word v
      clear hv
      go_wp2_with fail
      go_loopw [22] (fun vb wr => ∃ (d : Nat) (m' : HM), d ≤ 8 ∧ vb = .int .i64 (d : Int) ∧ LB w h r wr m' r [(w.heap.size, (intsV xs).toArray, 135)] ∧ Writing h.m m' p (off : Int) xs (8 * k + d)) (fun vb _ => 8 - (intOf vb).toNat)
      case atStart => exact ⟨0, m', by omega, by go_num, HX.out, HW.out⟩
      case round =>
        obtain ⟨d, m2, hd, rfl, hX3, hW3⟩ := hrel
        have HX3 := hide hX3
        have HW3 := hide hW3
        clear hX3 hW3
        by_cases hd8 : d < 8
        · have hd2 : decide ((d : Int) < 8) = true := by simp; omega
          have hdi : (d : Int) < 8 := by omega
          obtain ⟨c0, hbl⟩ := HK0.out _ _ _ HX3.out
          clear hz
          go_wp2_with fail
          have hxc := ext_cell
          refine Ri.wp_region_cut 16 (fun w1 => ∃ k, w1 = ext _ k) (by kernel_rfl) (by kernel_rfl) rfl rfl (ext_of_q (Q.drew (Q.refl _))) ?_
          simp only [List.take_succ_cons, List.take_zero, List.drop_succ_cons, List.drop_zero]
          repeat (go_big_quiet_step ((fail)))
          clear hxc
          refine wpQuiet_nil ?_
          intro w4 hww4
          have hqw4 := q_of_ext hww4
          clear hww4
          obtain ⟨hcw4, hfw4, hzw4⟩ := hqw4.facts
          try simp at hzw4
          have HX4 := hide (HX3.out.q hqw4)
          refine Ri.wp_callP #[hptr, .int .i64 (q + 8 * (k : Int) + (d : Int)), .int .i64 (byteN v d : Nat)] rfl (by simp [Act.eval, word_shr3]) Tryz.func11 (by kernel_rfl) (by kernel_rfl) ((HST.out _ _ _ k d v _ HX4.out HW3.out HV.out hd8 (by omega)).mono ?_)
          rintro e w5 ⟨x, rfl, m3, hX5, hW5⟩
          refine ⟨x, rfl, ?_⟩
          have HX5 := hide hX5
          have HW5 := hide hW5
          clear hX5 hW5 hcw4 hfw4 hzw4 hqw4
          refine ⟨fun w1 => ∃ k, w1 = ext _ k, ext_of_q (Q.refl _), ?_⟩
          try simp only [Act.put, List.setIfInBounds_toArray, List.set_cons_succ, List.set_cons_zero]
          have hxc := ext_cell
          repeat (go_big_quiet_step ((fail)))
          clear hxc
          refine wpQuiet_nil ?_
          intro w6 hww6
          have hqw6 := q_of_ext hww6
          clear hww6
          obtain ⟨hcw6, hfw6, hzw6⟩ := hqw6.facts
          try simp at hzw6
          have HX6 := hide (HX5.out.q hqw6)
          clear hcw6 hfw6 hzw6 hqw6
          go_wp2_with fail
          go_roundw
          case rel => exact ⟨d + 1, m3, by omega, by go_num, HX6.out, HW5.out⟩
          case measure => simp [intOf] <;> omega
        · have hd2 : decide ((d : Int) < 8) = false := by simp; omega
          obtain rfl : d = 8 := by omega
          go_wp2_with fail
          go_roundw
          case rel => exact ⟨k + 1, m2, by omega, by go_num, HX3.out, HW3.out⟩
          case measure => simp [intOf] <;> omega
    · have hd1 : decide ((k : Int) < 3) = false := by simp; omega
      obtain rfl : k = 3 := by omega
      go_wp2_with fail
      go_end0
      exact ⟨m', rfl, HX.out.ls, HW.out⟩
end Go.Proofs.YtdaklffbfadghaaGreat

namespace Go.Proofs.YtdaklffbfadghaaGreat
open Go.RowKit
set_option linter.unusedVariables false
set_option linter.unusedSimpArgs false
/-- one element: the translator lays it in a new block of its own -/
theorem wpList_app1b {P : Program} {t e size bytes : Nat} {w : World} {base : Nat} {ops : Array Oper} {rest : List Oper} {o : Oper} {a : Act} {Q' : Exit → Act → World → Prop} {v : Value} {n : Nat} {xs : List Value}
    (hgd : o.guard = none) (E : El P t e size bytes) (s x : Operand) (ho : o.op = .call { callee := .builtin .append, args := #[s, x], argTypes := #[t, t] })
    (hs : a.eval s = v) (hown : w.ownsRow base e size v n xs) {C : Array Value} {k : Nat} (hk : k = w.heap.size) (hx : a.eval x = .slice (some ⟨k, 0, none⟩) 1 1) (hC : C.size = size) (h1 : ∀ u ∈ C.toList, u.oneCell' = true)
    (hb : (n + 1) * bytes ≤ 140737488355328) (hbase : base ≤ w.heap.size)
    (h : ∀ v' w', w'.ownsRow base e size v' (n + 1) (xs ++ C.toList) → w.grownBy w' v.ownBlock → (∀ b, v'.ownBlock = some b → v.ownBlock = some b ∨ w.heap.size ≤ b) → wpList P ops Q' rest (a.put o.dst v') w') : wpList P ops Q' (o :: rest) a (w.alloc (.cells C e)) := by
  obtain ⟨i, z, hi, hz, hsz, hby, hzs⟩ := E.inf
  subst hk
  subst hsz
  subst hby
  have hpos := E.pos
  have hle : n + 1 ≤ (n + 1) * i.bytes := Nat.le_mul_of_pos_right _ E.bpos
  have hnews : ∀ j u, C.toList[j]? = some u → (w.alloc (.cells C e)).cell? ((⟨w.heap.size, 0, none⟩ : Addr).add j) = some u := fun j u hu => by
    rw [addr_add, Nat.zero_add, World.cell?_alloc_new]
    simpa using hu
  have hlC : C.toList.length = 1 * i.size := by simpa using hC
  have h63 : n + 1 ≤ maxLen := by simp only [maxLen]; omega
  have hm63 : n + 1 ≤ 9223372036854775807 := by omega
  have hown' := hown.alloc (.cells C e)
  have hb' : base ≤ (w.alloc (.cells C e)).heap.size := by simp; omega
  obtain ⟨v', w', hr, hv, hg, hnil⟩ := run_append_own (P := P) (w.alloc (.cells C e)) base t o.type e i z i.size i.bytes E.und hi hz rfl rfl hzs hpos v n xs hown' ⟨w.heap.size, 0, none⟩ 1 1 C.toList hlC hnews h1 h63 hb hb'
  have hnew : ∀ b, v'.ownBlock = some b → v.ownBlock = some b ∨ w.heap.size ≤ b := fun b hvb => by
    rcases hown'.2 with ⟨rfl, rfl⟩ | ⟨g, cap, cur, rfl, hbg, hgc, hnc, hcm, hcs, htake⟩
    · have h2 := run_append_nil (P := P) (w.alloc (.cells C e)) t o.type e i z E.und hi hz ⟨w.heap.size, 0, none⟩ 1 1 C.toList hlC hnews (by omega) (by omega) (by rw [Nat.zero_add] at hb; omega)
      rw [hr] at h2
      injection h2 with e1 e2
      rw [e1] at hvb
      simp [Value.ownBlock] at hvb
      right
      omega
    · by_cases hroom : n + 1 ≤ cap
      · have hfit : n * i.size + C.toList.length ≤ cur.size := by rw [hlC, hcs, ← Nat.add_mul]; exact Nat.mul_le_mul_right _ hroom
        have h2 := run_append_room (P := P) (w.alloc (.cells C e)) t o.type e i E.und hi g n cap cur hgc ⟨w.heap.size, 0, none⟩ 1 1 C.toList hlC hnews h1 hroom hfit
        rw [hr] at h2
        injection h2 with e1 e2
        rw [e1] at hvb
        simp [Value.ownBlock] at hvb
        left
        rw [← hvb]
        rfl
      · have h2 := run_append_grow (P := P) (w.alloc (.cells C e)) t o.type e i z E.und hi hz ⟨g, 0, none⟩ n cap xs hown'.1 (hown'.cells (g := g) rfl) ⟨w.heap.size, 0, none⟩ 1 1 C.toList hlC hnews (by omega) (by omega) (growslice_fits (by omega) hb)
        rw [hr] at h2
        injection h2 with e1 e2
        rw [e1] at hvb
        simp [Value.ownBlock] at hvb
        right
        omega
  have hg' : w.grownBy w' v.ownBlock := (World.grownBy_alloc w _ _).trans hg
  refine wpList_plain hgd fun K hK => ?_
  have hk2 := hK _ _ (h v' w' hv hg' hnew)
  unfold Oper.wp execOp
  simp only [ho, resolve, invoke, builtin, Sem.run_bind, Sem.run_pure, Result.andThen_ok, List.map_toArray, List.map_cons, List.map_nil, hs, hx, hr]
  exact hk2
end Go.Proofs.YtdaklffbfadghaaGreat

namespace Go.Proofs.YtdaklffbfadghaaGreat
open Go.RowKit HP
set_option linter.unusedVariables false
set_option linter.unusedSimpArgs false
set_option maxHeartbeats 4000000 in
set_option maxRecDepth 100000 in
theorem grow1_any {h : Hp} {r : Rw} {w : World} (L : LR w h r) (I : Inv h.m) (hn : r.n ≤ 64) (P : Pcs h.m 1 r.ps r.n) (hc : h.calls < 1000000000) :
    Calls Tryz.prog 109 #[r.ptr] w fun e w' => ∃ (ok : Bool) (m' : HM) (r2 : Rw), e = .returned (.int .i64 (if ok then 0 else 3)) ∧ LS w h r w' m' r2 ∧ Grew h.m m' 1 r.ps r2.ps r.n ok ∧ r2.n = r.n + (if ok then 1 else 0) ∧ r2.closed = r.closed ∧ r2.more = r.more := by
  have hlt := L.rlt r.blk (.inl rfl)
  have c0 := L.k0
  have c1 := L.k1
  have c2 := L.k2
  have f1 := L.free 1
  have f2 := L.free 2
  have HX0 : Hid (LB w h r w h.m r []) := LB.start L
  have HI := hide I
  have HP := hide P
  have hrp : r.ptr = .pointer (some ⟨r.blk, 0, none⟩) := rfl
  obtain ⟨hptr, ehp⟩ : ∃ v, v = h.ptr := ⟨_, rfl⟩
  rw [← ehp] at c0
  rw [hrp]
  obtain ⟨b, eb⟩ : ∃ b, b = r.blk := ⟨_, rfl⟩
  rw [← eb] at hlt c0 c1 c2 f1 f2 ⊢
  have HAL : Hid (∀ W, LB w h r W h.m r [] → Calls Tryz.prog 9 #[hptr, .int .i64 32, .int .i64 8] W fun e W' => e = .returned (.tuple #[.int .i64 (allocM h.m 32 8).2.1, .int .i64 (allocM h.m 32 8).2.2]) ∧ LB w h r W' (allocM h.m 32 8).1 r []) := fun W X => by
    rw [ehp]
    exact lb_alloc X I hc _ _
  obtain ⟨n, en⟩ : ∃ n, n = r.n := ⟨_, rfl⟩
  have HEN := hide en
  have HEB := hide eb
  rw [← en] at c2 hn
  have hni : (n : Int) ≤ 64 := by omega
  clear P I L ehp hrp eb
  by_cases h64 : n = 64
  · have hd1 : ((n : Int) == 64) = true := by simp; omega
    have HG := hide (grew_full HI.out (by have := HP.out; rw [← en, h64] at this; exact this))
    rw [← h64, en] at HG
    clear h64 en
    go_enter Tryz.func109, Tryz.ntmps109
    go_wp2_with fail
    go_ret
    exact ⟨false, h.m, r, rfl, HX0.out.ls, HG.out, by simp, rfl, rfl⟩
  · have hd1 : ((n : Int) == 64) = false := by simp; omega
    have hn2 : n < 64 := by omega
    obtain ⟨c, hcc⟩ : ∃ c, c = n % 4 := ⟨_, rfl⟩
    have hr4 : Int.tmod (n : Int) 4 = (c : Int) := by rw [hcc]; rfl
    have hc4 : c < 4 := by omega
    have hwc : wrap64 (c : Int) = (c : Int) := wrap_small _ (by omega)
    have hwn : wrap64 ((n : Int) + 1) = ((n + 1 : Nat) : Int) := by have := wrap_small (n + 1) (by omega); push_cast at this ⊢; exact this
    by_cases hz : c = 0
    · have hd2 : ((c : Int) == 0) = true := by simp; omega
      have hn4 : r.n % 4 = 0 := by rw [← en, ← hcc]; exact hz
      have HN4 := hide hn4
      have hn2' : r.n < 64 := by omega
      have HN2 := hide hn2'
      clear hn4 hn2' hz hcc en
      go_enter Tryz.func109, Tryz.ntmps109
      go_wp2_with fail
      have hxc := ext_cell
      refine Ri.wp_region_cut 7 (fun w1 => ∃ k, w1 = ext _ k) (by kernel_rfl) (by kernel_rfl) rfl rfl (ext_of_q (Q.drew (Q.refl _))) ?_
      simp only [List.take_succ_cons, List.take_zero, List.drop_succ_cons, List.drop_zero]
      repeat (go_big_quiet_step (((go_at_call 128; exact ext_call (size1_any _ _)))))
      clear hxc
      refine wpQuiet_nil ?_
      intro w4 hww4
      have hqw4 := q_of_ext hww4
      clear hww4
      obtain ⟨hcw4, hfw4, hzw4⟩ := hqw4.facts
      try simp at hzw4
      have HX4 := hide (HX0.out.q hqw4)
      refine Ri.wp_callP #[hptr, .int .i64 32, .int .i64 8] rfl (by simp [Act.eval]) Tryz.func9 (by kernel_rfl) (by kernel_rfl) ((HAL.out _ HX4.out).mono ?_)
      rintro e w5 ⟨rfl, hX5⟩
      refine ⟨_, rfl, ?_⟩
      have HX5 := hide hX5
      obtain ⟨al, eal⟩ : ∃ al, al = (allocM h.m 32 8).2.1 := ⟨_, rfl⟩
      obtain ⟨er, eer⟩ : ∃ er, er = (allocM h.m 32 8).2.2 := ⟨_, rfl⟩
      rw [← eal, ← eer]
      have HAE := hide eal
      have HEE := hide eer
      clear hX5 hcw4 hfw4 hzw4 hqw4 eal eer
      refine ⟨fun w1 => ∃ k, w1 = ext _ k, ext_of_q (Q.refl _), ?_⟩
      try simp only [Act.put, List.setIfInBounds_toArray, List.set_cons_succ, List.set_cons_zero]
      have hxc := ext_cell
      repeat (go_big_quiet_step ((fail)))
      clear hxc
      refine wpQuiet_nil ?_
      intro w6 hww6
      have hqw6 := q_of_ext hww6
      clear hww6
      obtain ⟨hcw6, hfw6, hzw6⟩ := hqw6.facts
      try simp at hzw6
      have HX6 := hide (HX5.out.q hqw6)
      clear hcw6 hfw6 hzw6 hqw6
      by_cases he : er = 0
      · have hE : (allocM h.m 32 8).2.2 = 0 := by rw [← HEE.out]; exact he
        have HG : Hid (Grew h.m (allocM h.m 32 8).1 1 r.ps (r.ps ++ [(allocM h.m 32 8).2.1]) r.n true) := grew_yes HI.out HP.out HN2.out HN4.out (by decide) hE
        rw [← HAE.out] at HG
        have hd3 : (er == 0) = true := by simp; omega
        have k1 := HX6.out.ls.k1
        have k2 := HX6.out.ls.k2
        have f1 := HX6.out.ls.free 1
        have f2 := HX6.out.ls.free 2
        rw [← HEB.out] at k1 k2 f1 f2
        rw [← HEN.out] at k2
        have hlt6 := HX6.out.ls.lt
        rw [← HEB.out] at hlt6
        have hown := HX6.out.owns
        have hps : r.ps.length ≤ 100 := by have := HP.out.len; have := HN2.out; omega
        have HAP := hide HX6.out.ap
        rw [← HEB.out] at HAP
        have HF : Hid (∀ W2 v, w6.grownBy W2 r.pv.ownBlock → W2.ownsRow 0 3 1 v (r.ps.length + 1) (intsV r.ps ++ [.int .i64 al]) → (∀ g, v.ownBlock = some g → r.pv.ownBlock = some g ∨ w6.heap.size ≤ g) →
            LS w h r ((W2.setCell ⟨b, 1, none⟩ v).setCell ⟨b, 2, none⟩ (.int .i64 ((n : Int) + 1))) (allocM h.m 32 8).1 { r with pv := v, ps := r.ps ++ [al], n := r.n + 1 }) := fun W2 v hg hv hnw => by
          have e1 : (r.ps ++ [al]).length = r.ps.length + 1 := by simp
          have e2 : intsV (r.ps ++ [al]) = intsV r.ps ++ [.int .i64 al] := by unfold intsV; simp
          have := ((HX6.out.row (ps := r.ps ++ [al]) hg (by rw [e1, e2]; exact hv) hnw).setN (r.n + 1)).ls
          rw [HEB.out, HEN.out]
          push_cast at this
          exact this
        clear hE he c1 c2 f1 f2
        have f1' := HX6.out.ls.free 1
        have f2' := HX6.out.ls.free 2
        rw [← HEB.out] at f1' f2'
        go_wp2_with (at_builtin; refine wpList_app1b rfl El_int _ _ rfl rfl hown rfl rfl rfl ?_ ?_ ?_ ?_; (focus (simp [Value.oneCell'])); (focus omega); (focus omega); intro v1 w7 hown7 hg7 hn7; obtain ⟨A7, cc7, e7, -⟩ := own_form hown7; have hnb := (fun e => HAP.out b e.symm rfl : ¬ some b = r.pv.ownBlock); have q7 : w7.heap[b]? = w6.heap[b]? := hg7.block b hlt6 (fun e => hnb e); have j1 : w7.cell? ⟨b, 1, none⟩ = some r.pv := (World.cell?_of_block q7).trans k1; have j2 : w7.cell? ⟨b, 2, none⟩ = some (.int .i64 (n : Int)) := (World.cell?_of_block q7).trans k2; have g1 : w7.frozen? ⟨b, 1, none⟩ = false := (World.frozen?_of_block q7).trans f1'; have g2 : w7.frozen? ⟨b, 2, none⟩ = false := (World.frozen?_of_block q7).trans f2'; have HFF := hide (HF.out w7 v1 hg7 hown7 hn7); clear hown7 hg7 hn7 q7 k1 k2 f1' f2' hnb HF; subst e7)
        go_ret
        exact ⟨true, _, _, rfl, HFF.out, HG.out, rfl, rfl, rfl⟩
      · have HG : Hid (Grew h.m (allocM h.m 32 8).1 1 r.ps r.ps r.n false) := grew_no HI.out HP.out HN2.out HN4.out (by decide) (fun e => he (HEE.out.trans e))
        have hd3 : (er == 0) = false := by simp; omega
        clear he
        go_wp2_with fail
        go_ret
        exact ⟨false, _, r, rfl, HX6.out.ls, HG.out, by simp, rfl, rfl⟩
    · have hd2 : ((c : Int) == 0) = false := by simp; omega
      have HG := hide (grew_same HI.out HP.out (by omega) (by rw [← en, ← hcc]; exact hz))
      have HX1 : Hid (LB w h r (w.setCell ⟨b, 2, none⟩ (.int .i64 ((n : Int) + 1))) h.m { r with n := r.n + 1 } []) := by
        rw [HEB.out, en]
        have := HX0.out.setN (r.n + 1)
        push_cast at this
        exact this
      clear hz hcc en
      go_enter Tryz.func109, Tryz.ntmps109
      go_wp2_with fail
      go_ret
      refine ⟨true, h.m, { r with n := r.n + 1 }, rfl, ?_, HG.out, rfl, rfl, rfl⟩
      exact HX1.out.ls
set_option maxHeartbeats 4000000 in
set_option maxRecDepth 100000 in
theorem drop1_any {h : Hp} {r : Rw} {w : World} (L : LR w h r) (I : Inv h.m) (k : Nat) (hk : r.n = k + 1) (hk64 : k < 64) (P : Pcs h.m 1 r.ps (k + 1)) :
    Calls Tryz.prog 102 #[r.ptr] w fun e w' => ∃ (m' : HM) (r2 : Rw), e = .returned (.tuple #[]) ∧ LS w h r w' m' r2 ∧ Dropd h.m m' 1 r.ps r2.ps k ∧ r2.n = k ∧ r2.closed = r.closed ∧ r2.more = r.more := by
  have hlt := L.rlt r.blk (.inl rfl)
  have c2 := L.k2
  have f2 := L.free 2
  have HX0 : Hid (LB w h r w h.m r []) := LB.start L
  have HX1 := hide (HX0.out.setN k)
  have HI := hide I
  have HP := hide P
  have hrp : r.ptr = .pointer (some ⟨r.blk, 0, none⟩) := rfl
  rw [hrp]
  obtain ⟨b, eb⟩ : ∃ b, b = r.blk := ⟨_, rfl⟩
  have HX1 : Hid (LB w h r (w.setCell ⟨b, 2, none⟩ (.int .i64 (k : Int))) h.m { r with n := k } []) := by rw [eb]; exact HX1.out
  rw [← eb] at hlt c2 f2 ⊢
  rw [hk] at c2
  push_cast at c2
  obtain ⟨c, hcc⟩ : ∃ c, c = k % 4 := ⟨_, rfl⟩
  have hr4 : Int.tmod (k : Int) 4 = (c : Int) := by rw [hcc]; rfl
  have hc4 : c < 4 := by omega
  have hki : (k : Int) < 64 := by omega
  have HEB := hide eb
  clear P I L hrp
  by_cases hz : c = 0
  · have hd2 : ((c : Int) == 0) = true := by simp; omega
    have HN4 : Hid (k % 4 = 0) := by rw [← hcc]; exact hz
    obtain ⟨qs, p, eps, hp0, hp1, hfr, hD⟩ := dropd_free HI.out HP.out HN4.out
    have HDD := hide hD
    have HEPS := hide eps
    obtain ⟨g, cc, epv, cP, hgl⟩ := HX0.out.ls.piece (i := qs.length) (p := p) (by rw [eps]; simp)
    have hown := HX0.out.owns
    have hgb : g ≠ b := by rw [eb]; exact HX0.out.ap g (by rw [epv]; rfl)
    have epl : r.ps.length = qs.length + 1 := by rw [eps]; simp
    have hcap : qs.length + 1 ≤ cc := by
      rw [epv, epl] at hown
      rcases hown.2 with ⟨h0, -⟩ | ⟨g', cap, cur, e1, hb, hh, h1, h2⟩
      · cases h0
      · cases e1
        exact h1
    have hql : qs.length ≤ 100 := by have := HP.out.len; omega
    obtain ⟨n, hn⟩ : ∃ n, n = qs.length := ⟨_, rfl⟩
    have HFIN : Hid (∀ W, LB w h r W (freeM h.m p).1 { r with n := k } [] → LS w h r (W.setCell ⟨b, 1, none⟩ (.slice (some ⟨g, 0, none⟩) n cc)) (freeM h.m p).1 { r with pv := .slice (some ⟨g, 0, none⟩) n cc, ps := qs, n := k }) := fun W X => by
      have ho := X.owns
      have ho : W.ownsRow 0 3 1 r.pv r.ps.length (intsV r.ps) := ho
      rw [epv, epl] at ho
      have ho2 := own_take ho (k := qs.length) (by omega)
      have e3 : (intsV r.ps).take (qs.length * 1) = intsV qs := by
        rw [eps]
        unfold intsV
        rw [List.map_append, Nat.mul_one, List.take_left' (by simp)]
      rw [e3, ← hn] at ho2
      rw [eb]
      refine (X.row (W2 := W) (v := .slice (some ⟨g, 0, none⟩) n cc) (ps := qs) ⟨rfl, rfl, rfl, Nat.le_refl _, fun _ _ _ => rfl⟩ (by rw [← hn]; exact ho2) fun b' hb' => .inl ?_).ls
      show r.pv.ownBlock = some b'
      rw [epv]
      exact hb'
    have HFREE : Hid (∀ W, LB w h r W h.m { r with n := k } [] → Calls Tryz.prog 108 #[h.ptr, .int .i64 p] W fun e W' => e = .returned (.int .i64 (freeM h.m p).2) ∧ LB w h r W' (freeM h.m p).1 { r with n := k } []) := fun W X => lb_free X HI.out p (by omega) (by omega)
    have HK : Hid (∀ W m', LB w h r W m' { r with n := k } [] → W.cell? ⟨b, 0, none⟩ = some h.ptr ∧ W.cell? ⟨b, 1, none⟩ = some (.slice (some ⟨g, 0, none⟩) (n + 1) cc) ∧ W.cell? ⟨b, 2, none⟩ = some (.int .i64 (k : Int)) ∧ W.frozen? ⟨b, 1, none⟩ = false ∧ b < W.heap.size) := fun W m' X => by
      rw [eb]
      refine ⟨X.ls.k0, ?_, X.ls.k2, X.ls.free 1, X.ls.lt⟩
      have := X.ls.k1
      have : W.cell? ⟨r.blk, 1, none⟩ = some r.pv := this
      rw [epv, epl, ← hn] at this
      exact this
    obtain ⟨hptr, ehp⟩ : ∃ v, v = h.ptr := ⟨_, rfl⟩
    rw [← ehp] at HFREE HK
    rw [← hn] at cP hcap hql
    have hnc : n ≤ cc := by omega
    have hnn : (n : Int) < ((n + 1 : Nat) : Int) := by omega
    have hni : (n : Int) ≤ 100 := by omega
    have j0 := HX0.out.ls.k0
    have j1 := HX0.out.ls.k1
    have f1 := HX0.out.ls.free 1
    rw [epv, epl, ← hn] at j1
    rw [← ehp] at j0
    rw [← eb] at j0 j1 f1
    have hbg : ¬ b = g := fun e => hgb e.symm
    have hwn : wrap64 (n : Int) = (n : Int) := wrap_small _ (by omega)
    clear hD eps epv hown epl hn hz hcc ehp eb hk hfr
    go_enter Tryz.func102, Tryz.ntmps102
    go_wp2_with fail
    have hxc := ext_cell
    refine Ri.wp_region_cut 11 (fun w1 => ∃ k, w1 = ext _ k) (by kernel_rfl) (by kernel_rfl) rfl rfl (ext_of_q (Q.drew (Q.refl _))) ?_
    simp only [List.take_succ_cons, List.take_zero, List.drop_succ_cons, List.drop_zero]
    repeat (go_big_quiet_step ((fail)))
    clear hxc
    refine wpQuiet_nil ?_
    intro w4 hww4
    have hqw4 := q_of_ext hww4
    clear hww4
    obtain ⟨hcw4, hfw4, hzw4⟩ := hqw4.facts
    try simp at hzw4
    have HX4 := hide (HX1.out.q hqw4)
    refine Ri.wp_callP #[hptr, .int .i64 p] rfl (by simp [Act.eval]) Tryz.func108 (by kernel_rfl) (by kernel_rfl) ((HFREE.out _ HX4.out).mono ?_)
    rintro e w5 ⟨rfl, hX5⟩
    refine ⟨_, rfl, ?_⟩
    have HX5 := hide hX5
    clear hX5 hcw4 hfw4 hzw4 hqw4 j0 j1 f1 f2 c2 cP
    refine ⟨fun w1 => ∃ k, w1 = ext _ k, ext_of_q (Q.refl _), ?_⟩
    try simp only [Act.put, List.setIfInBounds_toArray, List.set_cons_succ, List.set_cons_zero]
    have hxc := ext_cell
    repeat (go_big_quiet_step ((fail)))
    clear hxc
    refine wpQuiet_nil ?_
    intro w6 hww6
    have hqw6 := q_of_ext hww6
    clear hww6
    obtain ⟨hcw6, hfw6, hzw6⟩ := hqw6.facts
    try simp at hzw6
    have HX6 := hide (HX5.out.q hqw6)
    clear hcw6 hfw6 hzw6 hqw6
    obtain ⟨j0, j1, j2, g1, hbl⟩ := HK.out _ _ HX6.out
    go_wp2_with fail
    go_end0
    exact ⟨_, _, rfl, HFIN.out _ HX6.out, HDD.out, rfl, rfl, rfl⟩
  · have hd2 : ((c : Int) == 0) = false := by simp; omega
    have HD := hide (dropd_same HI.out HP.out (by rw [← hcc]; exact hz))
    clear hz hcc hk eb
    go_enter Tryz.func102, Tryz.ntmps102
    go_wp2_with fail
    go_end0
    exact ⟨h.m, _, rfl, HX1.out.ls, HD.out, rfl, rfl, rfl⟩
end Go.Proofs.YtdaklffbfadghaaGreat

namespace Go.Proofs.YtdaklffbfadghaaGreat
open Go.RowKit HP
set_option linter.unusedVariables false
set_option linter.unusedSimpArgs false
set_option maxHeartbeats 4000000 in
set_option maxRecDepth 100000 in
theorem grow2_any {h : Hp} {r : Rw} {w : World} (L : LR w h r) (I : Inv h.m) (hn : r.n ≤ 64) (P : Pcs h.m 2 r.ps r.n) (hc : h.calls < 1000000000) :
    Calls Tryz.prog 104 #[r.ptr] w fun e w' => ∃ (ok : Bool) (m' : HM) (r2 : Rw), e = .returned (.int .i64 (if ok then 0 else 3)) ∧ LS w h r w' m' r2 ∧ Grew h.m m' 2 r.ps r2.ps r.n ok ∧ r2.n = r.n + (if ok then 1 else 0) ∧ r2.closed = r.closed ∧ r2.more = r.more := by
  have hlt := L.rlt r.blk (.inl rfl)
  have c0 := L.k0
  have c1 := L.k1
  have c2 := L.k2
  have f1 := L.free 1
  have f2 := L.free 2
  have HX0 : Hid (LB w h r w h.m r []) := LB.start L
  have HI := hide I
  have HP := hide P
  have hrp : r.ptr = .pointer (some ⟨r.blk, 0, none⟩) := rfl
  obtain ⟨hptr, ehp⟩ : ∃ v, v = h.ptr := ⟨_, rfl⟩
  rw [← ehp] at c0
  rw [hrp]
  obtain ⟨b, eb⟩ : ∃ b, b = r.blk := ⟨_, rfl⟩
  rw [← eb] at hlt c0 c1 c2 f1 f2 ⊢
  have HAL : Hid (∀ W, LB w h r W h.m r [] → Calls Tryz.prog 9 #[hptr, .int .i64 64, .int .i64 8] W fun e W' => e = .returned (.tuple #[.int .i64 (allocM h.m 64 8).2.1, .int .i64 (allocM h.m 64 8).2.2]) ∧ LB w h r W' (allocM h.m 64 8).1 r []) := fun W X => by
    rw [ehp]
    exact lb_alloc X I hc _ _
  obtain ⟨n, en⟩ : ∃ n, n = r.n := ⟨_, rfl⟩
  have HEN := hide en
  have HEB := hide eb
  rw [← en] at c2 hn
  have hni : (n : Int) ≤ 64 := by omega
  clear P I L ehp hrp eb
  by_cases h64 : n = 64
  · have hd1 : ((n : Int) == 64) = true := by simp; omega
    have HG := hide (grew_full HI.out (by have := HP.out; rw [← en, h64] at this; exact this))
    rw [← h64, en] at HG
    clear h64 en
    go_enter Tryz.func104, Tryz.ntmps104
    go_wp2_with fail
    go_ret
    exact ⟨false, h.m, r, rfl, HX0.out.ls, HG.out, by simp, rfl, rfl⟩
  · have hd1 : ((n : Int) == 64) = false := by simp; omega
    have hn2 : n < 64 := by omega
    obtain ⟨c, hcc⟩ : ∃ c, c = n % 4 := ⟨_, rfl⟩
    have hr4 : Int.tmod (n : Int) 4 = (c : Int) := by rw [hcc]; rfl
    have hc4 : c < 4 := by omega
    have hwc : wrap64 (c : Int) = (c : Int) := wrap_small _ (by omega)
    have hwn : wrap64 ((n : Int) + 1) = ((n + 1 : Nat) : Int) := by have := wrap_small (n + 1) (by omega); push_cast at this ⊢; exact this
    by_cases hz : c = 0
    · have hd2 : ((c : Int) == 0) = true := by simp; omega
      have hn4 : r.n % 4 = 0 := by rw [← en, ← hcc]; exact hz
      have HN4 := hide hn4
      have hn2' : r.n < 64 := by omega
      have HN2 := hide hn2'
      clear hn4 hn2' hz hcc en
      go_enter Tryz.func104, Tryz.ntmps104
      go_wp2_with fail
      have hxc := ext_cell
      refine Ri.wp_region_cut 7 (fun w1 => ∃ k, w1 = ext _ k) (by kernel_rfl) (by kernel_rfl) rfl rfl (ext_of_q (Q.drew (Q.refl _))) ?_
      simp only [List.take_succ_cons, List.take_zero, List.drop_succ_cons, List.drop_zero]
      repeat (go_big_quiet_step (((go_at_call 125; exact ext_call (size2_any _ _)))))
      clear hxc
      refine wpQuiet_nil ?_
      intro w4 hww4
      have hqw4 := q_of_ext hww4
      clear hww4
      obtain ⟨hcw4, hfw4, hzw4⟩ := hqw4.facts
      try simp at hzw4
      have HX4 := hide (HX0.out.q hqw4)
      refine Ri.wp_callP #[hptr, .int .i64 64, .int .i64 8] rfl (by simp [Act.eval]) Tryz.func9 (by kernel_rfl) (by kernel_rfl) ((HAL.out _ HX4.out).mono ?_)
      rintro e w5 ⟨rfl, hX5⟩
      refine ⟨_, rfl, ?_⟩
      have HX5 := hide hX5
      obtain ⟨al, eal⟩ : ∃ al, al = (allocM h.m 64 8).2.1 := ⟨_, rfl⟩
      obtain ⟨er, eer⟩ : ∃ er, er = (allocM h.m 64 8).2.2 := ⟨_, rfl⟩
      rw [← eal, ← eer]
      have HAE := hide eal
      have HEE := hide eer
      clear hX5 hcw4 hfw4 hzw4 hqw4 eal eer
      refine ⟨fun w1 => ∃ k, w1 = ext _ k, ext_of_q (Q.refl _), ?_⟩
      try simp only [Act.put, List.setIfInBounds_toArray, List.set_cons_succ, List.set_cons_zero]
      have hxc := ext_cell
      repeat (go_big_quiet_step ((fail)))
      clear hxc
      refine wpQuiet_nil ?_
      intro w6 hww6
      have hqw6 := q_of_ext hww6
      clear hww6
      obtain ⟨hcw6, hfw6, hzw6⟩ := hqw6.facts
      try simp at hzw6
      have HX6 := hide (HX5.out.q hqw6)
      clear hcw6 hfw6 hzw6 hqw6
      by_cases he : er = 0
      · have hE : (allocM h.m 64 8).2.2 = 0 := by rw [← HEE.out]; exact he
        have HG : Hid (Grew h.m (allocM h.m 64 8).1 2 r.ps (r.ps ++ [(allocM h.m 64 8).2.1]) r.n true) := grew_yes HI.out HP.out HN2.out HN4.out (by decide) hE
        rw [← HAE.out] at HG
        have hd3 : (er == 0) = true := by simp; omega
        have k1 := HX6.out.ls.k1
        have k2 := HX6.out.ls.k2
        have f1 := HX6.out.ls.free 1
        have f2 := HX6.out.ls.free 2
        rw [← HEB.out] at k1 k2 f1 f2
        rw [← HEN.out] at k2
        have hlt6 := HX6.out.ls.lt
        rw [← HEB.out] at hlt6
        have hown := HX6.out.owns
        have hps : r.ps.length ≤ 100 := by have := HP.out.len; have := HN2.out; omega
        have HAP := hide HX6.out.ap
        rw [← HEB.out] at HAP
        have HF : Hid (∀ W2 v, w6.grownBy W2 r.pv.ownBlock → W2.ownsRow 0 3 1 v (r.ps.length + 1) (intsV r.ps ++ [.int .i64 al]) → (∀ g, v.ownBlock = some g → r.pv.ownBlock = some g ∨ w6.heap.size ≤ g) →
            LS w h r ((W2.setCell ⟨b, 1, none⟩ v).setCell ⟨b, 2, none⟩ (.int .i64 ((n : Int) + 1))) (allocM h.m 64 8).1 { r with pv := v, ps := r.ps ++ [al], n := r.n + 1 }) := fun W2 v hg hv hnw => by
          have e1 : (r.ps ++ [al]).length = r.ps.length + 1 := by simp
          have e2 : intsV (r.ps ++ [al]) = intsV r.ps ++ [.int .i64 al] := by unfold intsV; simp
          have := ((HX6.out.row (ps := r.ps ++ [al]) hg (by rw [e1, e2]; exact hv) hnw).setN (r.n + 1)).ls
          rw [HEB.out, HEN.out]
          push_cast at this
          exact this
        clear hE he c1 c2 f1 f2
        have f1' := HX6.out.ls.free 1
        have f2' := HX6.out.ls.free 2
        rw [← HEB.out] at f1' f2'
        go_wp2_with (at_builtin; refine wpList_app1b rfl El_int _ _ rfl rfl hown rfl rfl rfl ?_ ?_ ?_ ?_; (focus (simp [Value.oneCell'])); (focus omega); (focus omega); intro v1 w7 hown7 hg7 hn7; obtain ⟨A7, cc7, e7, -⟩ := own_form hown7; have hnb := (fun e => HAP.out b e.symm rfl : ¬ some b = r.pv.ownBlock); have q7 : w7.heap[b]? = w6.heap[b]? := hg7.block b hlt6 (fun e => hnb e); have j1 : w7.cell? ⟨b, 1, none⟩ = some r.pv := (World.cell?_of_block q7).trans k1; have j2 : w7.cell? ⟨b, 2, none⟩ = some (.int .i64 (n : Int)) := (World.cell?_of_block q7).trans k2; have g1 : w7.frozen? ⟨b, 1, none⟩ = false := (World.frozen?_of_block q7).trans f1'; have g2 : w7.frozen? ⟨b, 2, none⟩ = false := (World.frozen?_of_block q7).trans f2'; have HFF := hide (HF.out w7 v1 hg7 hown7 hn7); clear hown7 hg7 hn7 q7 k1 k2 f1' f2' hnb HF; subst e7)
        go_ret
        exact ⟨true, _, _, rfl, HFF.out, HG.out, rfl, rfl, rfl⟩
      · have HG : Hid (Grew h.m (allocM h.m 64 8).1 2 r.ps r.ps r.n false) := grew_no HI.out HP.out HN2.out HN4.out (by decide) (fun e => he (HEE.out.trans e))
        have hd3 : (er == 0) = false := by simp; omega
        clear he
        go_wp2_with fail
        go_ret
        exact ⟨false, _, r, rfl, HX6.out.ls, HG.out, by simp, rfl, rfl⟩
    · have hd2 : ((c : Int) == 0) = false := by simp; omega
      have HG := hide (grew_same HI.out HP.out (by omega) (by rw [← en, ← hcc]; exact hz))
      have HX1 : Hid (LB w h r (w.setCell ⟨b, 2, none⟩ (.int .i64 ((n : Int) + 1))) h.m { r with n := r.n + 1 } []) := by
        rw [HEB.out, en]
        have := HX0.out.setN (r.n + 1)
        push_cast at this
        exact this
      clear hz hcc en
      go_enter Tryz.func104, Tryz.ntmps104
      go_wp2_with fail
      go_ret
      refine ⟨true, h.m, { r with n := r.n + 1 }, rfl, ?_, HG.out, rfl, rfl, rfl⟩
      exact HX1.out.ls
set_option maxHeartbeats 4000000 in
set_option maxRecDepth 100000 in
theorem drop2_any {h : Hp} {r : Rw} {w : World} (L : LR w h r) (I : Inv h.m) (k : Nat) (hk : r.n = k + 1) (hk64 : k < 64) (P : Pcs h.m 2 r.ps (k + 1)) :
    Calls Tryz.prog 105 #[r.ptr] w fun e w' => ∃ (m' : HM) (r2 : Rw), e = .returned (.tuple #[]) ∧ LS w h r w' m' r2 ∧ Dropd h.m m' 2 r.ps r2.ps k ∧ r2.n = k ∧ r2.closed = r.closed ∧ r2.more = r.more := by
  have hlt := L.rlt r.blk (.inl rfl)
  have c2 := L.k2
  have f2 := L.free 2
  have HX0 : Hid (LB w h r w h.m r []) := LB.start L
  have HX1 := hide (HX0.out.setN k)
  have HI := hide I
  have HP := hide P
  have hrp : r.ptr = .pointer (some ⟨r.blk, 0, none⟩) := rfl
  rw [hrp]
  obtain ⟨b, eb⟩ : ∃ b, b = r.blk := ⟨_, rfl⟩
  have HX1 : Hid (LB w h r (w.setCell ⟨b, 2, none⟩ (.int .i64 (k : Int))) h.m { r with n := k } []) := by rw [eb]; exact HX1.out
  rw [← eb] at hlt c2 f2 ⊢
  rw [hk] at c2
  push_cast at c2
  obtain ⟨c, hcc⟩ : ∃ c, c = k % 4 := ⟨_, rfl⟩
  have hr4 : Int.tmod (k : Int) 4 = (c : Int) := by rw [hcc]; rfl
  have hc4 : c < 4 := by omega
  have hki : (k : Int) < 64 := by omega
  have HEB := hide eb
  clear P I L hrp
  by_cases hz : c = 0
  · have hd2 : ((c : Int) == 0) = true := by simp; omega
    have HN4 : Hid (k % 4 = 0) := by rw [← hcc]; exact hz
    obtain ⟨qs, p, eps, hp0, hp1, hfr, hD⟩ := dropd_free HI.out HP.out HN4.out
    have HDD := hide hD
    have HEPS := hide eps
    obtain ⟨g, cc, epv, cP, hgl⟩ := HX0.out.ls.piece (i := qs.length) (p := p) (by rw [eps]; simp)
    have hown := HX0.out.owns
    have hgb : g ≠ b := by rw [eb]; exact HX0.out.ap g (by rw [epv]; rfl)
    have epl : r.ps.length = qs.length + 1 := by rw [eps]; simp
    have hcap : qs.length + 1 ≤ cc := by
      rw [epv, epl] at hown
      rcases hown.2 with ⟨h0, -⟩ | ⟨g', cap, cur, e1, hb, hh, h1, h2⟩
      · cases h0
      · cases e1
        exact h1
    have hql : qs.length ≤ 100 := by have := HP.out.len; omega
    obtain ⟨n, hn⟩ : ∃ n, n = qs.length := ⟨_, rfl⟩
    have HFIN : Hid (∀ W, LB w h r W (freeM h.m p).1 { r with n := k } [] → LS w h r (W.setCell ⟨b, 1, none⟩ (.slice (some ⟨g, 0, none⟩) n cc)) (freeM h.m p).1 { r with pv := .slice (some ⟨g, 0, none⟩) n cc, ps := qs, n := k }) := fun W X => by
      have ho := X.owns
      have ho : W.ownsRow 0 3 1 r.pv r.ps.length (intsV r.ps) := ho
      rw [epv, epl] at ho
      have ho2 := own_take ho (k := qs.length) (by omega)
      have e3 : (intsV r.ps).take (qs.length * 1) = intsV qs := by
        rw [eps]
        unfold intsV
        rw [List.map_append, Nat.mul_one, List.take_left' (by simp)]
      rw [e3, ← hn] at ho2
      rw [eb]
      refine (X.row (W2 := W) (v := .slice (some ⟨g, 0, none⟩) n cc) (ps := qs) ⟨rfl, rfl, rfl, Nat.le_refl _, fun _ _ _ => rfl⟩ (by rw [← hn]; exact ho2) fun b' hb' => .inl ?_).ls
      show r.pv.ownBlock = some b'
      rw [epv]
      exact hb'
    have HFREE : Hid (∀ W, LB w h r W h.m { r with n := k } [] → Calls Tryz.prog 108 #[h.ptr, .int .i64 p] W fun e W' => e = .returned (.int .i64 (freeM h.m p).2) ∧ LB w h r W' (freeM h.m p).1 { r with n := k } []) := fun W X => lb_free X HI.out p (by omega) (by omega)
    have HK : Hid (∀ W m', LB w h r W m' { r with n := k } [] → W.cell? ⟨b, 0, none⟩ = some h.ptr ∧ W.cell? ⟨b, 1, none⟩ = some (.slice (some ⟨g, 0, none⟩) (n + 1) cc) ∧ W.cell? ⟨b, 2, none⟩ = some (.int .i64 (k : Int)) ∧ W.frozen? ⟨b, 1, none⟩ = false ∧ b < W.heap.size) := fun W m' X => by
      rw [eb]
      refine ⟨X.ls.k0, ?_, X.ls.k2, X.ls.free 1, X.ls.lt⟩
      have := X.ls.k1
      have : W.cell? ⟨r.blk, 1, none⟩ = some r.pv := this
      rw [epv, epl, ← hn] at this
      exact this
    obtain ⟨hptr, ehp⟩ : ∃ v, v = h.ptr := ⟨_, rfl⟩
    rw [← ehp] at HFREE HK
    rw [← hn] at cP hcap hql
    have hnc : n ≤ cc := by omega
    have hnn : (n : Int) < ((n + 1 : Nat) : Int) := by omega
    have hni : (n : Int) ≤ 100 := by omega
    have j0 := HX0.out.ls.k0
    have j1 := HX0.out.ls.k1
    have f1 := HX0.out.ls.free 1
    rw [epv, epl, ← hn] at j1
    rw [← ehp] at j0
    rw [← eb] at j0 j1 f1
    have hbg : ¬ b = g := fun e => hgb e.symm
    have hwn : wrap64 (n : Int) = (n : Int) := wrap_small _ (by omega)
    clear hD eps epv hown epl hn hz hcc ehp eb hk hfr
    go_enter Tryz.func105, Tryz.ntmps105
    go_wp2_with fail
    have hxc := ext_cell
    refine Ri.wp_region_cut 11 (fun w1 => ∃ k, w1 = ext _ k) (by kernel_rfl) (by kernel_rfl) rfl rfl (ext_of_q (Q.drew (Q.refl _))) ?_
    simp only [List.take_succ_cons, List.take_zero, List.drop_succ_cons, List.drop_zero]
    repeat (go_big_quiet_step ((fail)))
    clear hxc
    refine wpQuiet_nil ?_
    intro w4 hww4
    have hqw4 := q_of_ext hww4
    clear hww4
    obtain ⟨hcw4, hfw4, hzw4⟩ := hqw4.facts
    try simp at hzw4
    have HX4 := hide (HX1.out.q hqw4)
    refine Ri.wp_callP #[hptr, .int .i64 p] rfl (by simp [Act.eval]) Tryz.func108 (by kernel_rfl) (by kernel_rfl) ((HFREE.out _ HX4.out).mono ?_)
    rintro e w5 ⟨rfl, hX5⟩
    refine ⟨_, rfl, ?_⟩
    have HX5 := hide hX5
    clear hX5 hcw4 hfw4 hzw4 hqw4 j0 j1 f1 f2 c2 cP
    refine ⟨fun w1 => ∃ k, w1 = ext _ k, ext_of_q (Q.refl _), ?_⟩
    try simp only [Act.put, List.setIfInBounds_toArray, List.set_cons_succ, List.set_cons_zero]
    have hxc := ext_cell
    repeat (go_big_quiet_step ((fail)))
    clear hxc
    refine wpQuiet_nil ?_
    intro w6 hww6
    have hqw6 := q_of_ext hww6
    clear hww6
    obtain ⟨hcw6, hfw6, hzw6⟩ := hqw6.facts
    try simp at hzw6
    have HX6 := hide (HX5.out.q hqw6)
    clear hcw6 hfw6 hzw6 hqw6
    obtain ⟨j0, j1, j2, g1, hbl⟩ := HK.out _ _ HX6.out
    go_wp2_with fail
    go_end0
    exact ⟨_, _, rfl, HFIN.out _ HX6.out, HDD.out, rfl, rfl, rfl⟩
  · have hd2 : ((c : Int) == 0) = false := by simp; omega
    have HD := hide (dropd_same HI.out HP.out (by rw [← hcc]; exact hz))
    clear hz hcc hk eb
    go_enter Tryz.func105, Tryz.ntmps105
    go_wp2_with fail
    go_end0
    exact ⟨h.m, _, rfl, HX1.out.ls, HD.out, rfl, rfl, rfl⟩
end Go.Proofs.YtdaklffbfadghaaGreat

namespace Go.Proofs.YtdaklffbfadghaaGreat
open Go.RowKit HP
set_option linter.unusedVariables false
set_option linter.unusedSimpArgs false
set_option maxHeartbeats 4000000 in
set_option maxRecDepth 100000 in
theorem grow3_any {h : Hp} {r : Rw} {w : World} (L : LR w h r) (I : Inv h.m) (hn : r.n ≤ 64) (P : Pcs h.m 3 r.ps r.n) (hc : h.calls < 1000000000) :
    Calls Tryz.prog 106 #[r.ptr] w fun e w' => ∃ (ok : Bool) (m' : HM) (r2 : Rw), e = .returned (.int .i64 (if ok then 0 else 3)) ∧ LS w h r w' m' r2 ∧ Grew h.m m' 3 r.ps r2.ps r.n ok ∧ r2.n = r.n + (if ok then 1 else 0) ∧ r2.closed = r.closed ∧ r2.more = r.more := by
  have hlt := L.rlt r.blk (.inl rfl)
  have c0 := L.k0
  have c1 := L.k1
  have c2 := L.k2
  have f1 := L.free 1
  have f2 := L.free 2
  have HX0 : Hid (LB w h r w h.m r []) := LB.start L
  have HI := hide I
  have HP := hide P
  have hrp : r.ptr = .pointer (some ⟨r.blk, 0, none⟩) := rfl
  obtain ⟨hptr, ehp⟩ : ∃ v, v = h.ptr := ⟨_, rfl⟩
  rw [← ehp] at c0
  rw [hrp]
  obtain ⟨b, eb⟩ : ∃ b, b = r.blk := ⟨_, rfl⟩
  rw [← eb] at hlt c0 c1 c2 f1 f2 ⊢
  have HAL : Hid (∀ W, LB w h r W h.m r [] → Calls Tryz.prog 9 #[hptr, .int .i64 96, .int .i64 8] W fun e W' => e = .returned (.tuple #[.int .i64 (allocM h.m 96 8).2.1, .int .i64 (allocM h.m 96 8).2.2]) ∧ LB w h r W' (allocM h.m 96 8).1 r []) := fun W X => by
    rw [ehp]
    exact lb_alloc X I hc _ _
  obtain ⟨n, en⟩ : ∃ n, n = r.n := ⟨_, rfl⟩
  have HEN := hide en
  have HEB := hide eb
  rw [← en] at c2 hn
  have hni : (n : Int) ≤ 64 := by omega
  clear P I L ehp hrp eb
  by_cases h64 : n = 64
  · have hd1 : ((n : Int) == 64) = true := by simp; omega
    have HG := hide (grew_full HI.out (by have := HP.out; rw [← en, h64] at this; exact this))
    rw [← h64, en] at HG
    clear h64 en
    go_enter Tryz.func106, Tryz.ntmps106
    go_wp2_with fail
    go_ret
    exact ⟨false, h.m, r, rfl, HX0.out.ls, HG.out, by simp, rfl, rfl⟩
  · have hd1 : ((n : Int) == 64) = false := by simp; omega
    have hn2 : n < 64 := by omega
    obtain ⟨c, hcc⟩ : ∃ c, c = n % 4 := ⟨_, rfl⟩
    have hr4 : Int.tmod (n : Int) 4 = (c : Int) := by rw [hcc]; rfl
    have hc4 : c < 4 := by omega
    have hwc : wrap64 (c : Int) = (c : Int) := wrap_small _ (by omega)
    have hwn : wrap64 ((n : Int) + 1) = ((n + 1 : Nat) : Int) := by have := wrap_small (n + 1) (by omega); push_cast at this ⊢; exact this
    by_cases hz : c = 0
    · have hd2 : ((c : Int) == 0) = true := by simp; omega
      have hn4 : r.n % 4 = 0 := by rw [← en, ← hcc]; exact hz
      have HN4 := hide hn4
      have hn2' : r.n < 64 := by omega
      have HN2 := hide hn2'
      clear hn4 hn2' hz hcc en
      go_enter Tryz.func106, Tryz.ntmps106
      go_wp2_with fail
      have hxc := ext_cell
      refine Ri.wp_region_cut 7 (fun w1 => ∃ k, w1 = ext _ k) (by kernel_rfl) (by kernel_rfl) rfl rfl (ext_of_q (Q.drew (Q.refl _))) ?_
      simp only [List.take_succ_cons, List.take_zero, List.drop_succ_cons, List.drop_zero]
      repeat (go_big_quiet_step (((go_at_call 126; exact ext_call (size3_any _ _)))))
      clear hxc
      refine wpQuiet_nil ?_
      intro w4 hww4
      have hqw4 := q_of_ext hww4
      clear hww4
      obtain ⟨hcw4, hfw4, hzw4⟩ := hqw4.facts
      try simp at hzw4
      have HX4 := hide (HX0.out.q hqw4)
      refine Ri.wp_callP #[hptr, .int .i64 96, .int .i64 8] rfl (by simp [Act.eval]) Tryz.func9 (by kernel_rfl) (by kernel_rfl) ((HAL.out _ HX4.out).mono ?_)
      rintro e w5 ⟨rfl, hX5⟩
      refine ⟨_, rfl, ?_⟩
      have HX5 := hide hX5
      obtain ⟨al, eal⟩ : ∃ al, al = (allocM h.m 96 8).2.1 := ⟨_, rfl⟩
      obtain ⟨er, eer⟩ : ∃ er, er = (allocM h.m 96 8).2.2 := ⟨_, rfl⟩
      rw [← eal, ← eer]
      have HAE := hide eal
      have HEE := hide eer
      clear hX5 hcw4 hfw4 hzw4 hqw4 eal eer
      refine ⟨fun w1 => ∃ k, w1 = ext _ k, ext_of_q (Q.refl _), ?_⟩
      try simp only [Act.put, List.setIfInBounds_toArray, List.set_cons_succ, List.set_cons_zero]
      have hxc := ext_cell
      repeat (go_big_quiet_step ((fail)))
      clear hxc
      refine wpQuiet_nil ?_
      intro w6 hww6
      have hqw6 := q_of_ext hww6
      clear hww6
      obtain ⟨hcw6, hfw6, hzw6⟩ := hqw6.facts
      try simp at hzw6
      have HX6 := hide (HX5.out.q hqw6)
      clear hcw6 hfw6 hzw6 hqw6
      by_cases he : er = 0
      · have hE : (allocM h.m 96 8).2.2 = 0 := by rw [← HEE.out]; exact he
        have HG : Hid (Grew h.m (allocM h.m 96 8).1 3 r.ps (r.ps ++ [(allocM h.m 96 8).2.1]) r.n true) := grew_yes HI.out HP.out HN2.out HN4.out (by decide) hE
        rw [← HAE.out] at HG
        have hd3 : (er == 0) = true := by simp; omega
        have k1 := HX6.out.ls.k1
        have k2 := HX6.out.ls.k2
        have f1 := HX6.out.ls.free 1
        have f2 := HX6.out.ls.free 2
        rw [← HEB.out] at k1 k2 f1 f2
        rw [← HEN.out] at k2
        have hlt6 := HX6.out.ls.lt
        rw [← HEB.out] at hlt6
        have hown := HX6.out.owns
        have hps : r.ps.length ≤ 100 := by have := HP.out.len; have := HN2.out; omega
        have HAP := hide HX6.out.ap
        rw [← HEB.out] at HAP
        have HF : Hid (∀ W2 v, w6.grownBy W2 r.pv.ownBlock → W2.ownsRow 0 3 1 v (r.ps.length + 1) (intsV r.ps ++ [.int .i64 al]) → (∀ g, v.ownBlock = some g → r.pv.ownBlock = some g ∨ w6.heap.size ≤ g) →
            LS w h r ((W2.setCell ⟨b, 1, none⟩ v).setCell ⟨b, 2, none⟩ (.int .i64 ((n : Int) + 1))) (allocM h.m 96 8).1 { r with pv := v, ps := r.ps ++ [al], n := r.n + 1 }) := fun W2 v hg hv hnw => by
          have e1 : (r.ps ++ [al]).length = r.ps.length + 1 := by simp
          have e2 : intsV (r.ps ++ [al]) = intsV r.ps ++ [.int .i64 al] := by unfold intsV; simp
          have := ((HX6.out.row (ps := r.ps ++ [al]) hg (by rw [e1, e2]; exact hv) hnw).setN (r.n + 1)).ls
          rw [HEB.out, HEN.out]
          push_cast at this
          exact this
        clear hE he c1 c2 f1 f2
        have f1' := HX6.out.ls.free 1
        have f2' := HX6.out.ls.free 2
        rw [← HEB.out] at f1' f2'
        go_wp2_with (at_builtin; refine wpList_app1b rfl El_int _ _ rfl rfl hown rfl rfl rfl ?_ ?_ ?_ ?_; (focus (simp [Value.oneCell'])); (focus omega); (focus omega); intro v1 w7 hown7 hg7 hn7; obtain ⟨A7, cc7, e7, -⟩ := own_form hown7; have hnb := (fun e => HAP.out b e.symm rfl : ¬ some b = r.pv.ownBlock); have q7 : w7.heap[b]? = w6.heap[b]? := hg7.block b hlt6 (fun e => hnb e); have j1 : w7.cell? ⟨b, 1, none⟩ = some r.pv := (World.cell?_of_block q7).trans k1; have j2 : w7.cell? ⟨b, 2, none⟩ = some (.int .i64 (n : Int)) := (World.cell?_of_block q7).trans k2; have g1 : w7.frozen? ⟨b, 1, none⟩ = false := (World.frozen?_of_block q7).trans f1'; have g2 : w7.frozen? ⟨b, 2, none⟩ = false := (World.frozen?_of_block q7).trans f2'; have HFF := hide (HF.out w7 v1 hg7 hown7 hn7); clear hown7 hg7 hn7 q7 k1 k2 f1' f2' hnb HF; subst e7)
        go_ret
        exact ⟨true, _, _, rfl, HFF.out, HG.out, rfl, rfl, rfl⟩
      · have HG : Hid (Grew h.m (allocM h.m 96 8).1 3 r.ps r.ps r.n false) := grew_no HI.out HP.out HN2.out HN4.out (by decide) (fun e => he (HEE.out.trans e))
        have hd3 : (er == 0) = false := by simp; omega
        clear he
        go_wp2_with fail
        go_ret
        exact ⟨false, _, r, rfl, HX6.out.ls, HG.out, by simp, rfl, rfl⟩
    · have hd2 : ((c : Int) == 0) = false := by simp; omega
      have HG := hide (grew_same HI.out HP.out (by omega) (by rw [← en, ← hcc]; exact hz))
      have HX1 : Hid (LB w h r (w.setCell ⟨b, 2, none⟩ (.int .i64 ((n : Int) + 1))) h.m { r with n := r.n + 1 } []) := by
        rw [HEB.out, en]
        have := HX0.out.setN (r.n + 1)
        push_cast at this
        exact this
      clear hz hcc en
      go_enter Tryz.func106, Tryz.ntmps106
      go_wp2_with fail
      go_ret
      refine ⟨true, h.m, { r with n := r.n + 1 }, rfl, ?_, HG.out, rfl, rfl, rfl⟩
      exact HX1.out.ls
set_option maxHeartbeats 4000000 in
set_option maxRecDepth 100000 in
theorem drop3_any {h : Hp} {r : Rw} {w : World} (L : LR w h r) (I : Inv h.m) (k : Nat) (hk : r.n = k + 1) (hk64 : k < 64) (P : Pcs h.m 3 r.ps (k + 1)) :
    Calls Tryz.prog 82 #[r.ptr] w fun e w' => ∃ (m' : HM) (r2 : Rw), e = .returned (.tuple #[]) ∧ LS w h r w' m' r2 ∧ Dropd h.m m' 3 r.ps r2.ps k ∧ r2.n = k ∧ r2.closed = r.closed ∧ r2.more = r.more := by
  have hlt := L.rlt r.blk (.inl rfl)
  have c2 := L.k2
  have f2 := L.free 2
  have HX0 : Hid (LB w h r w h.m r []) := LB.start L
  have HX1 := hide (HX0.out.setN k)
  have HI := hide I
  have HP := hide P
  have hrp : r.ptr = .pointer (some ⟨r.blk, 0, none⟩) := rfl
  rw [hrp]
  obtain ⟨b, eb⟩ : ∃ b, b = r.blk := ⟨_, rfl⟩
  have HX1 : Hid (LB w h r (w.setCell ⟨b, 2, none⟩ (.int .i64 (k : Int))) h.m { r with n := k } []) := by rw [eb]; exact HX1.out
  rw [← eb] at hlt c2 f2 ⊢
  rw [hk] at c2
  push_cast at c2
  obtain ⟨c, hcc⟩ : ∃ c, c = k % 4 := ⟨_, rfl⟩
  have hr4 : Int.tmod (k : Int) 4 = (c : Int) := by rw [hcc]; rfl
  have hc4 : c < 4 := by omega
  have hki : (k : Int) < 64 := by omega
  have HEB := hide eb
  clear P I L hrp
  by_cases hz : c = 0
  · have hd2 : ((c : Int) == 0) = true := by simp; omega
    have HN4 : Hid (k % 4 = 0) := by rw [← hcc]; exact hz
    obtain ⟨qs, p, eps, hp0, hp1, hfr, hD⟩ := dropd_free HI.out HP.out HN4.out
    have HDD := hide hD
    have HEPS := hide eps
    obtain ⟨g, cc, epv, cP, hgl⟩ := HX0.out.ls.piece (i := qs.length) (p := p) (by rw [eps]; simp)
    have hown := HX0.out.owns
    have hgb : g ≠ b := by rw [eb]; exact HX0.out.ap g (by rw [epv]; rfl)
    have epl : r.ps.length = qs.length + 1 := by rw [eps]; simp
    have hcap : qs.length + 1 ≤ cc := by
      rw [epv, epl] at hown
      rcases hown.2 with ⟨h0, -⟩ | ⟨g', cap, cur, e1, hb, hh, h1, h2⟩
      · cases h0
      · cases e1
        exact h1
    have hql : qs.length ≤ 100 := by have := HP.out.len; omega
    obtain ⟨n, hn⟩ : ∃ n, n = qs.length := ⟨_, rfl⟩
    have HFIN : Hid (∀ W, LB w h r W (freeM h.m p).1 { r with n := k } [] → LS w h r (W.setCell ⟨b, 1, none⟩ (.slice (some ⟨g, 0, none⟩) n cc)) (freeM h.m p).1 { r with pv := .slice (some ⟨g, 0, none⟩) n cc, ps := qs, n := k }) := fun W X => by
      have ho := X.owns
      have ho : W.ownsRow 0 3 1 r.pv r.ps.length (intsV r.ps) := ho
      rw [epv, epl] at ho
      have ho2 := own_take ho (k := qs.length) (by omega)
      have e3 : (intsV r.ps).take (qs.length * 1) = intsV qs := by
        rw [eps]
        unfold intsV
        rw [List.map_append, Nat.mul_one, List.take_left' (by simp)]
      rw [e3, ← hn] at ho2
      rw [eb]
      refine (X.row (W2 := W) (v := .slice (some ⟨g, 0, none⟩) n cc) (ps := qs) ⟨rfl, rfl, rfl, Nat.le_refl _, fun _ _ _ => rfl⟩ (by rw [← hn]; exact ho2) fun b' hb' => .inl ?_).ls
      show r.pv.ownBlock = some b'
      rw [epv]
      exact hb'
    have HFREE : Hid (∀ W, LB w h r W h.m { r with n := k } [] → Calls Tryz.prog 108 #[h.ptr, .int .i64 p] W fun e W' => e = .returned (.int .i64 (freeM h.m p).2) ∧ LB w h r W' (freeM h.m p).1 { r with n := k } []) := fun W X => lb_free X HI.out p (by omega) (by omega)
    have HK : Hid (∀ W m', LB w h r W m' { r with n := k } [] → W.cell? ⟨b, 0, none⟩ = some h.ptr ∧ W.cell? ⟨b, 1, none⟩ = some (.slice (some ⟨g, 0, none⟩) (n + 1) cc) ∧ W.cell? ⟨b, 2, none⟩ = some (.int .i64 (k : Int)) ∧ W.frozen? ⟨b, 1, none⟩ = false ∧ b < W.heap.size) := fun W m' X => by
      rw [eb]
      refine ⟨X.ls.k0, ?_, X.ls.k2, X.ls.free 1, X.ls.lt⟩
      have := X.ls.k1
      have : W.cell? ⟨r.blk, 1, none⟩ = some r.pv := this
      rw [epv, epl, ← hn] at this
      exact this
    obtain ⟨hptr, ehp⟩ : ∃ v, v = h.ptr := ⟨_, rfl⟩
    rw [← ehp] at HFREE HK
    rw [← hn] at cP hcap hql
    have hnc : n ≤ cc := by omega
    have hnn : (n : Int) < ((n + 1 : Nat) : Int) := by omega
    have hni : (n : Int) ≤ 100 := by omega
    have j0 := HX0.out.ls.k0
    have j1 := HX0.out.ls.k1
    have f1 := HX0.out.ls.free 1
    rw [epv, epl, ← hn] at j1
    rw [← ehp] at j0
    rw [← eb] at j0 j1 f1
    have hbg : ¬ b = g := fun e => hgb e.symm
    have hwn : wrap64 (n : Int) = (n : Int) := wrap_small _ (by omega)
    clear hD eps epv hown epl hn hz hcc ehp eb hk hfr
    go_enter Tryz.func82, Tryz.ntmps82
    go_wp2_with fail
    have hxc := ext_cell
    refine Ri.wp_region_cut 11 (fun w1 => ∃ k, w1 = ext _ k) (by kernel_rfl) (by kernel_rfl) rfl rfl (ext_of_q (Q.drew (Q.refl _))) ?_
    simp only [List.take_succ_cons, List.take_zero, List.drop_succ_cons, List.drop_zero]
    repeat (go_big_quiet_step ((fail)))
    clear hxc
    refine wpQuiet_nil ?_
    intro w4 hww4
    have hqw4 := q_of_ext hww4
    clear hww4
    obtain ⟨hcw4, hfw4, hzw4⟩ := hqw4.facts
    try simp at hzw4
    have HX4 := hide (HX1.out.q hqw4)
    refine Ri.wp_callP #[hptr, .int .i64 p] rfl (by simp [Act.eval]) Tryz.func108 (by kernel_rfl) (by kernel_rfl) ((HFREE.out _ HX4.out).mono ?_)
    rintro e w5 ⟨rfl, hX5⟩
    refine ⟨_, rfl, ?_⟩
    have HX5 := hide hX5
    clear hX5 hcw4 hfw4 hzw4 hqw4 j0 j1 f1 f2 c2 cP
    refine ⟨fun w1 => ∃ k, w1 = ext _ k, ext_of_q (Q.refl _), ?_⟩
    try simp only [Act.put, List.setIfInBounds_toArray, List.set_cons_succ, List.set_cons_zero]
    have hxc := ext_cell
    repeat (go_big_quiet_step ((fail)))
    clear hxc
    refine wpQuiet_nil ?_
    intro w6 hww6
    have hqw6 := q_of_ext hww6
    clear hww6
    obtain ⟨hcw6, hfw6, hzw6⟩ := hqw6.facts
    try simp at hzw6
    have HX6 := hide (HX5.out.q hqw6)
    clear hcw6 hfw6 hzw6 hqw6
    obtain ⟨j0, j1, j2, g1, hbl⟩ := HK.out _ _ HX6.out
    go_wp2_with fail
    go_end0
    exact ⟨_, _, rfl, HFIN.out _ HX6.out, HDD.out, rfl, rfl, rfl⟩
  · have hd2 : ((c : Int) == 0) = false := by simp; omega
    have HD := hide (dropd_same HI.out HP.out (by rw [← hcc]; exact hz))
    clear hz hcc hk eb
    go_enter Tryz.func82, Tryz.ntmps82
    go_wp2_with fail
    go_end0
    exact ⟨h.m, _, rfl, HX1.out.ls, HD.out, rfl, rfl, rfl⟩
end Go.Proofs.YtdaklffbfadghaaGreat
