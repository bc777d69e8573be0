/- The walk of package pack's unpack. Conditions: the slice reads as bytes. -/
import Derived.Test.YtfiopjgpokdnoaaPackA
import Derived.Test.YtfiopjgpokdnoaaPackU
namespace Go.Proofs.Ytfiopjgpokdnoaa
open Go.RowKit PP
set_option linter.unusedVariables false
def lenOf : Value → Nat
  | .slice _ n _ => n
  | _ => 0
theorem info_byte : (Try.prog.info? 5).map (fun i => (i.zero, i.size, i.bytes)) = some (some (.int .u8 0), 1, 1) := by kernel_rfl
theorem i64_or_n (a b : Nat) (ha : a < 256) (hb : b < 256) : bits .or .i64 (a : Int) ((b : Int) * 256) = ((a + 256 * b : Nat) : Int) := by
  have e : (b : Int) * 256 = ((256 * b : Nat) : Int) := by simp; omega
  have hx : a ||| 256 * b < 65536 := Nat.or_lt_two_pow (n := 16) (by omega) (by omega)
  rw [e]
  show IntKind.i64.wrap ((BitVec.ofInt 64 (a : Int) ||| BitVec.ofInt 64 ((256 * b : Nat) : Int)).toNat : Int) = _
  rw [BitVec.toNat_or, BitVec.ofInt_natCast, BitVec.ofInt_natCast, BitVec.toNat_ofNat, BitVec.toNat_ofNat, Nat.mod_eq_of_lt (by omega), Nat.mod_eq_of_lt (by omega)]
  have := Nat.two_pow_add_eq_or_of_lt (i := 8) (b := a) (by simpa using ha) b
  simp only [Nat.reducePow] at this
  rw [Nat.or_comm, ← this]
  simp [IntKind.wrap, IntKind.bits, IntKind.signed]
  omega

def unpackPost (w : World) (bs : List Nat) (e : Ending) (w' : World) : Prop :=
  ∃ v, e = .returned (.tuple #[v, .int .i64 ((unpackF bs).2.1 : Nat), .int .i64 ((unpackF bs).2.2 : Nat)]) ∧ w'.ownsRow w.heap.size 5 1 v (unpackF bs).1.length ((unpackF bs).1.map byteV) ∧ Q w w'
theorem unpack_big (A : Option Addr) (n c : Nat) (bs : List Nat) (w : World) (h : Bytes w A n c bs) (hn : 8192 < n) : Calls Try.prog 44 #[.slice A n c] w (unpackPost w bs) := by
  have hl := h.len
  have e : unpackF bs = ([], 0, 3) := by unfold unpackF; rw [if_pos (by omega)]
  have E := hide e
  clear e hl h
  have hn' : 8192 < (n : Int) := by omega
  go_enter Try.func44, Try.ntmps44
  go_wp2_with fail
  go_ret3
  refine ⟨_, by rw [E.out]; rfl, by rw [E.out]; exact World.ownsRow_nil _ _ _ _, Q.refl _⟩
set_option maxRecDepth 100000 in
set_option maxHeartbeats 1600000 in
theorem unpack_any (A : Option Addr) (n c : Nat) (bs : List Nat) (w : World) (h : Bytes w A n c bs) (hn : n ≤ 8192) : Calls Try.prog 44 #[.slice A n c] w (unpackPost w bs) := by
  obtain ⟨hr, hl, hs, hc1, hc2⟩ := h
  subst hl
  obtain ⟨i0, hi0, hz0, hz1, hz2⟩ := info_parts info_byte
  have HI := hide hi0
  have HZ0 := hide hz0
  have HZ1 := hide hz1
  have HZ2 := hide hz2
  clear hi0 hz0 hz1 hz2
  have HS := hide hs
  clear hs
  have hlen : (bs.length : Int) ≤ 8192 := by omega
  go_enter Try.func44, Try.ntmps44
  go_wp2_with fail
  go_loopw [0, 5, 6] (fun b v i wr => ∃ (rest out : List Nat) (k f c' : Nat) (A' : Option Addr), b = .slice A' rest.length c' ∧ rest.length ≤ c' ∧ c' ≤ 9223372036854775807 ∧ Rd w w.heap.size A' (rest.map byteV) ∧ (∀ x ∈ rest, x < 256) ∧
      i = .int .i64 k ∧ k + rest.length ≤ bs.length ∧ rest.length < f ∧ items f rest out k = itemsF bs ∧ out.length + 130 * rest.length ≤ 130 * bs.length ∧
      wr.ownsRow w.heap.size 5 1 v out.length (out.map byteV) ∧ Q w wr) (fun b _ _ _ => lenOf b)
  case atStart => exact ⟨bs, [], 0, bs.length + 1, c, A, rfl, hc1, hc2, hr, HS.out, by go_num, by omega, by omega, rfl, by simp, World.ownsRow_nil _ _ _ _, Q.refl _⟩
  case round =>
    obtain ⟨rest, out, k, f, c', A', rfl, hc1', hc2', hr', hs', rfl, hk, hf, hit, ho, hown, hq⟩ := hrel
    have hrw := hr'.q hq (Nat.le_refl _)
    have hsz := hq.size
    have HIT := hide hit
    have HS' := hide hs'
    have hr'2 := hr'
    clear hit hs' hr'
    have hll : (rest.length : Int) ≤ 8192 := by omega
    have hkk : (k : Int) ≤ 8192 := by omega
    by_cases h0 : rest.length = 0
    · have hR : itemsF bs = some (k, out) := by rw [← HIT.out]; exact items_end (by omega) h0
      have h0' : ¬ (0 : Int) < (rest.length : Int) := by omega
      obtain ⟨Ao, co, eo, ho1, ho2, ho3, hrdo⟩ := own_form hown
      subst eo
      have hol : (out.length : Int) ≤ 1064960 := by omega
      by_cases h4 : 4096 < out.length
      · have e : unpackF bs = ([], 0, 3) := by unfold unpackF; rw [if_neg (by omega), hR]; simp [h4]
        have E := hide e
        have h4' : 4096 < (out.length : Int) := by omega
        clear e hR hrdo ho3 hrw
        go_wp2_with fail
        go_ret3
        refine ⟨_, by rw [E.out]; rfl, by rw [E.out]; exact World.ownsRow_nil _ _ _ _, hq⟩
      · have e : unpackF bs = (out, k, 0) := by unfold unpackF; rw [if_neg (by omega), hR]; simp [h4]
        have E := hide e
        have h4' : ¬ 4096 < (out.length : Int) := by omega
        clear e hR hrdo ho3 hrw
        go_wp2_with fail
        go_ret3
        refine ⟨_, by rw [E.out]; rfl, by rw [E.out]; exact hown, hq⟩
    · obtain ⟨bb, o, v0, rfl, hbb, hc0, hv0, hg0, _⟩ := rd_byte hrw HS'.out 0 (by omega)
      have e0 : rest.getD 0 0 = v0 := by simp [List.getD_eq_getElem?_getD, hg0]
      have h0' : (0 : Int) < (rest.length : Int) := by omega
      simp only [Nat.add_zero] at hc0
      by_cases h128 : v0 < 128
      · have h128' : (v0 : Int) < 128 := by omega
        by_cases hsh : rest.length < v0 + 2
        · have hR : itemsF bs = none := by rw [← HIT.out]; exact items_none (by omega) h0 (item_short (by omega) (by omega))
          have e : unpackF bs = ([], 0, 11) := by unfold unpackF; rw [if_neg (by omega), hR]
          have E := hide e
          have hsh' : (rest.length : Int) < (v0 : Int) + 2 := by omega
          clear e hR hg0 e0
          go_wp2_with fail
          go_ret3
          refine ⟨_, by rw [E.out]; rfl, by rw [E.out]; exact World.ownsRow_nil _ _ _ _, hq⟩
        · have hsh' : ¬ (rest.length : Int) < (v0 : Int) + 2 := by omega
          have hsh2 : (v0 : Int) + 2 ≤ (rest.length : Int) := by omega
          have hc2i : (rest.length : Int) ≤ (c' : Int) := by omega
          have hI : item rest out = some (rest.drop (v0 + 2), out ++ (rest.drop 1).take (v0 + 1)) := by
            have := item_plain (b := rest) (out := out) (by omega) (by omega)
            rw [e0] at this
            exact this
          have hI2 := items_some (f := f) (n := k) (by omega) h0 hI
          rw [HIT.out] at hI2
          have HI2 := hide hI2
          have hnw := ((hrw.dropAt 1).take (v0 + 1)).cells
          rw [← List.map_drop, ← List.map_take] at hnw
          have HNW := hide hnw
          have hnl : ((rest.drop 1).take (v0 + 1)).length = v0 + 1 := by simp; omega
          have HNL := hide hnl
          have hrd2 := hr'2.dropAt (v0 + 2)
          clear hI hI2 hnw hnl e0 hg0
          go_wp2_with (at_builtin; refine wpList_append_own _ rfl _ _ 22 rfl w.heap.size 5 i0 (.int .u8 0) 1 1 Try.underlying22 HI.out HZ0.out HZ1.out HZ2.out rfl (by decide) _ _ _ rfl hown ⟨bb, o + 1, none⟩ (v0 + 2 - 1) (c' - 1) (((rest.drop 1).take (v0 + 1)).map byteV) rfl ?_ ?_ ?_ ?_ ?_ ?_ ?_; (focus (rw [List.length_map, HNL.out]; omega)); exact HNW.out; (focus (intro u hu; simp only [List.mem_map] at hu; obtain ⟨x, _, rfl⟩ := hu; rfl)); (focus (simp only [maxLen]; omega)); (focus omega); exact hsz; intro v1 w1 hown1 hgr1 hne1; clear hne1; have hb1 := below_own hown hgr1 hsz)
          go_roundw
          case rel =>
            have hdl : (rest.drop (v0 + 2)).length = rest.length - (v0 + 2) := List.length_drop
            refine ⟨rest.drop (v0 + 2), out ++ (rest.drop 1).take (v0 + 1), k + 1, f - 1, c' - (v0 + 2), _, by rw [hdl], by rw [hdl]; omega, by omega, ?_, fun x hx => HS'.out x (List.mem_of_mem_drop hx), by go_num, by rw [hdl]; omega, by rw [hdl]; omega, HI2.out.symm, ?_, ?_, q_below hq hb1 (Nat.le_refl _)⟩
            · split
              · have : rest.drop (v0 + 2) = [] := List.drop_of_length_le (by omega)
                rw [this]
                exact Rd.nil _ _ _
              · rw [List.map_drop]; exact hrd2
            · rw [List.length_append, HNL.out, hdl]; omega
            · rw [List.length_append, HNL.out, List.map_append]; exact hown1
          case measure => simp [lenOf]; omega
      · have h128' : ¬ (v0 : Int) < 128 := by omega
        by_cases hsh : rest.length < 3
        · have hR : itemsF bs = none := by rw [← HIT.out]; exact items_none (by omega) h0 (item_short3 (by omega) (by omega))
          have e : unpackF bs = ([], 0, 11) := by unfold unpackF; rw [if_neg (by omega), hR]
          have E := hide e
          have hsh' : (rest.length : Int) < 3 := by omega
          clear e hR hg0 e0
          go_wp2_with fail
          go_ret3
          refine ⟨_, by rw [E.out]; rfl, by rw [E.out]; exact World.ownsRow_nil _ _ _ _, hq⟩
        · have hsh' : ¬ (rest.length : Int) < 3 := by omega
          have hlt1 : (1 : Int) < (rest.length : Int) := by omega
          have hlt2 : (2 : Int) < (rest.length : Int) := by omega
          obtain ⟨b1, o1, v1, e1, _, hcv1, hv1, hg1, _⟩ := rd_byte hrw HS'.out 1 (by omega)
          obtain ⟨rfl, rfl⟩ : bb = b1 ∧ o = o1 := by simpa using e1
          obtain ⟨b2, o2, v2, e2, _, hcv2, hv2, hg2, _⟩ := rd_byte hrw HS'.out 2 (by omega)
          obtain ⟨rfl, rfl⟩ : bb = b2 ∧ o = o2 := by simpa using e2
          have f1 : rest.getD 1 0 = v1 := by simp [List.getD_eq_getElem?_getD, hg1]
          have f2 : rest.getD 2 0 = v2 := by simp [List.getD_eq_getElem?_getD, hg2]
          have eor := i64_or_n v1 v2 hv1 hv2
          obtain ⟨D, hD⟩ : ∃ D, v1 + 256 * v2 = D := ⟨_, rfl⟩
          have hDb : (D : Int) ≤ 65535 := by omega
          rw [hD] at eor
          have hfar := fun h => item_far (b := rest) (out := out) (by omega) (by omega) h
          have hcopy := fun h h' => item_copy (b := rest) (out := out) (by omega) (by omega) h h'
          rw [e0, f1, f2, hD] at hcopy
          rw [f1, f2, hD] at hfar
          have HFAR := hide hfar
          have HCOPY := hide hcopy
          have hbb' : bb < wr.heap.size := by omega
          clear hfar hcopy e1 e2 hg0 hg1 hg2 f1 f2 e0 hD
          obtain ⟨Ao, co, eo, ho1, ho2, ho3, hrdo⟩ := own_form hown
          subst eo
          have hol : (out.length : Int) ≤ 1064960 := by omega
          by_cases hD1 : D < 1
          · have hR : itemsF bs = none := by rw [← HIT.out]; exact items_none (by omega) h0 (HFAR.out (.inl hD1))
            have e : unpackF bs = ([], 0, 11) := by unfold unpackF; rw [if_neg (by omega), hR]
            have E := hide e
            have hD1' : (D : Int) < 1 := by omega
            clear e hR ho3 hrdo
            go_wp2_with fail
            have hxc := ext_cell
            refine wp_region_ext (by kernel_rfl) (by kernel_rfl) ?_
            repeat (go_big_quiet_step ((fail)))
            clear hxc
            refine wpQuiet_nil ?_
            intro wz hwwz
            have hqwz := q_of_ext hwwz
            clear hwwz
            obtain ⟨hcwz, hfwz, hzwz⟩ := hqwz.facts
            try simp at hzwz
            try have hs0wz : w.heap.size < wz.heap.size := by omega
            try have hs1wz : w.heap.size + 1 < wz.heap.size := by omega
            have hq2 := hq.trans hqwz
            clear hown hcwz hfwz hrw hc0 hcv1 hcv2
            go_wp2_with fail
            go_ret3
            refine ⟨_, by rw [E.out]; rfl, by rw [E.out]; exact World.ownsRow_nil _ _ _ _, hq2⟩
          · have hD1' : ¬ (D : Int) < 1 := by omega
            by_cases hD2 : out.length < D
            · have hR : itemsF bs = none := by rw [← HIT.out]; exact items_none (by omega) h0 (HFAR.out (.inr hD2))
              have e : unpackF bs = ([], 0, 11) := by unfold unpackF; rw [if_neg (by omega), hR]
              have E := hide e
              have hD2' : (out.length : Int) < (D : Int) := by omega
              clear e hR ho3 hrdo
              go_wp2_with fail
              have hxc := ext_cell
              refine wp_region_ext (by kernel_rfl) (by kernel_rfl) ?_
              repeat (go_big_quiet_step ((fail)))
              clear hxc
              refine wpQuiet_nil ?_
              intro wz hwwz
              have hqwz := q_of_ext hwwz
              clear hwwz
              obtain ⟨hcwz, hfwz, hzwz⟩ := hqwz.facts
              try simp at hzwz
              try have hs0wz : w.heap.size < wz.heap.size := by omega
              try have hs1wz : w.heap.size + 1 < wz.heap.size := by omega
              have hq2 := hq.trans hqwz
              clear hown hcwz hfwz hrw hc0 hcv1 hcv2
              go_wp2_with fail
              go_ret3
              refine ⟨_, by rw [E.out]; rfl, by rw [E.out]; exact World.ownsRow_nil _ _ _ _, hq2⟩
            · have hD2' : ¬ (out.length : Int) < (D : Int) := by omega
              have hI2 := items_some (f := f) (n := k) (by omega) h0 (HCOPY.out (by omega) (by omega))
              rw [HIT.out] at hI2
              have HI2 := hide hI2
              have hv0 : (v0 : Int) < 256 := by omega
              clear hI2 ho3 hrdo
              go_wp2_with fail
              have hxc := ext_cell
              refine wp_region_ext (by kernel_rfl) (by kernel_rfl) ?_
              repeat (go_big_quiet_step ((fail)))
              clear hxc
              refine wpQuiet_nil ?_
              intro wz hwwz
              have hqwz := q_of_ext hwwz
              clear hwwz
              obtain ⟨hcwz, hfwz, hzwz⟩ := hqwz.facts
              try simp at hzwz
              try have hs0wz : w.heap.size < wz.heap.size := by omega
              try have hs1wz : w.heap.size + 1 < wz.heap.size := by omega
              have hq2 := hq.trans hqwz
              have hown2 := own_q hown hqwz
              clear hown hcwz hfwz hrw hc0 hcv1 hcv2
              go_wp2_with fail
              go_loopw [5, 62] (fun v j wl => ∃ m : Nat, m + 125 ≤ v0 ∧ j = .int .i64 m ∧ wl.ownsRow w.heap.size 5 1 v (out.length + m) ((cp D out m).map byteV) ∧ Q w wl) (fun _ j _ => (v0 - 125) - (intOf j).toNat)
              case atStart => exact ⟨0, by omega, by go_num, hown2, hq2⟩
              case round =>
                obtain ⟨m, hm, rfl, hownm, hqm⟩ := hrel
                have hml : (m : Int) ≤ 256 := by omega
                have hszm := hqm.size
                obtain ⟨Am, cm, em, hm1, hm2, hm3, hrdm⟩ := own_form hownm
                subst em
                have hcl := cp_length D out m
                have hcs : cp D out (m + 1) = cpS D (cp D out m) := rfl
                have hcx : cpS D (cp D out m) = cp D out m ++ [(cp D out m).getD (out.length + m - D) 0] := by unfold cpS; rw [hcl]
                rw [hcx] at hcs
                have HCS := hide hcs
                by_cases hlt : m + 125 < v0
                · obtain ⟨bm, om, em, hbm, hcm⟩ := hrdm.at_ (by simp [hcl]; omega)
                  have hcm := hcm (out.length + m - D) (by simp [hcl]; omega)
                  subst em
                  have hge : (cp D out m).getD (out.length + m - D) 0 = (cp D out m)[out.length + m - D]'(by omega) := by
                    simp [List.getD_eq_getElem?_getD, show out.length + m - D < (cp D out m).length by omega]
                  have hcm2 : wr.cell? ⟨bm, om + (out.length + m - D), none⟩ = some (.int .u8 ((cp D out m).getD (out.length + m - D) 0 : Nat)) := by
                    rw [hge]; simpa [byteV] using hcm
                  generalize (cp D out m).getD (out.length + m - D) 0 = x at *
                  have hltm : (m : Int) + 125 < (v0 : Int) := by omega
                  have i1 : (0 : Int) ≤ (out.length : Int) + (m : Int) - (D : Int) := by omega
                  have i2 : (out.length : Int) + (m : Int) - (D : Int) < ((out.length + m : Nat) : Int) := by omega
                  clear hcm hge hcs hcx hrdm hm3 hcl
                  go_wp2_with (at_builtin; refine wpList_append_own _ rfl _ _ 22 rfl w.heap.size 5 i0 (.int .u8 0) 1 1 Try.underlying22 HI.out HZ0.out HZ1.out HZ2.out rfl (by decide) _ _ _ rfl (hownm.alloc _) ⟨wr.heap.size, 0, none⟩ 1 1 [.int .u8 (x : Nat)] rfl rfl ?_ ?_ ?_ ?_ ?_ ?_; exact (cell_one_new _ _ _); (focus (simp [Value.oneCell'])); (focus (simp only [maxLen]; omega)); (focus omega); (focus (simp; omega)); intro v1 w1 hown1 hgr1 hne1; clear hne1; have hb1 := below_app hownm hgr1 (by omega))
                  go_roundw
                  case rel => exact ⟨m + 1, by omega, by go_num, by rw [HCS.out, List.map_append]; exact hown1, q_below hqm hb1 (Nat.le_refl _)⟩
                  case measure => simp [intOf] <;> omega
                · have em : m + 125 = v0 := by omega
                  have hltm : ¬ (m : Int) + 125 < (v0 : Int) := by omega
                  clear hcx hcs
                  go_wp2_with fail
                  go_roundw
                  case rel =>
                    have hdl : (rest.drop 3).length = rest.length - 3 := List.length_drop
                    have hml2 : m = v0 - 125 := by omega
                    subst hml2
                    refine ⟨rest.drop 3, cp D out (v0 - 125), k + 1, f - 1, c' - 3, _, by rw [hdl], by rw [hdl]; omega, by omega, ?_, fun x hx => HS'.out x (List.mem_of_mem_drop hx), by go_num, by rw [hdl]; omega, by rw [hdl]; omega, HI2.out.symm, ?_, ?_, hqm⟩
                    · split
                      · have : rest.drop 3 = [] := List.drop_of_length_le (by omega)
                        rw [this]
                        exact Rd.nil _ _ _
                      · rw [List.map_drop]; exact hr'2.dropAt 3
                    · rw [cp_length, hdl]; omega
                    · rw [cp_length]; exact hownm
                  case measure => simp [lenOf]; omega
end Go.Proofs.Ytfiopjgpokdnoaa
