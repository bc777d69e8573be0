/- The walk of the reference's items. Conditions: the slice reads as at most 8192 bytes. -/
import Derived.Test.YtfiopjgpokdnoaaPackW
namespace Go.Proofs.Ytfiopjgpokdnoaa
open Go.RowKit PP
set_option linter.unusedVariables false
def okN (r : Option (Nat × List Nat)) : Bool := r.isSome
def itemsPost (w : World) (bs : List Nat) (e : Ending) (w' : World) : Prop :=
  (itemsF bs = none ∧ e = .returned (.tuple #[.int .i64 0, .slice none 0 0, .bool false]) ∧ Q w w') ∨
  ∃ n out v, itemsF bs = some (n, out) ∧ n ≤ 8192 ∧ out.length ≤ 1064960 ∧ e = .returned (.tuple #[.int .i64 (n : Nat), v, .bool true]) ∧ w'.ownsRow w.heap.size 5 1 v out.length (out.map byteV) ∧ Q w w'
set_option maxRecDepth 100000 in
set_option maxHeartbeats 1600000 in
theorem items_any (A : Option Addr) (n c : Nat) (bs : List Nat) (w : World) (h : Bytes w A n c bs) (hn : n ≤ 8192) : Calls Try.prog 64 #[.slice A n c] w (itemsPost w bs) := by
  obtain ⟨hr, hl, hs, hc1, hc2⟩ := h
  subst hl
  obtain ⟨i0, hi0, hz0, hz1, hz2⟩ := info_parts info_byte
  have HI := hide hi0
  have HZ0 := hide hz0
  have HZ1 := hide hz1
  have HZ2 := hide hz2
  clear hi0 hz0 hz1 hz2
  have HS := hide hs
  clear hs
  have hlen : (bs.length : Int) ≤ 8192 := by omega
  go_enter Try.func64, Try.ntmps64
  go_wp2_with fail
  go_loopw [5, 6, 7] (fun v i q wr => ∃ (out : List Nat) (k f pos : Nat), q = .int .i64 pos ∧ pos ≤ bs.length ∧
      i = .int .i64 k ∧ k ≤ pos ∧ bs.length - pos < f ∧ items f (bs.drop pos) out k = itemsF bs ∧ out.length + 130 * (bs.length - pos) ≤ 130 * bs.length ∧
      wr.ownsRow w.heap.size 5 1 v out.length (out.map byteV) ∧ Q w wr) (fun _ _ q _ => bs.length - (intOf q).toNat)
  case atStart => exact ⟨[], 0, bs.length + 1, 0, by go_num, by omega, by go_num, by omega, by omega, rfl, by simp, World.ownsRow_nil _ _ _ _, Q.refl _⟩
  case round =>
    obtain ⟨out, k, f, pos, rfl, hp, rfl, hk, hf, hit, ho, hown, hq⟩ := hrel
    have hrw := hr.q hq (Nat.le_refl _)
    have hsz := hq.size
    have HIT := hide hit
    clear hit
    have hpi : (pos : Int) ≤ (bs.length : Int) := by omega
    have hki : (k : Int) ≤ 8192 := by omega
    have hdl : (bs.drop pos).length = bs.length - pos := List.length_drop
    have HDL := hide hdl
    clear hdl
    by_cases h0 : pos = bs.length
    · have hR : itemsF bs = some (k, out) := by rw [← HIT.out]; exact items_end (by omega) (by rw [HDL.out]; omega)
      have HR := hide hR
      have h0' : ¬ (pos : Int) < (bs.length : Int) := by omega
      obtain ⟨Ao, co, eo, ho1, ho2, ho3, hrdo⟩ := own_form hown
      subst eo
      clear hR hrdo ho3 hrw h0
      go_wp2_with fail
      go_ret3
      exact .inr ⟨k, out, _, HR.out, by omega, by omega, rfl, hown, hq⟩
    · have h0' : (pos : Int) < (bs.length : Int) := by omega
      have hne : (bs.drop pos).length ≠ 0 := by rw [HDL.out]; omega
      obtain ⟨bb, o, v0, rfl, hbb, hc0, hv0, hg0, _⟩ := rd_byte hrw HS.out pos (by omega)
      have e0 : (bs.drop pos).getD 0 0 = v0 := by simp [List.getD_eq_getElem?_getD, List.getElem?_drop, hg0]
      by_cases h128 : v0 < 128
      · have h128' : (v0 : Int) < 128 := by omega
        by_cases hsh : bs.length < pos + 2 + v0
        · have hR : itemsF bs = none := by rw [← HIT.out]; exact items_none (by omega) hne (item_short (by omega) (by rw [HDL.out]; omega))
          have HR := hide hR
          have hsh' : (bs.length : Int) < (pos : Int) + 2 + (v0 : Int) := by omega
          clear hR hg0 e0 h0 hne
          go_wp2_with fail
          go_ret3
          exact .inl ⟨HR.out, rfl, hq⟩
        · have hsh' : ¬ (bs.length : Int) < (pos : Int) + 2 + (v0 : Int) := by omega
          have hsh2 : (pos : Int) + 2 + (v0 : Int) ≤ (bs.length : Int) := by omega
          have hc2i : (bs.length : Int) ≤ (c : Int) := by omega
          have hI : item (bs.drop pos) out = some ((bs.drop pos).drop (v0 + 2), out ++ ((bs.drop pos).drop 1).take (v0 + 1)) := by
            have := item_plain (b := bs.drop pos) (out := out) (by omega) (by rw [HDL.out]; omega)
            rw [e0] at this
            exact this
          rw [List.drop_drop, List.drop_drop] at hI
          have hI2 := items_some (f := f) (n := k) (by omega) hne hI
          rw [HIT.out] at hI2
          have HI2 := hide hI2
          have hnw := ((hrw.dropAt (pos + 1)).take (v0 + 1)).cells
          rw [← List.map_drop, ← List.map_take] at hnw
          have HNW := hide hnw
          have hnl : ((bs.drop (pos + 1)).take (v0 + 1)).length = v0 + 1 := by simp; omega
          have HNL := hide hnl
          clear hI hI2 hnw hnl e0 hg0 h0 hne
          go_wp2_with (at_builtin; refine wpList_append_own _ rfl _ _ 22 rfl w.heap.size 5 i0 (.int .u8 0) 1 1 Try.underlying22 HI.out HZ0.out HZ1.out HZ2.out rfl (by decide) _ _ _ rfl hown ⟨bb, o + (pos + 1), none⟩ (pos + 2 + v0 - (pos + 1)) (c - (pos + 1)) (((bs.drop (pos + 1)).take (v0 + 1)).map byteV) rfl ?_ ?_ ?_ ?_ ?_ ?_ ?_; (focus (rw [List.length_map, HNL.out]; omega)); exact HNW.out; (focus (intro u hu; simp only [List.mem_map] at hu; obtain ⟨x, _, rfl⟩ := hu; rfl)); (focus (simp only [maxLen]; omega)); (focus omega); exact hsz; intro v1 w1 hown1 hgr1 hne1; clear hne1; have hb1 := below_own hown hgr1 hsz)
          go_roundw
          case rel =>
            refine ⟨out ++ (bs.drop (pos + 1)).take (v0 + 1), k + 1, f - 1, pos + (v0 + 2), by go_num, by omega, by go_num, by omega, by omega, HI2.out.symm, ?_, ?_, q_below hq hb1 (Nat.le_refl _)⟩
            · rw [List.length_append, HNL.out]; omega
            · rw [List.length_append, HNL.out, List.map_append]
              rw [show pos + 2 + v0 - (pos + 1) = v0 + 1 by omega] at hown1
              exact hown1
          case measure => simp [intOf] <;> omega
      · have h128' : ¬ (v0 : Int) < 128 := by omega
        by_cases hsh : bs.length < pos + 3
        · have hR : itemsF bs = none := by rw [← HIT.out]; exact items_none (by omega) hne (item_short3 (by omega) (by rw [HDL.out]; omega))
          have HR := hide hR
          have hsh' : (bs.length : Int) < (pos : Int) + 3 := by omega
          clear hR hg0 e0 h0 hne
          go_wp2_with fail
          go_ret3
          exact .inl ⟨HR.out, rfl, hq⟩
        · have hsh' : ¬ (bs.length : Int) < (pos : Int) + 3 := by omega
          have hlt1 : (pos : Int) + 1 < (bs.length : Int) := by omega
          have hlt2 : (pos : Int) + 2 < (bs.length : Int) := by omega
          obtain ⟨b1, o1, v1, e1, _, hcv1, hv1, hg1, _⟩ := rd_byte hrw HS.out (pos + 1) (by omega)
          obtain ⟨rfl, rfl⟩ : bb = b1 ∧ o = o1 := by simpa using e1
          obtain ⟨b2, o2, v2, e2, _, hcv2, hv2, hg2, _⟩ := rd_byte hrw HS.out (pos + 2) (by omega)
          obtain ⟨rfl, rfl⟩ : bb = b2 ∧ o = o2 := by simpa using e2
          have f1 : (bs.drop pos).getD 1 0 = v1 := by simp [List.getD_eq_getElem?_getD, List.getElem?_drop, hg1]
          have f2 : (bs.drop pos).getD 2 0 = v2 := by simp [List.getD_eq_getElem?_getD, List.getElem?_drop, hg2]
          obtain ⟨D, hD⟩ : ∃ D, v1 + 256 * v2 = D := ⟨_, rfl⟩
          have eD : (v1 : Int) + 256 * (v2 : Int) = (D : Int) := by omega
          have hDb : (D : Int) ≤ 65535 := by omega
          have hfar := fun h => item_far (b := bs.drop pos) (out := out) (by omega) (by rw [HDL.out]; omega) h
          have hcopy := fun h h' => item_copy (b := bs.drop pos) (out := out) (by omega) (by rw [HDL.out]; omega) h h'
          rw [e0, f1, f2, hD] at hcopy
          rw [f1, f2, hD] at hfar
          have HFAR := hide hfar
          have HCOPY := hide hcopy
          have hbb' : bb < wr.heap.size := by omega
          obtain ⟨Ao, co, eo, ho1, ho2, ho3, hrdo⟩ := own_form hown
          subst eo
          have hol : (out.length : Int) ≤ 1064960 := by omega
          clear hfar hcopy e1 e2 hg0 hg1 hg2 f1 f2 e0 hD h0 ho3 hrdo
          by_cases hD1 : D < 1
          · have hR : itemsF bs = none := by rw [← HIT.out]; exact items_none (by omega) hne (HFAR.out (.inl hD1))
            have HR := hide hR
            have hD1' : (D : Int) < 1 := by omega
            clear hR hne
            go_wp2_with fail
            have hxc := ext_cell
            refine wp_region_ext (by kernel_rfl) (by kernel_rfl) ?_
            repeat (go_big_quiet_step ((fail)))
            clear hxc
            refine wpQuiet_nil ?_
            intro wz hwwz
            have hqwz := q_of_ext hwwz
            clear hwwz
            obtain ⟨hcwz, hfwz, hzwz⟩ := hqwz.facts
            try simp at hzwz
            try have hs0wz : w.heap.size < wz.heap.size := by omega
            try have hs1wz : w.heap.size + 1 < wz.heap.size := by omega
            have hq2 := hq.trans hqwz
            clear hown hcwz hfwz hrw hc0 hcv1 hcv2
            go_wp2_with fail
            go_ret3
            exact .inl ⟨HR.out, rfl, hq2⟩
          · have hD1' : ¬ (D : Int) < 1 := by omega
            by_cases hD2 : out.length < D
            · have hR : itemsF bs = none := by rw [← HIT.out]; exact items_none (by omega) hne (HFAR.out (.inr hD2))
              have HR := hide hR
              have hD2' : (out.length : Int) < (D : Int) := by omega
              clear hR hne
              go_wp2_with fail
              have hxc := ext_cell
              refine wp_region_ext (by kernel_rfl) (by kernel_rfl) ?_
              repeat (go_big_quiet_step ((fail)))
              clear hxc
              refine wpQuiet_nil ?_
              intro wz hwwz
              have hqwz := q_of_ext hwwz
              clear hwwz
              obtain ⟨hcwz, hfwz, hzwz⟩ := hqwz.facts
              try simp at hzwz
              try have hs0wz : w.heap.size < wz.heap.size := by omega
              try have hs1wz : w.heap.size + 1 < wz.heap.size := by omega
              have hq2 := hq.trans hqwz
              clear hown hcwz hfwz hrw hc0 hcv1 hcv2
              go_wp2_with fail
              go_ret3
              exact .inl ⟨HR.out, rfl, hq2⟩
            · have hD2' : ¬ (out.length : Int) < (D : Int) := by omega
              have hI2 := items_some (f := f) (n := k) (by omega) hne (HCOPY.out (by omega) (by omega))
              rw [HIT.out, List.drop_drop] at hI2
              have HI2 := hide hI2
              have hv0 : (v0 : Int) < 256 := by omega
              clear hI2 hne
              go_wp2_with fail
              have hxc := ext_cell
              refine wp_region_ext (by kernel_rfl) (by kernel_rfl) ?_
              repeat (go_big_quiet_step ((fail)))
              clear hxc
              refine wpQuiet_nil ?_
              intro wz hwwz
              have hqwz := q_of_ext hwwz
              clear hwwz
              obtain ⟨hcwz, hfwz, hzwz⟩ := hqwz.facts
              try simp at hzwz
              try have hs0wz : w.heap.size < wz.heap.size := by omega
              try have hs1wz : w.heap.size + 1 < wz.heap.size := by omega
              have hq2 := hq.trans hqwz
              have hown2 := own_q hown hqwz
              clear hown hcwz hfwz hrw hc0 hcv1 hcv2
              go_wp2_with fail
              go_loopw [5, 10] (fun v j wl => ∃ m : Nat, m + 125 ≤ v0 ∧ j = .int .i64 m ∧ wl.ownsRow w.heap.size 5 1 v (out.length + m) ((cp D out m).map byteV) ∧ Q w wl) (fun _ j _ => (v0 - 125) - (intOf j).toNat)
              case atStart => exact ⟨0, by omega, by go_num, hown2, hq2⟩
              case round =>
                obtain ⟨m, hm, rfl, hownm, hqm⟩ := hrel
                have hml : (m : Int) ≤ 256 := by omega
                have hszm := hqm.size
                obtain ⟨Am, cm, em, hm1, hm2, hm3, hrdm⟩ := own_form hownm
                subst em
                have hcl := cp_length D out m
                have hcs : cp D out (m + 1) = cpS D (cp D out m) := rfl
                have hcx : cpS D (cp D out m) = cp D out m ++ [(cp D out m).getD (out.length + m - D) 0] := by unfold cpS; rw [hcl]
                rw [hcx] at hcs
                have HCS := hide hcs
                by_cases hlt : m + 125 < v0
                · obtain ⟨bm, om, em, hbm, hcm⟩ := hrdm.at_ (by simp [hcl]; omega)
                  have hcm := hcm (out.length + m - D) (by simp [hcl]; omega)
                  subst em
                  have hge : (cp D out m).getD (out.length + m - D) 0 = (cp D out m)[out.length + m - D]'(by omega) := by
                    simp [List.getD_eq_getElem?_getD, show out.length + m - D < (cp D out m).length by omega]
                  have hcm2 : wr.cell? ⟨bm, om + (out.length + m - D), none⟩ = some (.int .u8 ((cp D out m).getD (out.length + m - D) 0 : Nat)) := by
                    rw [hge]; simpa [byteV] using hcm
                  generalize (cp D out m).getD (out.length + m - D) 0 = x at *
                  have hltm : (m : Int) + 125 < (v0 : Int) := by omega
                  have i1 : (0 : Int) ≤ (out.length : Int) + (m : Int) - (D : Int) := by omega
                  have i2 : (out.length : Int) + (m : Int) - (D : Int) < ((out.length + m : Nat) : Int) := by omega
                  clear hcm hge hcs hcx hrdm hm3 hcl
                  go_wp2_with (at_builtin; refine wpList_append_own _ rfl _ _ 22 rfl w.heap.size 5 i0 (.int .u8 0) 1 1 Try.underlying22 HI.out HZ0.out HZ1.out HZ2.out rfl (by decide) _ _ _ rfl (hownm.alloc _) ⟨wr.heap.size, 0, none⟩ 1 1 [.int .u8 (x : Nat)] rfl rfl ?_ ?_ ?_ ?_ ?_ ?_; exact (cell_one_new _ _ _); (focus (simp [Value.oneCell'])); (focus (simp only [maxLen]; omega)); (focus omega); (focus (simp; omega)); intro v1 w1 hown1 hgr1 hne1; clear hne1; have hb1 := below_app hownm hgr1 (by omega))
                  go_roundw
                  case rel => exact ⟨m + 1, by omega, by go_num, by rw [HCS.out, List.map_append]; exact hown1, q_below hqm hb1 (Nat.le_refl _)⟩
                  case measure => simp [intOf] <;> omega
                · have em : m + 125 = v0 := by omega
                  have hltm : ¬ (m : Int) + 125 < (v0 : Int) := by omega
                  clear hcx hcs
                  go_wp2_with fail
                  go_roundw
                  case rel =>
                    have hml2 : m = v0 - 125 := by omega
                    subst hml2
                    refine ⟨cp D out (v0 - 125), k + 1, f - 1, pos + 3, by go_num, by omega, by go_num, by omega, by omega, HI2.out.symm, ?_, ?_, hqm⟩
                    · rw [cp_length]; omega
                    · rw [cp_length]; exact hownm
                  case measure => simp [intOf] <;> omega
end Go.Proofs.Ytfiopjgpokdnoaa
