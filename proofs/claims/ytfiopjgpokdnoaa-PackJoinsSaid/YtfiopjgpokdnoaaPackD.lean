/- The walk of the law PackDiffers. Conditions: the slice reads as bytes. -/
import Derived.Test.YtfiopjgpokdnoaaPackL
import Derived.Test.YtfiopjgpokdnoaaApp
namespace Go.Proofs.Ytfiopjgpokdnoaa
open Go.RowKit PP
set_option linter.unusedVariables false
theorem El_byte : El Try.prog 22 5 1 1 := El.of (z := .int .u8 0) Try.underlying22 (by kernel_rfl) rfl (by omega) (by omega)
theorem u8_xor_n (a b : Nat) (ha : a < 256) (hb : b < 256) : bits .xor .u8 (a : Int) (b : Int) = ((a ^^^ b : Nat) : Int) := by
  have hx : a ^^^ b < 256 := Nat.xor_lt_two_pow (n := 8) ha hb
  show IntKind.u8.wrap ((BitVec.ofInt 8 (a : Int) ^^^ BitVec.ofInt 8 (b : Int)).toNat : Int) = _
  rw [BitVec.toNat_xor, BitVec.ofInt_natCast, BitVec.ofInt_natCast, BitVec.toNat_ofNat, BitVec.toNat_ofNat, Nat.mod_eq_of_lt (by simpa using ha), Nat.mod_eq_of_lt (by simpa using hb)]
  simp [IntKind.wrap, IntKind.bits, IntKind.signed]
  omega
theorem set_parts (bs : List Nat) (k v : Nat) (h : k < bs.length) : bs = bs.take k ++ bs[k] :: bs.drop (k + 1) ∧ bs.set k v = bs.take k ++ v :: bs.drop (k + 1) := by
  refine ⟨by simp, ?_⟩
  rw [List.set_eq_take_append_cons_drop, if_pos h]
theorem xor_ne (u v : Nat) (h : v ≠ 0) : u ≠ u ^^^ v := fun e => h (by
  have := congrArg (u ^^^ ·) e
  simpa [← Nat.xor_assoc] using this.symm)
theorem diff_all (bs : List Nat) (hs : ∀ b ∈ bs, b < 256) (k d : Nat) (h : k < bs.length) (hd : d < 256) (h0 : d ≠ 0) :
    (sumF bs).2 * 65536 + (sumF bs).1 ≠ (sumF (bs.set k (bs[k] ^^^ d))).2 * 65536 + (sumF (bs.set k (bs[k] ^^^ d))).1 ∧ cycF bs ^^^ 4294967295 ≠ cycF (bs.set k (bs[k] ^^^ d)) ^^^ 4294967295 ∧ mixF bs ≠ mixF (bs.set k (bs[k] ^^^ d)) ∧
      ∀ b ∈ bs.set k (bs[k] ^^^ d), b < 256 := by
  have hu := hs _ (List.getElem_mem h)
  have hv : bs[k] ^^^ d < 256 := Nat.xor_lt_two_pow (n := 8) hu hd
  have hne := xor_ne bs[k] d h0
  obtain ⟨e1, e2⟩ := set_parts bs k (bs[k] ^^^ d) h
  have ht : ∀ c ∈ bs.take k, c < 256 := fun c hc => hs c (List.mem_of_mem_take hc)
  have hz : ∀ c ∈ bs.drop (k + 1), c < 256 := fun c hc => hs c (List.mem_of_mem_drop hc)
  rw [e2]
  generalize bs[k] ^^^ d = v at *
  generalize bs[k] = u at *
  generalize bs.take k = a at *
  generalize bs.drop (k + 1) = z at *
  subst e1
  refine ⟨fun e => ?_, fun e => ?_, mix_ne a z u v ht hz hu hv hne, fun b hb => ?_⟩
  · have h1 := sum_ne a z u v hz hu hv hne
    have q1 := sumF_bd (a ++ u :: z)
    have q2 := sumF_bd (a ++ v :: z)
    omega
  · exact cyc_ne a z u v ht hz hu hv hne (xor_right_inj e)
  · simp only [List.mem_append, List.mem_cons] at hb
    rcases hb with hb | rfl | hb
    · exact ht b hb
    · exact hv
    · exact hz b hb
theorem diff_facts (bs : List Nat) (hs : ∀ b ∈ bs, b < 256) (k d : Nat) (h : k < bs.length) (hd : d < 256) (h0 : d ≠ 0) : ∃ (u v : Nat) (bs2 : List Nat), u < 256 ∧ v < 256 ∧ (bs.map byteV)[k]? = some (.int .u8 (u : Nat)) ∧
    bits .xor .u8 (u : Int) (d : Int) = ((v : Nat) : Int) ∧ (bs.map byteV).set k (.int .u8 (v : Nat)) = bs2.map byteV ∧ bs2.length = bs.length ∧ (∀ b ∈ bs2, b < 256) ∧
    (sumF bs).2 * 65536 + (sumF bs).1 ≠ (sumF bs2).2 * 65536 + (sumF bs2).1 ∧ cycF bs ^^^ 4294967295 ≠ cycF bs2 ^^^ 4294967295 ∧ mixF bs ≠ mixF bs2 := by
  obtain ⟨g1, g2, g3, g4⟩ := diff_all bs hs k d h hd h0
  have hu := hs _ (List.getElem_mem h)
  exact ⟨bs[k], bs[k] ^^^ d, bs.set k (bs[k] ^^^ d), hu, Nat.xor_lt_two_pow (n := 8) hu hd, by simp [h, byteV], u8_xor_n _ _ hu hd, by rw [List.map_set]; rfl, by simp, g4, g1, g2, g3⟩
theorem Sum_x {A : Option Addr} {n c : Nat} {bs : List Nat} {w : World} (h : Bytes w A n c bs) (hn : n ≤ 4096) {x : Nat} (hx : (sumF bs).2 * 65536 + (sumF bs).1 = x) : Calls Try.prog 12 #[.slice A n c] w fun e w' => e = .returned (.tuple #[.int .u32 (x : Nat), .int .i64 0]) ∧ w = w' := by
  subst hx
  exact Sum_any A n c bs w h hn
theorem Cyclic_x {A : Option Addr} {n c : Nat} {bs : List Nat} {w : World} (h : Bytes w A n c bs) (hn : n ≤ 4096) {x : Nat} (hx : cycF bs ^^^ 4294967295 = x) : Calls Try.prog 14 #[.slice A n c] w fun e w' => e = .returned (.tuple #[.int .u32 (x : Nat), .int .i64 0]) ∧ w = w' := by
  subst hx
  exact Cyclic_any A n c bs w h hn
theorem Mix_x {A : Option Addr} {n c : Nat} {bs : List Nat} {w : World} (h : Bytes w A n c bs) (hn : n ≤ 4096) {x : Nat} (hx : mixF bs = x) : Calls Try.prog 16 #[.slice A n c] w fun e w' => e = .returned (.tuple #[.int .u32 (x : Nat), .int .i64 0]) ∧ w = w' := by
  subst hx
  exact Mix_any A n c bs w h hn
theorem PackDiffers_known (A : Option Addr) (n c : Nat) (at_ by_ : Int) (w : World) (h : 4096 < n ∨ at_ < 0 ∨ (n : Int) ≤ at_ ∨ by_ = 0) : Calls Try.prog 4 #[.slice A n c, .int .i64 at_, .int .u8 by_] w fun e w' => e = .returned (.bool true) ∧ Q w w' := by
  by_cases h1 : 4096 < n
  · have h1' : 4096 < (n : Int) := by omega
    clear h
    go_enter Try.func4, Try.ntmps4
    go_wp2_with fail
    refine (known_any _).mono ?_
    rintro e w1 ⟨rfl, hq⟩
    go_wp2_with fail
    go_ret
    exact ⟨rfl, hq⟩
  · have h1' : ¬ 4096 < (n : Int) := by omega
    by_cases h2 : at_ < 0
    · clear h
      go_enter Try.func4, Try.ntmps4
      go_wp2_with fail
      refine (known_any _).mono ?_
      rintro e w1 ⟨rfl, hq⟩
      go_wp2_with fail
      go_ret
      exact ⟨rfl, hq⟩
    · by_cases h3 : (n : Int) ≤ at_
      · clear h
        go_enter Try.func4, Try.ntmps4
        go_wp2_with fail
        refine (known_any _).mono ?_
        rintro e w1 ⟨rfl, hq⟩
        go_wp2_with fail
        go_ret
        exact ⟨rfl, hq⟩
      · have h4 : by_ = 0 := by omega
        subst h4
        clear h
        go_enter Try.func4, Try.ntmps4
        go_wp2_with fail
        refine (known_any _).mono ?_
        rintro e w1 ⟨rfl, hq⟩
        go_wp2_with fail
        go_ret
        exact ⟨rfl, hq⟩
set_option maxRecDepth 100000 in
theorem PackDiffers_real (A : Option Addr) (n c : Nat) (bs : List Nat) (k d : Nat) (w : World) (h : Bytes w A n c bs) (hn : n ≤ 4096) (hk : k < n) (hd : d < 256) (h0 : d ≠ 0) :
    Calls Try.prog 4 #[.slice A n c, .int .i64 (k : Nat), .int .u8 (d : Nat)] w fun e w' => e = .returned (.bool true) ∧ Q w w' := by
  obtain ⟨u, v, bs2, hu, hv, hgk, hx, hset, hl2, hs2, hd1, hd2, hd3⟩ := diff_facts bs h.small k d (by rw [h.len]; exact hk) hd h0
  have hl := h.len
  have hrd := h.rd
  obtain ⟨b, o, rfl, hb, -⟩ := h.rd.at_ (by simp; omega)
  have hd0 : ((d : Int) == 0) = false := by simp; omega
  have hk0 : decide ((k : Int) < 0) = false := by simp
  have hn' : ¬ 4096 < (n : Int) := by omega
  have hk' : ¬ (n : Int) ≤ (k : Int) := by omega
  have hcap := h.cap
  have hmost := h.most
  have hlv : (bs.map byteV).length = n * 1 := by simpa using hl
  have HLV := hide hlv
  have H := hide h
  have HGK := hide hgk
  have HSET := hide hset
  have HX := hide hx
  have HL2 := hide (hl2.trans hl)
  have HS2 := hide hs2
  have HRD := hide hrd
  obtain ⟨x0, hx0⟩ : ∃ x, (sumF bs).2 * 65536 + (sumF bs).1 = x := ⟨_, rfl⟩
  obtain ⟨y0, hy0⟩ : ∃ x, (sumF bs2).2 * 65536 + (sumF bs2).1 = x := ⟨_, rfl⟩
  obtain ⟨x1, hx1⟩ : ∃ x, cycF bs ^^^ 4294967295 = x := ⟨_, rfl⟩
  obtain ⟨y1, hy1⟩ : ∃ x, cycF bs2 ^^^ 4294967295 = x := ⟨_, rfl⟩
  obtain ⟨x2, hx2⟩ : ∃ x, mixF bs = x := ⟨_, rfl⟩
  obtain ⟨y2, hy2⟩ : ∃ x, mixF bs2 = x := ⟨_, rfl⟩
  rw [hx0, hy0] at hd1
  rw [hx1, hy1] at hd2
  rw [hx2, hy2] at hd3
  have gD1 : ((x0 : Int) != (y0 : Int)) = true := by simp; omega
  have gD2 : ((x1 : Int) != (y1 : Int)) = true := by simp; omega
  have gD3 : ((x2 : Int) != (y2 : Int)) = true := by simp; omega
  have X0 := hide hx0
  have Y0 := hide hy0
  have X1 := hide hx1
  have Y1 := hide hy1
  have X2 := hide hx2
  have Y2 := hide hy2
  clear hx0 hy0 hx1 hy1 hx2 hy2 hd1 hd2 hd3
  clear hx hgk hset hl2 hs2 hl hlv hrd h
  go_enter Try.func4, Try.ntmps4
  go_wp2_with (at_builtin; refine wpList_apps rfl El_byte _ _ rfl rfl (own_lit0 _ w.heap.size _ 1 _ (by simp) (Nat.le_refl _)) rfl (fun h => by cases h) HLV.out (HRD.out.alloc (Nat.le_refl _) _) ?_ ?_ ?_ ?_; (focus (intro u hu; simp only [List.mem_map] at hu; obtain ⟨x, _, rfl⟩ := hu; rfl)); (focus omega); (focus (simp)); intro v1 w1 hown1 hb1; simp only [Nat.zero_add, List.nil_append] at hown1; obtain ⟨g, c1, rfl, hg, hgl, hc1, hm1, hcell, hfz⟩ := own_at hown1 (by omega); have hck := hcell k _ HGK.out; have hfk := hfz k; have hx := HX.out; clear hcell hfz)
  have hQ : Q w (w1.setCell ⟨g, k, none⟩ (.int .u8 (v : Nat))) := Q.set (q_below ((Q.refl w).alloc _) hb1 (Nat.le_refl _)) hg _
  have hown2 := own_set hown1 k (.int .u8 (v : Nat))
  rw [HSET.out] at hown2
  have HB1 := hide (H.out.up hQ)
  have HB2 : Hid (Bytes (w1.setCell ⟨g, k, none⟩ (.int .u8 (v : Nat))) (some ⟨g, 0, none⟩) n c1 bs2) := hide ⟨own_rd hown2, HL2.out, HS2.out, hc1, by simpa [maxLen] using hm1⟩
  clear hown1 hown2 hb1 hx hfk hck HRD H HX HSET HGK HLV HS2 HL2
  generalize w1.setCell ⟨g, k, none⟩ (.int .u8 (v : Nat)) = w2 at *
  refine (Sum_x HB1.out hn X0.out).mono ?_
  rintro e w3 ⟨rfl, rfl⟩
  go_wp2_with fail
  refine (Sum_x HB2.out hn Y0.out).mono ?_
  rintro e w3 ⟨rfl, rfl⟩
  go_wp2_with fail
  refine (Cyclic_x HB1.out hn X1.out).mono ?_
  rintro e w3 ⟨rfl, rfl⟩
  go_wp2_with fail
  refine (Cyclic_x HB2.out hn Y1.out).mono ?_
  rintro e w3 ⟨rfl, rfl⟩
  go_wp2_with fail
  refine (Mix_x HB1.out hn X2.out).mono ?_
  rintro e w3 ⟨rfl, rfl⟩
  go_wp2_with fail
  refine (Mix_x HB2.out hn Y2.out).mono ?_
  rintro e w3 ⟨rfl, rfl⟩
  go_wp2_with fail
  refine (known_any _).mono ?_
  rintro e w3 ⟨rfl, hq⟩
  go_wp2_with fail
  go_ret
  exact ⟨rfl, hQ.trans hq⟩
theorem PackDiffers_true (A : Option Addr) (n c : Nat) (bs : List Nat) (at_ by_ : Int) (w : World) (h : Bytes w A n c bs) (hby : 0 ≤ by_ ∧ by_ < 256) :
    Calls Try.prog 4 #[.slice A n c, .int .i64 at_, .int .u8 by_] w fun e w' => e = .returned (.bool true) ∧ Q w w' := by
  by_cases hk : 4096 < n ∨ at_ < 0 ∨ (n : Int) ≤ at_ ∨ by_ = 0
  · exact PackDiffers_known A n c at_ by_ w hk
  · obtain ⟨k, rfl⟩ := Int.eq_ofNat_of_zero_le (show 0 ≤ at_ by omega)
    obtain ⟨d, rfl⟩ := Int.eq_ofNat_of_zero_le hby.1
    exact PackDiffers_real A n c bs k d w h (by omega) (by omega) (by omega) (by omega)
end Go.Proofs.Ytfiopjgpokdnoaa
