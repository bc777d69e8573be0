/- The walk of the law LexKeeps. Conditions: none. -/
import Derived.Test.YtofigpjabamnhaaLexU
import Derived.Test.YtofigpjabamnhaaLexV
import Derived.Test.YtofigpjabamnhaaLexW
namespace Go.Proofs.Ytofigpjabamnhaa
open Go.RowKit LX
set_option linter.unusedVariables false
theorem befG_step (ks : List G) (f : Int) (i : Nat) (g : G) (h : ks[i]? = some g) : befG (ks.take (i + 1)) f = befG (ks.take i) f + (if decide (g.2.1 + (g.2.2.size : Int) < f) = true then 1 else 0) := by
  unfold befG
  rw [List.take_add_one, h, List.countP_append]
  simp [List.countP_cons]
theorem behG_step (ks : List G) (q : Int) (i : Nat) (g : G) (h : ks[i]? = some g) : behG (ks.take (i + 1)) q = behG (ks.take i) q + (if decide (q < g.2.1) = true then 1 else 0) := by
  unfold behG
  rw [List.take_add_one, h, List.countP_append]
  simp [List.countP_cons]
theorem LexKeeps_err (s : ByteArray) (f t : Int) (y : ByteArray) (e : Nat) (w : World) (hs : s.size ≤ 6000) (hy : y.size ≤ 6000) (he : e ≠ 0)
    (k0 : ∀ w, Calls Try.prog 19 #[.string s, edV f t y] w fun en w' => en = .returned (.tuple #[.int .i64 0, .int .i64 0, .int .i64 (e : Nat)]) ∧ Q w w')
    (k1 : ∀ w, Calls Try.prog 20 #[.string s, edV f t y] w fun en w' => en = .returned (.tuple #[.int .i64 0, .int .i64 0, .int .i64 (e : Nat)]) ∧ Q w w') :
    Calls Try.prog 6 #[.string s, edV f t y] w fun e w' => e = .returned (.bool true) ∧ Q w w' := by
  have d1 : decide (6000 < (s.size : Int)) = false := by simp; omega
  have d2 : decide (6000 < (y.size : Int)) = false := by simp; omega
  have d3 : ((e : Int) != 0) = true := by simp; omega
  have d4 : ((e : Int) != (e : Int)) = false := by simp
  have K0 := hide k0
  have K1 := hide k1
  clear k0 k1
  go_enter Try.func6, Try.ntmps6
  go_wp2_with fail
  refine (K0.out _).mono ?_
  rintro en w1 ⟨rfl, hq1⟩
  have hq01 := ((Q.refl w).alloc _).trans hq1
  have hc1 := hq1.facts.1
  have hs1 : w.heap.size < w1.heap.size := by have := hq1.size; simp at this; omega
  have hsa1 : w.heap.size < (w.alloc (.cells #[.int .i64 f, .int .i64 t, .string y] 30)).heap.size := by simp
  go_wp2_with fail
  refine (K1.out _).mono ?_
  rintro en w2 ⟨rfl, hq2⟩
  go_wp2_with fail
  refine (known_any _).mono ?_
  rintro e w3 ⟨rfl, hq3⟩
  go_wp2_with fail
  go_ret
  exact ⟨rfl, (hq01.trans hq2).trans hq3⟩
theorem LexKeeps_long (s : ByteArray) (f t : Int) (y : ByteArray) (w : World) (h : 6000 < s.size ∨ 6000 < y.size) : Calls Try.prog 6 #[.string s, edV f t y] w fun e w' => e = .returned (.bool true) ∧ Q w w' := by
  by_cases h1 : 6000 < s.size
  · have d1 : decide (6000 < (s.size : Int)) = true := by simp; omega
    clear h
    go_enter Try.func6, Try.ntmps6
    go_wp2_with fail
    refine (known_any _).mono ?_
    rintro e w1 ⟨rfl, hq⟩
    go_wp2_with fail
    go_ret
    exact ⟨rfl, ((Q.refl w).alloc _).trans hq⟩
  · have d1 : decide (6000 < (s.size : Int)) = false := by simp; omega
    have d2 : decide (6000 < (y.size : Int)) = true := by simp; omega
    clear h
    go_enter Try.func6, Try.ntmps6
    go_wp2_with fail
    refine (known_any _).mono ?_
    rintro e w1 ⟨rfl, hq⟩
    go_wp2_with fail
    go_ret
    exact ⟨rfl, ((Q.refl w).alloc _).trans hq⟩
set_option maxRecDepth 100000 in
set_option maxHeartbeats 4000000 in
theorem LexKeeps_main (s : ByteArray) (f t : Nat) (y : ByteArray) (ts0 : List Tok) (n0 a b : Nat) (w : World) (hs : s.size ≤ 6000) (hy : y.size ≤ 6000) (hft : f ≤ t) (hts : t ≤ s.size) (h0 : lexF (nat s) = (ts0, n0, 0)) (ha : a ≤ 1000) (hb : b ≤ 1000)
    (hbd : ∀ g ∈ ts0.map (gOf s), 0 ≤ g.2.1 ∧ g.2.1 ≤ 6000 ∧ g.2.2.size ≤ 6000)
    (law : ∀ q, t ≤ q → q ≤ s.size → (q = s.size ∨ clsN ((nat s).getD q 0) = 1) → befG (ts0.map (gOf s)) (f : Nat) ≤ a ∧ befG (ts0.map (gOf s)) (f : Nat) + behG (ts0.map (gOf s)) (q : Nat) ≤ a + b)
    (k0 : ∀ w, Calls Try.prog 19 #[.string s, edV (f : Nat) (t : Nat) y] w fun en w' => en = .returned (.tuple #[.int .i64 (a : Nat), .int .i64 (b : Nat), .int .i64 0]) ∧ Q w w')
    (k1 : ∀ w, Calls Try.prog 20 #[.string s, edV (f : Nat) (t : Nat) y] w fun en w' => en = .returned (.tuple #[.int .i64 (a : Nat), .int .i64 (b : Nat), .int .i64 0]) ∧ Q w w') :
    Calls Try.prog 6 #[.string s, edV (f : Nat) (t : Nat) y] w fun e w' => e = .returned (.bool true) ∧ Q w w' := by
  have d1 : decide (6000 < (s.size : Int)) = false := by simp; omega
  have d2 : decide (6000 < (y.size : Int)) = false := by simp; omega
  have d4 : ((a : Int) != (a : Int)) = false := by simp
  have d5 : ((b : Int) != (b : Int)) = false := by simp
  have hai : (a : Int) ≤ 1000 := by omega
  have hbi : (b : Int) ≤ 1000 := by omega
  have hsi : (s.size : Int) ≤ 6000 := by omega
  have hlen0 := lexF_len (nat s)
  have l0 := Lex_any s
  rw [h0] at hlen0 l0
  dsimp only at hlen0
  have K0 := hide k0
  have K1 := hide k1
  have L0 := hide l0
  have LAW := hide law
  have HBD := hide hbd
  clear k0 k1 law hbd l0 h0
  obtain ⟨ks, hks⟩ : ∃ ks, ts0.map (gOf s) = ks := ⟨_, rfl⟩
  rw [hks] at LAW HBD
  have HKS := hide hks
  clear hks
  go_enter Try.func6, Try.ntmps6
  go_wp2_with fail
  refine (K0.out _).mono ?_
  rintro en w1 ⟨rfl, hq1⟩
  have hq01 := ((Q.refl w).alloc _).trans hq1
  have hc1 := hq1.facts.1
  have hs1 : w.heap.size < w1.heap.size := by have := hq1.size; simp at this; omega
  have hsa1 : w.heap.size < (w.alloc (.cells #[.int .i64 f, .int .i64 t, .string y] 30)).heap.size := by simp
  go_wp2_with fail
  refine (K1.out _).mono ?_
  rintro en w2 ⟨rfl, hq2⟩
  have hc2 := hq2.facts.1
  have hs2 : w.heap.size < w2.heap.size := by have := hq2.size; omega
  go_wp2_with fail
  refine (L0.out _).mono ?_
  rintro en w3 ⟨v3, rfl, hown3, hq3⟩
  dsimp only at hown3
  have hc3 := hq3.facts.1
  have hs3 : w.heap.size < w3.heap.size := by have := hq3.size; omega
  obtain ⟨A0, c0, rfl, g0⟩ := gtoks_own hown3 hlen0
  rw [HKS.out] at g0
  have G0 := hide g0
  have hq03 := (hq01.trans hq2).trans hq3
  have x0 : w3.cell? ⟨w.heap.size, 0, none⟩ = some (.int .i64 f) := by rw [hc3 _ _ hs2, hc2 _ _ hs1, hc1 _ _ hsa1]; simp
  have x1 : w3.cell? ⟨w.heap.size, 1, none⟩ = some (.int .i64 t) := by rw [hc3 _ _ hs2, hc2 _ _ hs1, hc1 _ _ hsa1]; simp
  clear hown3 g0 hc1 hc2 hc3
  go_wp2_with fail
  go_loopw [14] (fun v wl => ∃ q : Nat, t ≤ q ∧ q ≤ s.size ∧ v = .int .i64 q ∧ Q w3 wl) (fun v _ => s.size - (intOf v).toNat)
  case atStart => exact ⟨t, by omega, by omega, by go_num, Q.refl _⟩
  case round =>
    obtain ⟨q, htq, hqs, rfl, hq⟩ := hrel
    have hqi : (q : Int) ≤ (s.size : Int) := by omega
    by_cases hlt : q < s.size
    · have hg0 : (nat s).getD q 0 = s[q].toNat := by rw [List.getD_eq_getElem?_getD, nat_get s q hlt]; rfl
      have h256 : s[q].toNat < 256 := s[q].toNat_lt
      have hlti : (q : Int) < (s.size : Int) := by omega
      have hd0 : decide (q < s.size) = true := by simpa using hlt
      have hd1 : decide ((q : Int) < (s.size : Int)) = true := by simpa using hlt
      by_cases e32 : s[q].toNat = 32
      · have hqb : q = s.size ∨ clsN ((nat s).getD q 0) = 1 := .inr (by rw [hg0, e32]; decide)
        have d6 : ((s[q].toNat : Int) != 32) = false := by rw [e32]; rfl
        clear e32 hg0
        have HLAW := hide (LAW.out q htq hqs hqb)
        go_wp2_with fail
        go_loopw [15, 16, 17] (fun vb ve v wl => ∃ i nb ne : Nat, i ≤ ts0.length ∧ nb ≤ i ∧ ne ≤ i ∧ nb = befG (ks.take i) (f : Nat) ∧ ne = behG (ks.take i) (q : Nat) ∧ vb = .int .i64 nb ∧ ve = .int .i64 ne ∧ v = .int .i64 i ∧ Q w3 wl) (fun _ _ v _ => ts0.length - (intOf v).toNat)
        case atStart => exact ⟨0, 0, 0, by omega, by omega, by omega, by simp [befG], by simp [behG], by go_num, by go_num, by go_num, hq⟩
        case round =>
          obtain ⟨i, nb, ne, hi, hnb, hne, hb0, he0, rfl, rfl, rfl, hql⟩ := hrel
          have HB0 := hide hb0
          have HE0 := hide he0
          clear hb0 he0
          have hii : (i : Int) ≤ (ts0.length : Int) := by omega
          have hti : (ts0.length : Int) ≤ 1000 := by omega
          by_cases hlt2 : i < ts0.length
          · have dl1 : decide (i < ts0.length) = true := by simp; omega
            have dl2 : decide ((i : Int) < (ts0.length : Int)) = true := by simp; omega
            have hlti2 : (i : Int) < (ts0.length : Int) := by omega
            obtain ⟨b1, o1, k1, a1, t1, rfl, hb1, g1, y1, y2, y3⟩ := (G0.out.up hql).at_ i (by omega)
            have hbd := HBD.out _ (List.mem_of_getElem? g1)
            dsimp only at hbd
            obtain ⟨ha1, ha2, ha3⟩ := hbd
            have ha3i : (t1.size : Int) ≤ 6000 := by omega
            have s1 := befG_step ks (f : Nat) i _ g1
            have s2 := behG_step ks (q : Nat) i _ g1
            rw [← HB0.out] at s1
            rw [← HE0.out] at s2
            dsimp only at s1 s2
            have xf : wr.cell? ⟨w.heap.size, 0, none⟩ = some (.int .i64 (f : Nat)) := by rw [hql.facts.1 _ _ hs3]; exact x0
            have hws : w.heap.size < wr.heap.size := by have := hql.size; omega
            clear g1
            obtain ⟨c1, hc1⟩ : ∃ c, decide (a1 + (t1.size : Int) < ((f : Nat) : Int)) = c := ⟨_, rfl⟩
            obtain ⟨c2, hc2⟩ : ∃ c, decide (((q : Nat) : Int) < a1) = c := ⟨_, rfl⟩
            rw [hc1] at s1
            rw [hc2] at s2
            have S1 := hide s1
            have S2 := hide s2
            clear s1 s2
            cases c1
            · cases c2
              · go_wp2_with fail
                have hxc := ext_cell
                refine wp_region_ext (by kernel_rfl) (by kernel_rfl) ?_
                repeat (go_big_quiet_step ((fail)))
                clear hxc
                refine wpQuiet_nil ?_
                intro wz hwwz
                have hqwz := q_of_ext hwwz
                clear hwwz
                obtain ⟨hcwz, hfwz, hzwz⟩ := hqwz.facts
                try simp at hzwz
                try have hs0wz : w.heap.size < wz.heap.size := by omega
                try have hs1wz : w.heap.size + 1 < wz.heap.size := by omega
                have hqz := hql.trans hqwz
                have y2z := (hqwz.facts.1 _ _ hb1).trans y2
                have hb1z := Nat.lt_of_lt_of_le hb1 hqwz.size
                clear hcwz hfwz y1 y2 y3
                go_wp2_with fail
                go_roundw
                case rel => exact ⟨i + 1, nb, ne, by omega, by omega, by omega, S1.out.symm, S2.out.symm, by go_num, by go_num, by go_num, hqz⟩
                case measure => simp [intOf] <;> omega
              · go_wp2_with fail
                have hxc := ext_cell
                refine wp_region_ext (by kernel_rfl) (by kernel_rfl) ?_
                repeat (go_big_quiet_step ((fail)))
                clear hxc
                refine wpQuiet_nil ?_
                intro wz hwwz
                have hqwz := q_of_ext hwwz
                clear hwwz
                obtain ⟨hcwz, hfwz, hzwz⟩ := hqwz.facts
                try simp at hzwz
                try have hs0wz : w.heap.size < wz.heap.size := by omega
                try have hs1wz : w.heap.size + 1 < wz.heap.size := by omega
                have hqz := hql.trans hqwz
                have y2z := (hqwz.facts.1 _ _ hb1).trans y2
                have hb1z := Nat.lt_of_lt_of_le hb1 hqwz.size
                clear hcwz hfwz y1 y2 y3
                go_wp2_with fail
                go_roundw
                case rel => exact ⟨i + 1, nb, ne + 1, by omega, by omega, by omega, S1.out.symm, S2.out.symm, by go_num, by go_num, by go_num, hqz⟩
                case measure => simp [intOf] <;> omega
            · cases c2
              · go_wp2_with fail
                have hxc := ext_cell
                refine wp_region_ext (by kernel_rfl) (by kernel_rfl) ?_
                repeat (go_big_quiet_step ((fail)))
                clear hxc
                refine wpQuiet_nil ?_
                intro wz hwwz
                have hqwz := q_of_ext hwwz
                clear hwwz
                obtain ⟨hcwz, hfwz, hzwz⟩ := hqwz.facts
                try simp at hzwz
                try have hs0wz : w.heap.size < wz.heap.size := by omega
                try have hs1wz : w.heap.size + 1 < wz.heap.size := by omega
                have hqz := hql.trans hqwz
                have y2z := (hqwz.facts.1 _ _ hb1).trans y2
                have hb1z := Nat.lt_of_lt_of_le hb1 hqwz.size
                clear hcwz hfwz y1 y2 y3
                go_wp2_with fail
                go_roundw
                case rel => exact ⟨i + 1, nb + 1, ne, by omega, by omega, by omega, S1.out.symm, S2.out.symm, by go_num, by go_num, by go_num, hqz⟩
                case measure => simp [intOf] <;> omega
              · go_wp2_with fail
                have hxc := ext_cell
                refine wp_region_ext (by kernel_rfl) (by kernel_rfl) ?_
                repeat (go_big_quiet_step ((fail)))
                clear hxc
                refine wpQuiet_nil ?_
                intro wz hwwz
                have hqwz := q_of_ext hwwz
                clear hwwz
                obtain ⟨hcwz, hfwz, hzwz⟩ := hqwz.facts
                try simp at hzwz
                try have hs0wz : w.heap.size < wz.heap.size := by omega
                try have hs1wz : w.heap.size + 1 < wz.heap.size := by omega
                have hqz := hql.trans hqwz
                have y2z := (hqwz.facts.1 _ _ hb1).trans y2
                have hb1z := Nat.lt_of_lt_of_le hb1 hqwz.size
                clear hcwz hfwz y1 y2 y3
                go_wp2_with fail
                go_roundw
                case rel => exact ⟨i + 1, nb + 1, ne + 1, by omega, by omega, by omega, S1.out.symm, S2.out.symm, by go_num, by go_num, by go_num, hqz⟩
                case measure => simp [intOf] <;> omega
          · have dl1 : decide (i < ts0.length) = false := by simp; omega
            have dl2 : decide ((i : Int) < (ts0.length : Int)) = false := by simp; omega
            have hnb2 : nb = befG ks (f : Nat) := by rw [HB0.out, List.take_of_length_le (by have := G0.out.len; omega)]
            have hne2 : ne = behG ks (q : Nat) := by rw [HE0.out, List.take_of_length_le (by have := G0.out.len; omega)]
            have hl := HLAW.out
            rw [← hnb2, ← hne2] at hl
            have dg1 : decide ((nb : Int) ≤ (a : Int)) = true := by simp; omega
            have dg2 : decide (nb ≤ a) = true := by simp; omega
            have dg3 : decide ((nb : Int) + (ne : Int) ≤ (a : Int) + (b : Int)) = true := by simp; omega
            have dg4 : decide (nb + ne ≤ a + b) = true := by simp; omega
            clear hl hnb2 hne2
            go_wp2_with fail
            refine (known_any _).mono ?_
            rintro e w8 ⟨rfl, hq8⟩
            go_wp2_with fail
            go_ret
            exact ⟨rfl, ((hq03.trans hql)).trans hq8⟩
      · by_cases e10 : s[q].toNat = 10
        · have hqb : q = s.size ∨ clsN ((nat s).getD q 0) = 1 := .inr (by rw [hg0, e10]; decide)
          have d6 : ((s[q].toNat : Int) != 32) = true := by rw [e10]; rfl
          have d7 : ((s[q].toNat : Int) != 10) = false := by rw [e10]; rfl
          clear e32 e10 hg0
          have HLAW := hide (LAW.out q htq hqs hqb)
          go_wp2_with fail
          go_loopw [15, 16, 17] (fun vb ve v wl => ∃ i nb ne : Nat, i ≤ ts0.length ∧ nb ≤ i ∧ ne ≤ i ∧ nb = befG (ks.take i) (f : Nat) ∧ ne = behG (ks.take i) (q : Nat) ∧ vb = .int .i64 nb ∧ ve = .int .i64 ne ∧ v = .int .i64 i ∧ Q w3 wl) (fun _ _ v _ => ts0.length - (intOf v).toNat)
          case atStart => exact ⟨0, 0, 0, by omega, by omega, by omega, by simp [befG], by simp [behG], by go_num, by go_num, by go_num, hq⟩
          case round =>
            obtain ⟨i, nb, ne, hi, hnb, hne, hb0, he0, rfl, rfl, rfl, hql⟩ := hrel
            have HB0 := hide hb0
            have HE0 := hide he0
            clear hb0 he0
            have hii : (i : Int) ≤ (ts0.length : Int) := by omega
            have hti : (ts0.length : Int) ≤ 1000 := by omega
            by_cases hlt2 : i < ts0.length
            · have dl1 : decide (i < ts0.length) = true := by simp; omega
              have dl2 : decide ((i : Int) < (ts0.length : Int)) = true := by simp; omega
              have hlti2 : (i : Int) < (ts0.length : Int) := by omega
              obtain ⟨b1, o1, k1, a1, t1, rfl, hb1, g1, y1, y2, y3⟩ := (G0.out.up hql).at_ i (by omega)
              have hbd := HBD.out _ (List.mem_of_getElem? g1)
              dsimp only at hbd
              obtain ⟨ha1, ha2, ha3⟩ := hbd
              have ha3i : (t1.size : Int) ≤ 6000 := by omega
              have s1 := befG_step ks (f : Nat) i _ g1
              have s2 := behG_step ks (q : Nat) i _ g1
              rw [← HB0.out] at s1
              rw [← HE0.out] at s2
              dsimp only at s1 s2
              have xf : wr.cell? ⟨w.heap.size, 0, none⟩ = some (.int .i64 (f : Nat)) := by rw [hql.facts.1 _ _ hs3]; exact x0
              have hws : w.heap.size < wr.heap.size := by have := hql.size; omega
              clear g1
              obtain ⟨c1, hc1⟩ : ∃ c, decide (a1 + (t1.size : Int) < ((f : Nat) : Int)) = c := ⟨_, rfl⟩
              obtain ⟨c2, hc2⟩ : ∃ c, decide (((q : Nat) : Int) < a1) = c := ⟨_, rfl⟩
              rw [hc1] at s1
              rw [hc2] at s2
              have S1 := hide s1
              have S2 := hide s2
              clear s1 s2
              cases c1
              · cases c2
                · go_wp2_with fail
                  have hxc := ext_cell
                  refine wp_region_ext (by kernel_rfl) (by kernel_rfl) ?_
                  repeat (go_big_quiet_step ((fail)))
                  clear hxc
                  refine wpQuiet_nil ?_
                  intro wz hwwz
                  have hqwz := q_of_ext hwwz
                  clear hwwz
                  obtain ⟨hcwz, hfwz, hzwz⟩ := hqwz.facts
                  try simp at hzwz
                  try have hs0wz : w.heap.size < wz.heap.size := by omega
                  try have hs1wz : w.heap.size + 1 < wz.heap.size := by omega
                  have hqz := hql.trans hqwz
                  have y2z := (hqwz.facts.1 _ _ hb1).trans y2
                  have hb1z := Nat.lt_of_lt_of_le hb1 hqwz.size
                  clear hcwz hfwz y1 y2 y3
                  go_wp2_with fail
                  go_roundw
                  case rel => exact ⟨i + 1, nb, ne, by omega, by omega, by omega, S1.out.symm, S2.out.symm, by go_num, by go_num, by go_num, hqz⟩
                  case measure => simp [intOf] <;> omega
                · go_wp2_with fail
                  have hxc := ext_cell
                  refine wp_region_ext (by kernel_rfl) (by kernel_rfl) ?_
                  repeat (go_big_quiet_step ((fail)))
                  clear hxc
                  refine wpQuiet_nil ?_
                  intro wz hwwz
                  have hqwz := q_of_ext hwwz
                  clear hwwz
                  obtain ⟨hcwz, hfwz, hzwz⟩ := hqwz.facts
                  try simp at hzwz
                  try have hs0wz : w.heap.size < wz.heap.size := by omega
                  try have hs1wz : w.heap.size + 1 < wz.heap.size := by omega
                  have hqz := hql.trans hqwz
                  have y2z := (hqwz.facts.1 _ _ hb1).trans y2
                  have hb1z := Nat.lt_of_lt_of_le hb1 hqwz.size
                  clear hcwz hfwz y1 y2 y3
                  go_wp2_with fail
                  go_roundw
                  case rel => exact ⟨i + 1, nb, ne + 1, by omega, by omega, by omega, S1.out.symm, S2.out.symm, by go_num, by go_num, by go_num, hqz⟩
                  case measure => simp [intOf] <;> omega
              · cases c2
                · go_wp2_with fail
                  have hxc := ext_cell
                  refine wp_region_ext (by kernel_rfl) (by kernel_rfl) ?_
                  repeat (go_big_quiet_step ((fail)))
                  clear hxc
                  refine wpQuiet_nil ?_
                  intro wz hwwz
                  have hqwz := q_of_ext hwwz
                  clear hwwz
                  obtain ⟨hcwz, hfwz, hzwz⟩ := hqwz.facts
                  try simp at hzwz
                  try have hs0wz : w.heap.size < wz.heap.size := by omega
                  try have hs1wz : w.heap.size + 1 < wz.heap.size := by omega
                  have hqz := hql.trans hqwz
                  have y2z := (hqwz.facts.1 _ _ hb1).trans y2
                  have hb1z := Nat.lt_of_lt_of_le hb1 hqwz.size
                  clear hcwz hfwz y1 y2 y3
                  go_wp2_with fail
                  go_roundw
                  case rel => exact ⟨i + 1, nb + 1, ne, by omega, by omega, by omega, S1.out.symm, S2.out.symm, by go_num, by go_num, by go_num, hqz⟩
                  case measure => simp [intOf] <;> omega
                · go_wp2_with fail
                  have hxc := ext_cell
                  refine wp_region_ext (by kernel_rfl) (by kernel_rfl) ?_
                  repeat (go_big_quiet_step ((fail)))
                  clear hxc
                  refine wpQuiet_nil ?_
                  intro wz hwwz
                  have hqwz := q_of_ext hwwz
                  clear hwwz
                  obtain ⟨hcwz, hfwz, hzwz⟩ := hqwz.facts
                  try simp at hzwz
                  try have hs0wz : w.heap.size < wz.heap.size := by omega
                  try have hs1wz : w.heap.size + 1 < wz.heap.size := by omega
                  have hqz := hql.trans hqwz
                  have y2z := (hqwz.facts.1 _ _ hb1).trans y2
                  have hb1z := Nat.lt_of_lt_of_le hb1 hqwz.size
                  clear hcwz hfwz y1 y2 y3
                  go_wp2_with fail
                  go_roundw
                  case rel => exact ⟨i + 1, nb + 1, ne + 1, by omega, by omega, by omega, S1.out.symm, S2.out.symm, by go_num, by go_num, by go_num, hqz⟩
                  case measure => simp [intOf] <;> omega
            · have dl1 : decide (i < ts0.length) = false := by simp; omega
              have dl2 : decide ((i : Int) < (ts0.length : Int)) = false := by simp; omega
              have hnb2 : nb = befG ks (f : Nat) := by rw [HB0.out, List.take_of_length_le (by have := G0.out.len; omega)]
              have hne2 : ne = behG ks (q : Nat) := by rw [HE0.out, List.take_of_length_le (by have := G0.out.len; omega)]
              have hl := HLAW.out
              rw [← hnb2, ← hne2] at hl
              have dg1 : decide ((nb : Int) ≤ (a : Int)) = true := by simp; omega
              have dg2 : decide (nb ≤ a) = true := by simp; omega
              have dg3 : decide ((nb : Int) + (ne : Int) ≤ (a : Int) + (b : Int)) = true := by simp; omega
              have dg4 : decide (nb + ne ≤ a + b) = true := by simp; omega
              clear hl hnb2 hne2
              go_wp2_with fail
              refine (known_any _).mono ?_
              rintro e w8 ⟨rfl, hq8⟩
              go_wp2_with fail
              go_ret
              exact ⟨rfl, ((hq03.trans hql)).trans hq8⟩
        · have d6 : ((s[q].toNat : Int) != 32) = true := by simp; omega
          have d7 : ((s[q].toNat : Int) != 10) = true := by simp; omega
          clear e32 e10 hg0
          go_wp2_with fail
          go_roundw
          case rel => exact ⟨q + 1, by omega, by omega, by go_num, hq⟩
          case measure => simp [intOf] <;> omega
    · have hd0 : decide (q < s.size) = false := by simpa using hlt
      have hd1 : decide ((q : Int) < (s.size : Int)) = false := by simpa using hlt
      have hqb : q = s.size ∨ clsN ((nat s).getD q 0) = 1 := .inl (by omega)
      have HLAW := hide (LAW.out q htq hqs hqb)
      go_wp2_with fail
      go_loopw [15, 16, 17] (fun vb ve v wl => ∃ i nb ne : Nat, i ≤ ts0.length ∧ nb ≤ i ∧ ne ≤ i ∧ nb = befG (ks.take i) (f : Nat) ∧ ne = behG (ks.take i) (q : Nat) ∧ vb = .int .i64 nb ∧ ve = .int .i64 ne ∧ v = .int .i64 i ∧ Q w3 wl) (fun _ _ v _ => ts0.length - (intOf v).toNat)
      case atStart => exact ⟨0, 0, 0, by omega, by omega, by omega, by simp [befG], by simp [behG], by go_num, by go_num, by go_num, hq⟩
      case round =>
        obtain ⟨i, nb, ne, hi, hnb, hne, hb0, he0, rfl, rfl, rfl, hql⟩ := hrel
        have HB0 := hide hb0
        have HE0 := hide he0
        clear hb0 he0
        have hii : (i : Int) ≤ (ts0.length : Int) := by omega
        have hti : (ts0.length : Int) ≤ 1000 := by omega
        by_cases hlt2 : i < ts0.length
        · have dl1 : decide (i < ts0.length) = true := by simp; omega
          have dl2 : decide ((i : Int) < (ts0.length : Int)) = true := by simp; omega
          have hlti2 : (i : Int) < (ts0.length : Int) := by omega
          obtain ⟨b1, o1, k1, a1, t1, rfl, hb1, g1, y1, y2, y3⟩ := (G0.out.up hql).at_ i (by omega)
          have hbd := HBD.out _ (List.mem_of_getElem? g1)
          dsimp only at hbd
          obtain ⟨ha1, ha2, ha3⟩ := hbd
          have ha3i : (t1.size : Int) ≤ 6000 := by omega
          have s1 := befG_step ks (f : Nat) i _ g1
          have s2 := behG_step ks (q : Nat) i _ g1
          rw [← HB0.out] at s1
          rw [← HE0.out] at s2
          dsimp only at s1 s2
          have xf : wr.cell? ⟨w.heap.size, 0, none⟩ = some (.int .i64 (f : Nat)) := by rw [hql.facts.1 _ _ hs3]; exact x0
          have hws : w.heap.size < wr.heap.size := by have := hql.size; omega
          clear g1
          obtain ⟨c1, hc1⟩ : ∃ c, decide (a1 + (t1.size : Int) < ((f : Nat) : Int)) = c := ⟨_, rfl⟩
          obtain ⟨c2, hc2⟩ : ∃ c, decide (((q : Nat) : Int) < a1) = c := ⟨_, rfl⟩
          rw [hc1] at s1
          rw [hc2] at s2
          have S1 := hide s1
          have S2 := hide s2
          clear s1 s2
          cases c1
          · cases c2
            · go_wp2_with fail
              have hxc := ext_cell
              refine wp_region_ext (by kernel_rfl) (by kernel_rfl) ?_
              repeat (go_big_quiet_step ((fail)))
              clear hxc
              refine wpQuiet_nil ?_
              intro wz hwwz
              have hqwz := q_of_ext hwwz
              clear hwwz
              obtain ⟨hcwz, hfwz, hzwz⟩ := hqwz.facts
              try simp at hzwz
              try have hs0wz : w.heap.size < wz.heap.size := by omega
              try have hs1wz : w.heap.size + 1 < wz.heap.size := by omega
              have hqz := hql.trans hqwz
              have y2z := (hqwz.facts.1 _ _ hb1).trans y2
              have hb1z := Nat.lt_of_lt_of_le hb1 hqwz.size
              clear hcwz hfwz y1 y2 y3
              go_wp2_with fail
              go_roundw
              case rel => exact ⟨i + 1, nb, ne, by omega, by omega, by omega, S1.out.symm, S2.out.symm, by go_num, by go_num, by go_num, hqz⟩
              case measure => simp [intOf] <;> omega
            · go_wp2_with fail
              have hxc := ext_cell
              refine wp_region_ext (by kernel_rfl) (by kernel_rfl) ?_
              repeat (go_big_quiet_step ((fail)))
              clear hxc
              refine wpQuiet_nil ?_
              intro wz hwwz
              have hqwz := q_of_ext hwwz
              clear hwwz
              obtain ⟨hcwz, hfwz, hzwz⟩ := hqwz.facts
              try simp at hzwz
              try have hs0wz : w.heap.size < wz.heap.size := by omega
              try have hs1wz : w.heap.size + 1 < wz.heap.size := by omega
              have hqz := hql.trans hqwz
              have y2z := (hqwz.facts.1 _ _ hb1).trans y2
              have hb1z := Nat.lt_of_lt_of_le hb1 hqwz.size
              clear hcwz hfwz y1 y2 y3
              go_wp2_with fail
              go_roundw
              case rel => exact ⟨i + 1, nb, ne + 1, by omega, by omega, by omega, S1.out.symm, S2.out.symm, by go_num, by go_num, by go_num, hqz⟩
              case measure => simp [intOf] <;> omega
          · cases c2
            · go_wp2_with fail
              have hxc := ext_cell
              refine wp_region_ext (by kernel_rfl) (by kernel_rfl) ?_
              repeat (go_big_quiet_step ((fail)))
              clear hxc
              refine wpQuiet_nil ?_
              intro wz hwwz
              have hqwz := q_of_ext hwwz
              clear hwwz
              obtain ⟨hcwz, hfwz, hzwz⟩ := hqwz.facts
              try simp at hzwz
              try have hs0wz : w.heap.size < wz.heap.size := by omega
              try have hs1wz : w.heap.size + 1 < wz.heap.size := by omega
              have hqz := hql.trans hqwz
              have y2z := (hqwz.facts.1 _ _ hb1).trans y2
              have hb1z := Nat.lt_of_lt_of_le hb1 hqwz.size
              clear hcwz hfwz y1 y2 y3
              go_wp2_with fail
              go_roundw
              case rel => exact ⟨i + 1, nb + 1, ne, by omega, by omega, by omega, S1.out.symm, S2.out.symm, by go_num, by go_num, by go_num, hqz⟩
              case measure => simp [intOf] <;> omega
            · go_wp2_with fail
              have hxc := ext_cell
              refine wp_region_ext (by kernel_rfl) (by kernel_rfl) ?_
              repeat (go_big_quiet_step ((fail)))
              clear hxc
              refine wpQuiet_nil ?_
              intro wz hwwz
              have hqwz := q_of_ext hwwz
              clear hwwz
              obtain ⟨hcwz, hfwz, hzwz⟩ := hqwz.facts
              try simp at hzwz
              try have hs0wz : w.heap.size < wz.heap.size := by omega
              try have hs1wz : w.heap.size + 1 < wz.heap.size := by omega
              have hqz := hql.trans hqwz
              have y2z := (hqwz.facts.1 _ _ hb1).trans y2
              have hb1z := Nat.lt_of_lt_of_le hb1 hqwz.size
              clear hcwz hfwz y1 y2 y3
              go_wp2_with fail
              go_roundw
              case rel => exact ⟨i + 1, nb + 1, ne + 1, by omega, by omega, by omega, S1.out.symm, S2.out.symm, by go_num, by go_num, by go_num, hqz⟩
              case measure => simp [intOf] <;> omega
        · have dl1 : decide (i < ts0.length) = false := by simp; omega
          have dl2 : decide ((i : Int) < (ts0.length : Int)) = false := by simp; omega
          have hnb2 : nb = befG ks (f : Nat) := by rw [HB0.out, List.take_of_length_le (by have := G0.out.len; omega)]
          have hne2 : ne = behG ks (q : Nat) := by rw [HE0.out, List.take_of_length_le (by have := G0.out.len; omega)]
          have hl := HLAW.out
          rw [← hnb2, ← hne2] at hl
          have dg1 : decide ((nb : Int) ≤ (a : Int)) = true := by simp; omega
          have dg2 : decide (nb ≤ a) = true := by simp; omega
          have dg3 : decide ((nb : Int) + (ne : Int) ≤ (a : Int) + (b : Int)) = true := by simp; omega
          have dg4 : decide (nb + ne ≤ a + b) = true := by simp; omega
          clear hl hnb2 hne2
          go_wp2_with fail
          refine (known_any _).mono ?_
          rintro e w8 ⟨rfl, hq8⟩
          go_wp2_with fail
          go_ret
          exact ⟨rfl, ((hq03.trans hql)).trans hq8⟩
theorem tailN_le (ks ls : List G) (d : Int) : tailN ks ls d ≤ ks.length := by
  unfold tailN
  refine Nat.le_trans (headN_le _ _).1 ?_
  unfold tK
  simp
  omega
theorem LexKeeps_true (s : ByteArray) (f t : Int) (y : ByteArray) (w : World) : Calls Try.prog 6 #[.string s, edV f t y] w fun e w' => e = .returned (.bool true) ∧ Q w w' := by
  by_cases hl : 6000 < s.size ∨ 6000 < y.size
  · exact LexKeeps_long s f t y w hl
  have hs : s.size ≤ 6000 := by omega
  have hy : y.size ≤ 6000 := by omega
  obtain ⟨⟨ts0, n0, e0⟩, hr⟩ : ∃ r, lexF (nat s) = r := ⟨_, rfl⟩
  by_cases he0 : e0 = 0
  · subst he0
    have err2 : ∀ {a src : ByteArray} {e : Nat} {ts1 : List Tok} {n1 e1 : Nat}, Ed s f t y a e src (ts1, n1, e1) → e1 ≠ 0 → Calls Try.prog 6 #[.string s, edV f t y] w fun e w' => e = .returned (.bool true) ∧ Q w w' :=
      fun hE he => LexKeeps_err s f t y _ w hs hy he (fun w => Kept_err2 s f t y _ _ _ _ _ _ _ _ w hE hr he) (fun w => rKept_err2 s f t y _ _ _ _ _ _ _ _ w hE hr he)
    by_cases hn : eOk f t s.size
    · obtain ⟨k1, k2, k3⟩ := hn
      obtain ⟨f, rfl⟩ := Int.eq_ofNat_of_zero_le k1
      obtain ⟨t, rfl⟩ := Int.eq_ofNat_of_zero_le (show 0 ≤ t by omega)
      have hft : f ≤ t := by omega
      have hts : t ≤ s.size := by omega
      by_cases h4 : (editB s f t y).size ≤ 4000
      · have hE := ed_ok s f t y _ hr rfl hs hy hft hts h4
        obtain ⟨⟨ts1, n1, e1⟩, hr1⟩ : ∃ r, lexF (nat (editB s f t y)) = r := ⟨_, rfl⟩
        rw [hr1] at hE
        by_cases he1 : e1 = 0
        · subst he1
          have hbd : ∀ g ∈ ts0.map (gOf s), 0 ≤ g.2.1 ∧ g.2.1 ≤ 6000 ∧ g.2.2.size ≤ 6000 := fun g hg => by
            obtain ⟨x, hx, rfl⟩ := List.mem_map.1 hg
            have l0 := lexF_ok hr
            have hh := toks_hi ((nat s).length + 1) (nat s) 0
            rw [l0, nat_length] at hh
            have := hh x hx
            simp [gOf]
            omega
          have hlen0 := lexF_len (nat s)
          rw [hr] at hlen0
          have hle := (headN_le (ts0.map (gOf s)) (ts1.map (gOf (editB s f t y)))).1
          have hte := tailN_le (ts0.map (gOf s)) (ts1.map (gOf (editB s f t y))) ((y.size : Int) - ((t : Int) - (f : Int)))
          rw [List.length_map] at hle hte
          dsimp only at hlen0
          have hb1 : ∀ g ∈ ts0.map (gOf s), 0 ≤ g.2.1 ∧ g.2.1 ≤ 6000 := fun g hg => ⟨(hbd g hg).1, (hbd g hg).2.1⟩
          exact LexKeeps_main s f t y ts0 n0 _ _ w hs hy hft hts hr (by omega) (by omega) hbd
            (fun q h1 h2 h3 => keep_law s y f t q ts0 ts1 n0 n1 hr hr1 hft hts h1 h2 h3)
            (fun w => Kept_ok s f t y _ _ _ ts0 n0 ts1 n1 w hE hr ⟨by omega, by omega⟩ ⟨by omega, by omega⟩ hy hb1)
            (fun w => rKept_ok s f t y _ _ _ ts0 n0 ts1 n1 w hE hr ⟨by omega, by omega⟩ ⟨by omega, by omega⟩ hy hb1)
        · exact err2 hE he1
      · exact err2 (ed_large s f t y _ hr rfl hs hy hft hts (by omega)) (by omega)
    · exact err2 (ed_no s f t y _ hr rfl hn) (by omega)
  · exact LexKeeps_err s f t y e0 w hs hy he0 (fun w => Kept_err s f t y _ _ _ w hr he0) (fun w => rKept_err s f t y _ _ _ w hr he0)
end Go.Proofs.Ytofigpjabamnhaa
