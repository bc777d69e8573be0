/- The Sum of two texts from both Sums, in plain Lean; the walk of the law PackJoins. Conditions: the slices read as bytes. -/
import Derived.Test.YtfiopjgpokdnoaaPackJ
namespace Go.Proofs.Ytfiopjgpokdnoaa
open Go.RowKit PP
set_option linter.unusedVariables false
set_option maxRecDepth 100000
theorem sum_from (x y : Nat) (hx : x < 65521) (hy : y < 65521) (t : List Nat) : t.foldl sStep (x, y) =
    (((sumF t).1 + x + 65520) % 65521, ((sumF t).2 + y + t.length * (x + 65520)) % 65521) := by
  have : ∀ (r : List Nat), r.reverse.foldl sStep (x, y) = (((sumF r.reverse).1 + x + 65520) % 65521, ((sumF r.reverse).2 + y + r.reverse.length * (x + 65520)) % 65521) := by
    intro r
    induction r with
    | nil =>
      show (x, y) = _
      rw [show sumF ([] : List Nat).reverse = (1, 0) from rfl]
      simp only [List.reverse_nil, List.length_nil, Nat.zero_mul]
      refine Prod.ext ?_ ?_
      · show x = (1 + x + 65520) % 65521
        omega
      · show y = (0 + y + 0) % 65521
        omega
    | cons c r ih =>
      have hs : sumF (c :: r).reverse = sStep (sumF r.reverse) c := by
        unfold sumF
        rw [List.reverse_cons, List.foldl_append]
        rfl
      rw [hs, List.reverse_cons, List.foldl_append, ih, List.length_append]
      have hm : (r.reverse.length + [c].length) * (x + 65520) = r.reverse.length * (x + 65520) + (x + 65520) := by
        rw [List.length_singleton, Nat.add_mul, Nat.one_mul]
      rw [hm]
      obtain ⟨m, em⟩ : ∃ m, r.reverse.length * (x + 65520) = m := ⟨_, rfl⟩
      rw [em]
      obtain ⟨s1, s2⟩ := sumF r.reverse
      show sStep ((s1 + x + 65520) % 65521, (s2 + y + m) % 65521) c = _
      unfold sStep
      refine Prod.ext ?_ ?_
      · show ((s1 + x + 65520) % 65521 + c) % 65521 = ((s1 + c) % 65521 + x + 65520) % 65521
        omega
      · show ((s2 + y + m) % 65521 + ((s1 + x + 65520) % 65521 + c) % 65521) % 65521 = ((s2 + (s1 + c) % 65521) % 65521 + y + (m + (x + 65520))) % 65521
        omega
  have h := this t.reverse
  rwa [List.reverse_reverse] at h
def sumV (bs : List Nat) : Nat := (sumF bs).2 * 65536 + (sumF bs).1
theorem sumV_parts (bs : List Nat) : sumV bs % 65536 = (sumF bs).1 ∧ sumV bs / 65536 = (sumF bs).2 ∧ sumV bs < 4294967296 ∧ jOk (sumV bs) := by
  obtain ⟨h1, h2⟩ := sumF_bd bs
  have e1 : sumV bs % 65536 = (sumF bs).1 := by unfold sumV; omega
  have e2 : sumV bs / 65536 = (sumF bs).2 := by unfold sumV; omega
  refine ⟨e1, e2, by unfold sumV; omega, ?_⟩
  unfold jOk
  rw [e1, e2]
  exact ⟨h1, h2⟩
theorem join_sums (s t : List Nat) : joinV (sumV s) (sumV t) t.length = sumV (s ++ t) := by
  obtain ⟨a1, a2, -, -⟩ := sumV_parts s
  obtain ⟨b1, b2, -, -⟩ := sumV_parts t
  obtain ⟨h1, h2⟩ := sumF_bd s
  have h := sum_from (sumF s).1 (sumF s).2 h1 h2 t
  have e : sumF (s ++ t) = t.foldl sStep ((sumF s).1, (sumF s).2) := by
    unfold sumF
    rw [List.foldl_append]
  unfold joinV
  rw [a1, a2, b1, b2]
  unfold sumV
  rw [e, h]
  rw [Nat.add_comm (sumF s).2 (sumF t).2, Nat.add_comm (sumF s).1 (sumF t).1]
theorem Sum_v {A : Option Addr} {n c : Nat} {bs : List Nat} {w : World} (h : Bytes w A n c bs) (hn : n ≤ 4096) {x : Nat} (hx : sumV bs = x) : Calls Try.prog 12 #[.slice A n c] w fun e w' => e = .returned (.tuple #[.int .u32 (x : Nat), .int .i64 0]) ∧ w = w' := by
  subst hx
  exact Sum_any A n c bs w h hn
theorem PackJoins_long (a b n : Int) (A : Option Addr) (n1 c1 : Nat) (A' : Option Addr) (n2 c2 : Nat) (w : World) (h : 20000 < n1 ∨ 20000 < n2) :
    Calls Try.prog 7 #[.agg #[.int .u32 a, .int .u32 b, .int .i64 n], .slice A n1 c1, .slice A' n2 c2] w fun e w' => e = .returned (.bool true) ∧ Q w w' := by
  by_cases h1 : 20000 < n1
  · have h1' : 20000 < (n1 : Int) := by omega
    clear h
    go_enter Try.func7, Try.ntmps7
    go_wp2_with fail
    have hxc := ext_cell
    refine wp_region_ext (by kernel_rfl) (by kernel_rfl) ?_
    repeat (go_big_quiet_step ((fail)))
    clear hxc
    refine wpQuiet_nil ?_
    intro wz hwwz
    have hqwz := q_of_ext hwwz
    clear hwwz
    obtain ⟨hcwz, hfwz, hzwz⟩ := hqwz.facts
    try simp at hzwz
    try have hs0wz : w.heap.size < wz.heap.size := by omega
    try have hs1wz : w.heap.size + 1 < wz.heap.size := by omega
    clear hcwz hfwz
    go_wp2_with fail
    refine (known_any _).mono ?_
    rintro e w1 ⟨rfl, hq⟩
    go_wp2_with fail
    go_ret
    exact ⟨rfl, (((Q.refl w).alloc _).trans hqwz).trans hq⟩
  · have h1' : ¬ 20000 < (n1 : Int) := by omega
    have h2' : 20000 < (n2 : Int) := by omega
    clear h
    go_enter Try.func7, Try.ntmps7
    go_wp2_with fail
    have hxc := ext_cell
    refine wp_region_ext (by kernel_rfl) (by kernel_rfl) ?_
    repeat (go_big_quiet_step ((fail)))
    clear hxc
    refine wpQuiet_nil ?_
    intro wz hwwz
    have hqwz := q_of_ext hwwz
    clear hwwz
    obtain ⟨hcwz, hfwz, hzwz⟩ := hqwz.facts
    try simp at hzwz
    try have hs0wz : w.heap.size < wz.heap.size := by omega
    try have hs1wz : w.heap.size + 1 < wz.heap.size := by omega
    clear hcwz hfwz
    go_wp2_with fail
    refine (known_any _).mono ?_
    rintro e w1 ⟨rfl, hq⟩
    go_wp2_with fail
    go_ret
    exact ⟨rfl, (((Q.refl w).alloc _).trans hqwz).trans hq⟩
def Jn (a b n : Int) (X : Nat) (E : Nat) : Prop := ∀ w, (Calls Try.prog 24 #[.int .u32 a, .int .u32 b, .int .i64 n] w fun e w' => e = .returned (.tuple #[.int .u32 (X : Nat), .int .i64 (E : Nat)]) ∧ w = w') ∧
  (Calls Try.prog 25 #[.int .u32 a, .int .u32 b, .int .i64 n] w fun e w' => e = .returned (.tuple #[.int .u32 (X : Nat), .int .i64 (E : Nat)]) ∧ w = w')
theorem join_both (a b n : Int) (ha : 0 ≤ a ∧ a < 4294967296) (hb : 0 ≤ b ∧ b < 4294967296) : ∃ X E, Jn a b n X E := by
  obtain ⟨x, rfl⟩ := Int.eq_ofNat_of_zero_le ha.1
  obtain ⟨y, rfl⟩ := Int.eq_ofNat_of_zero_le hb.1
  by_cases h : jOk x ∧ jOk y ∧ 0 ≤ n ∧ n ≤ 4096
  · obtain ⟨h1, h2, h3, h4⟩ := h
    obtain ⟨m, rfl⟩ := Int.eq_ofNat_of_zero_le h3
    exact ⟨joinV x y m, 0, fun w => ⟨Join_ok x y m w (by omega) (by omega) h1 h2 (by omega), rJoin_ok x y m w (by omega) (by omega) h1 h2 (by omega)⟩⟩
  · exact ⟨0, 1, fun w => ⟨Join_no x y n w (by omega) (by omega) h, rJoin_no x y n w (by omega) (by omega) h⟩⟩
theorem Sum_e (n : Nat) (bs : List Nat) : ∃ x er : Nat, (er = 0 ∧ n ≤ 4096 ∧ x = sumV bs ∨ er = 3 ∧ 4096 < n) ∧ ∀ (A : Option Addr) (c : Nat) (w : World), Bytes w A n c bs → Calls Try.prog 12 #[.slice A n c] w fun e w' => e = .returned (.tuple #[.int .u32 (x : Nat), .int .i64 (er : Nat)]) ∧ w = w' := by
  by_cases h : n ≤ 4096
  · exact ⟨_, 0, .inl ⟨rfl, h, rfl⟩, fun A c w hb => Sum_any A n c bs w hb h⟩
  · exact ⟨0, 3, .inr ⟨rfl, by omega⟩, fun A c w hb => Sum_big A n c w (by omega)⟩
theorem PackJoins_main (a b n : Int) (ha : 0 ≤ a ∧ a < 4294967296) (hb : 0 ≤ b ∧ b < 4294967296) (A : Option Addr) (n1 c1 : Nat) (s : List Nat) (A' : Option Addr) (n2 c2 : Nat) (t : List Nat) (w : World) (h1 : Bytes w A n1 c1 s) (h2 : Bytes w A' n2 c2 t) (hA : A = none → n1 = 0 ∧ c1 = 0) (hA' : A' = none → n2 = 0 ∧ c2 = 0)
    (hn1 : n1 ≤ 20000) (hn2 : n2 ≤ 20000) :
    Calls Try.prog 7 #[.agg #[.int .u32 a, .int .u32 b, .int .i64 n], .slice A n1 c1, .slice A' n2 c2] w fun e w' => e = .returned (.bool true) ∧ Q w w' := by
  obtain ⟨X, E, hj⟩ := join_both a b n ha hb
  have J := hide hj
  obtain ⟨x1, e1, p1, q1⟩ := Sum_e n1 s
  obtain ⟨x2, e2, p2, q2⟩ := Sum_e n2 t
  obtain ⟨x3, e3, p3, q3⟩ := Sum_e (n1 + n2) (s ++ t)
  have P1 := hide p1
  have P2 := hide p2
  have P3 := hide p3
  have Q1 := hide q1
  have Q2 := hide q2
  have Q3 := hide q3
  clear p1 p2 p3 q1 q2 q3
  have H1 := hide h1
  have H2 := hide h2
  have hi1 : ¬ 20000 < (n1 : Int) := by omega
  have hi2 : ¬ 20000 < (n2 : Int) := by omega
  have d1 : decide (20000 < (n1 : Int)) = false := by simp; omega
  have d2 : decide (20000 < (n2 : Int)) = false := by simp; omega
  have HL1 := hide h1.len
  have HL2 := hide h2.len
  have LV1 : Hid ((s.map byteV).length = n1 * 1) := hide (by simpa using h1.len)
  have LV2 : Hid ((t.map byteV).length = n2 * 1) := hide (by simpa using h2.len)
  have HA := hide hA
  have HA' := hide hA'
  clear ha hb hj h1 h2 hA hA'
  go_enter Try.func7, Try.ntmps7
  go_wp2_with fail
  have hxc := ext_cell
  refine wp_region_ext (by kernel_rfl) (by kernel_rfl) ?_
  repeat (go_big_quiet_step ((fail)))
  clear hxc
  refine wpQuiet_nil ?_
  intro wz hwwz
  have hqwz := q_of_ext hwwz
  clear hwwz
  obtain ⟨hcwz, hfwz, hzwz⟩ := hqwz.facts
  try simp at hzwz
  try have hs0wz : w.heap.size < wz.heap.size := by omega
  try have hs1wz : w.heap.size + 1 < wz.heap.size := by omega
  have hq0 := ((Q.refl w).alloc _).trans hqwz
  clear hcwz hfwz
  go_wp2_with fail
  refine ((J.out _).1).mono ?_
  rintro e w1 ⟨rfl, rfl⟩
  go_wp2_with fail
  refine ((J.out _).2).mono ?_
  rintro e w1 ⟨rfl, rfl⟩
  go_wp2_with fail
  refine (Q1.out _ _ _ (H1.out.up hq0)).mono ?_
  rintro e w1 ⟨rfl, rfl⟩
  go_wp2_with fail
  refine (Q2.out _ _ _ (H2.out.up hq0)).mono ?_
  rintro e w1 ⟨rfl, rfl⟩
  have R1 := hide (H1.out.up hq0).rd
  have R2 := hide (H2.out.up hq0).rd
  have hown0 := own_lit0 wz wz.heap.size 5 1 _ rfl (Nat.le_refl _)
  go_wp2_with (first
    | (at_builtin; refine wpList_apps rfl El_byte (.tmp 70) (.tmp 71) rfl rfl hown0 rfl HA.out LV1.out (R1.out.alloc (Nat.le_refl _) _) ?_ ?_ ?_ ?_; (focus (intro u hu; simp only [List.mem_map] at hu; obtain ⟨x, _, rfl⟩ := hu; rfl)); (focus omega); (focus (simp)); intro v1 w1 hown1 hb1; simp only [Nat.zero_add, List.nil_append] at hown1; clear hown0; have hqa := q_below ((Q.refl wz).alloc _) hb1 (Nat.le_refl _); have hsa := hqa.size)
    | (at_builtin; refine wpList_apps rfl El_byte (.tmp 72) (.tmp 73) rfl rfl hown1 rfl HA'.out LV2.out (R2.out.up hqa) ?_ ?_ ?_ ?_; (focus (intro u hu; simp only [List.mem_map] at hu; obtain ⟨x, _, rfl⟩ := hu; rfl)); (focus omega); (focus (omega)); intro v2 w2 hown2 hb2; have hqb := q_below hqa hb2 (Nat.le_refl _); rw [← List.map_append] at hown2; clear hown1))
  obtain ⟨Ar, cr, rfl, hr1, hr2, hr3, hrd⟩ := own_form hown2
  have hbs : Bytes w2 Ar (n1 + n2) cr (s ++ t) := ⟨hrd, by rw [List.length_append, HL1.out, HL2.out], fun b hb => (List.mem_append.1 hb).elim (H1.out.small b) (H2.out.small b), hr1, by simpa [maxLen] using hr2⟩
  refine (Q3.out _ _ _ hbs).mono ?_
  rintro e w3 ⟨rfl, rfl⟩
  have hq2 := hq0.trans hqb
  clear hown2 hr3 hrd hbs hr1 hr2
  rcases P1.out with ⟨rfl, k1, rfl⟩ | ⟨rfl, k1⟩
  · rcases P2.out with ⟨rfl, k2, rfl⟩ | ⟨rfl, k2⟩
    · rcases P3.out with ⟨rfl, k3, rfl⟩ | ⟨rfl, k3⟩
      · have v1 := sumV_parts s
        have v2 := sumV_parts t
        have hjn := Join_ok (sumV s) (sumV t) n2
        have hjs := join_sums s t
        rw [HL2.out] at hjs
        rw [hjs] at hjn
        have V1 := hide v1
        have V2 := hide v2
        have JN := hide hjn
        clear v1 v2 hjn hjs
        go_wp2_with fail
        refine (JN.out _ V1.out.2.2.1 V2.out.2.2.1 V1.out.2.2.2 V2.out.2.2.2 k2).mono ?_
        rintro e w3 ⟨rfl, rfl⟩
        go_wp2_with fail
        refine (known_any _).mono ?_
        rintro e w5 ⟨rfl, hq5⟩
        go_wp2_with fail
        go_ret
        exact ⟨rfl, hq2.trans hq5⟩
      · go_wp2_with fail
        refine (known_any _).mono ?_
        rintro e w5 ⟨rfl, hq5⟩
        go_wp2_with fail
        go_ret
        exact ⟨rfl, hq2.trans hq5⟩
    · go_wp2_with fail
      refine (known_any _).mono ?_
      rintro e w5 ⟨rfl, hq5⟩
      go_wp2_with fail
      go_ret
      exact ⟨rfl, hq2.trans hq5⟩
  · go_wp2_with fail
    refine (known_any _).mono ?_
    rintro e w5 ⟨rfl, hq5⟩
    go_wp2_with fail
    go_ret
    exact ⟨rfl, hq2.trans hq5⟩
theorem PackJoins_true (a b n : Int) (ha : 0 ≤ a ∧ a < 4294967296) (hb : 0 ≤ b ∧ b < 4294967296) (A : Option Addr) (n1 c1 : Nat) (s : List Nat) (A' : Option Addr) (n2 c2 : Nat) (t : List Nat) (w : World) (h1 : Bytes w A n1 c1 s) (h2 : Bytes w A' n2 c2 t) (hA : A = none → n1 = 0 ∧ c1 = 0) (hA' : A' = none → n2 = 0 ∧ c2 = 0) :
    Calls Try.prog 7 #[.agg #[.int .u32 a, .int .u32 b, .int .i64 n], .slice A n1 c1, .slice A' n2 c2] w fun e w' => e = .returned (.bool true) ∧ Q w w' := by
  by_cases h : 20000 < n1 ∨ 20000 < n2
  · exact PackJoins_long a b n A n1 c1 A' n2 c2 w h
  · exact PackJoins_main a b n ha hb A n1 c1 s A' n2 c2 t w h1 h2 hA hA' (by omega) (by omega)
end Go.Proofs.Ytfiopjgpokdnoaa
