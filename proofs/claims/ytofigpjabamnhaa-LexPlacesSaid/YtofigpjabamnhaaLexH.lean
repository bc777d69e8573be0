/- How many tokens two lists share at the head and at the tail; the walks of Kept, of the program and of the reference. Conditions: sizes as the law says. -/
import Derived.Test.YtofigpjabamnhaaLexG
namespace Go.Proofs.Ytofigpjabamnhaa
open Go.RowKit LX
set_option linter.unusedVariables false
def eqG (a b : G) : Bool := a.1 == b.1 && (a.2.1 == b.2.1 && a.2.2.toList == b.2.2.toList)
def shG (d : Int) (g : G) : G := (g.1, g.2.1 + d, g.2.2)
/-- how many elements two lists share from the head on -/
def headN : List G → List G → Nat
  | a :: xs, b :: ys => if eqG a b = true then headN xs ys + 1 else 0
  | _, _ => 0
theorem headN_le : ∀ (ks ls : List G), headN ks ls ≤ ks.length ∧ headN ks ls ≤ ls.length
  | [], _ => by simp [headN]
  | _ :: _, [] => by simp [headN]
  | a :: xs, b :: ys => by
    have := headN_le xs ys
    unfold headN
    split <;> simp <;> omega
theorem headN_at : ∀ (ks ls : List G) (i : Nat), (∀ j a b, j < i → ks[j]? = some a → ls[j]? = some b → eqG a b = true) → i ≤ ks.length → i ≤ ls.length →
    (i = ks.length ∨ i = ls.length ∨ ∃ a b, ks[i]? = some a ∧ ls[i]? = some b ∧ eqG a b = false) → headN ks ls = i
  | [], ls, i, _, h1, _, _ => by simp at h1; subst h1; rfl
  | k :: ks, [], i, _, _, h2, _ => by simp at h2; subst h2; rfl
  | k :: ks, l :: ls, i, ha, h1, h2, h3 => by
    rcases i with _ | i
    · rcases h3 with h | h | ⟨a, b, ha', hb', he⟩
      · simp at h
      · simp at h
      · simp at ha' hb'
        subst ha' hb'
        unfold headN
        rw [if_neg (by rw [he]; simp)]
    · have he := ha 0 k l (by omega) rfl rfl
      unfold headN
      rw [if_pos he, headN_at ks ls i (fun j a b hj h h' => ha (j + 1) a b (by omega) (by simpa using h) (by simpa using h')) (by simpa using h1) (by simpa using h2) (by
        rcases h3 with h | h | ⟨a, b, ha', hb', he'⟩
        · exact .inl (by simpa using h)
        · exact .inr (.inl (by simpa using h))
        · exact .inr (.inr ⟨a, b, by simpa using ha', by simpa using hb', he'⟩))]
/-- the lists from the tail on, as far as the heads leave them -/
def tK (ks : List G) (d : Int) (m : Nat) : List G := ((ks.reverse).map (shG d)).take m
def tL (ls : List G) (m : Nat) : List G := ls.reverse.take m
def tailN (ks ls : List G) (d : Int) : Nat := headN (tK ks d (min ks.length ls.length - headN ks ls)) (tL ls (min ks.length ls.length - headN ks ls))
theorem tK_get (ks : List G) (d : Int) (m j : Nat) (g : G) (hj : j < m) (hk : j < ks.length) (h : ks[ks.length - 1 - j]? = some g) : (tK ks d m)[j]? = some (shG d g) := by
  unfold tK
  rw [List.getElem?_take, if_pos hj, List.getElem?_map, List.getElem?_reverse hk, h]
  rfl
theorem tL_get (ls : List G) (m j : Nat) (g : G) (hj : j < m) (hk : j < ls.length) (h : ls[ls.length - 1 - j]? = some g) : (tL ls m)[j]? = some g := by
  unfold tL
  rw [List.getElem?_take, if_pos hj, List.getElem?_reverse hk, h]
theorem tK_length (ks : List G) (d : Int) (m : Nat) (h : m ≤ ks.length) : (tK ks d m).length = m := by unfold tK; simp; omega
theorem tL_length (ls : List G) (m : Nat) (h : m ≤ ls.length) : (tL ls m).length = m := by unfold tL; simp; omega
theorem eql_tok (g h : G) (w : World) : (binOp .eql 38 (gV g) (gV h)).run Try.prog w = .ok (.bool (eqG g h)) w := by
  obtain ⟨k1, a1, t1⟩ := g
  obtain ⟨k2, a2, t2⟩ := h
  unfold eqG
  dsimp only
  cases hk : k1 == k2 <;> cases ha : a1 == a2 <;> cases ht : t1.toList == t2.toList <;> simp [go_sem, hk, ha, ht, Try.underlying38, Try.underlying3, Try.underlying9]
theorem neq_tok (g h : G) (w : World) : (binOp .neq 38 (gV g) (gV h)).run Try.prog w = .ok (.bool (!eqG g h)) w := by
  obtain ⟨k1, a1, t1⟩ := g
  obtain ⟨k2, a2, t2⟩ := h
  unfold eqG
  dsimp only
  cases hk : k1 == k2 <;> cases ha : a1 == a2 <;> cases ht : t1.toList == t2.toList <;> simp [go_sem, hk, ha, ht, Try.underlying38, Try.underlying3, Try.underlying9]
set_option maxHeartbeats 4000000 in
set_option maxRecDepth 100000 in
theorem Kept_ok (s : ByteArray) (f t : Int) (y a src : ByteArray) (e : Nat) (ts0 : List Tok) (n0 : Nat) (ts1 : List Tok) (n1 : Nat) (w : World) (hE : Ed s f t y a e src (ts1, n1, 0)) (h0 : lexF (nat s) = (ts0, n0, 0)) (hf : 0 ≤ f ∧ f ≤ 6000) (ht : 0 ≤ t ∧ t ≤ 6000) (hy : y.size ≤ 6000)
    (hb : ∀ g ∈ ts0.map (gOf s), 0 ≤ g.2.1 ∧ g.2.1 ≤ 6000) :
    Calls Try.prog 19 #[.string s, edV f t y] w fun en w' => en = .returned (.tuple #[.int .i64 (headN (ts0.map (gOf s)) (ts1.map (gOf src)) : Nat), .int .i64 (tailN (ts0.map (gOf s)) (ts1.map (gOf src)) ((y.size : Int) - (t - f)) : Nat), .int .i64 0]) ∧ Q w w' := by
  obtain ⟨hf0, hf1⟩ := hf
  obtain ⟨ht0, ht1⟩ := ht
  have hyi : (y.size : Int) ≤ 6000 := by omega
  have hlen1 := hE.len
  have hlen0 := lexF_len (nat s)
  rw [h0] at hlen0
  dsimp only at hlen0 hlen1
  have l0 := Lex_any s
  rw [h0] at l0
  have L0 := hide l0
  have E := hide hE
  have HBD := hide hb
  have HHL := hide (headN_le (ts0.map (gOf s)) (ts1.map (gOf src)))
  clear l0 hE hb h0
  obtain ⟨ks, hks⟩ : ∃ ks, ts0.map (gOf s) = ks := ⟨_, rfl⟩
  obtain ⟨ls, hls⟩ : ∃ ls, ts1.map (gOf src) = ls := ⟨_, rfl⟩
  have hkl : ks.length = ts0.length := by rw [← hks]; simp
  have hll : ls.length = ts1.length := by rw [← hls]; simp
  rw [hks, hls] at HHL
  rw [hks] at HBD
  rw [hks, hls]
  have HKS := hide hks
  have HLS := hide hls
  have HKL := hide hkl
  have HLL := hide hll
  obtain ⟨d, hd⟩ : ∃ d, (y.size : Int) - (t - f) = d := ⟨_, rfl⟩
  have hd1 : -12000 ≤ d := by omega
  have hd2 : d ≤ 12000 := by omega
  rw [hd]
  clear hks hls hkl hll
  go_enter Try.func19, Try.ntmps19
  go_wp2_with fail
  refine (L0.out _).mono ?_
  rintro en w1 ⟨v1, rfl, hown1, hq1⟩
  dsimp only at hown1
  have hq01 := ((Q.refl w).alloc _).trans hq1
  have hc1 := hq1.facts.1
  have hs1 : w.heap.size < w1.heap.size := by have := hq1.size; simp at this; omega
  have hsa1 : w.heap.size < (w.alloc (.cells #[.int .i64 f, .int .i64 t, .string y] 30)).heap.size := by simp
  obtain ⟨A1, c1, rfl, g1⟩ := gtoks_own hown1 hlen0
  rw [HKS.out] at g1
  have G1 := hide g1
  clear hown1 g1
  go_wp2_with fail
  refine (E.out.rel _).mono ?_
  rintro en w2 ⟨v2, rfl, hown2, hq2⟩
  dsimp only at hown2
  have hc2 := hq2.facts.1
  have hs2 : w.heap.size < w2.heap.size := by have := hq2.size; omega
  obtain ⟨A2, c2, rfl, g2⟩ := gtoks_own hown2 hlen1
  rw [HLS.out] at g2
  have G2 := hide g2
  have G1' := hide (G1.out.up hq2)
  have hq02 := hq01.trans hq2
  have x0 : w2.cell? ⟨w.heap.size, 0, none⟩ = some (.int .i64 f) := by rw [hc2 _ _ hs1, hc1 _ _ hsa1]; simp
  have x1 : w2.cell? ⟨w.heap.size, 1, none⟩ = some (.int .i64 t) := by rw [hc2 _ _ hs1, hc1 _ _ hsa1]; simp
  have x2 : w2.cell? ⟨w.heap.size, 2, none⟩ = some (.string y) := by rw [hc2 _ _ hs1, hc1 _ _ hsa1]; simp
  clear hown2 g2 hc1 hc2 G1
  go_wp2_with fail
  · have hM0 : ts1.length ≤ ts0.length := by omega
    have hM1 : ts1.length ≤ ts1.length := by omega
    have hMm : min ks.length ls.length = ts1.length := by rw [HKL.out, HLL.out]; omega
    have HMIN := hide hMm
    have hMi : (ts1.length : Int) ≤ 1000 := by omega
    have hM0i : (ts0.length : Int) ≤ 1000 := by omega
    have hM1i : (ts1.length : Int) ≤ 1000 := by omega
    clear hMm
    go_loopw [14] (fun v wr => ∃ i : Nat, i ≤ ts1.length ∧ v = .int .i64 i ∧ (∀ j a b, j < i → ks[j]? = some a → ls[j]? = some b → eqG a b = true) ∧ Q w2 wr) (fun v _ => ts1.length - (intOf v).toNat)
    case atStart => exact ⟨0, by omega, by go_num, fun j a b hj => by omega, Q.refl _⟩
    case round =>
      obtain ⟨i, hi, rfl, hall, hq⟩ := hrel
      have HALL := hide hall
      clear hall
      have hii : (i : Int) ≤ (ts1.length : Int) := by omega
      by_cases hlt : i < ts1.length
      · have hd1 : decide (i < ts1.length) = true := by simp; omega
        have hd2 : decide ((i : Int) < (ts1.length : Int)) = true := by simp; omega
        have hlti1 : (i : Int) < (ts0.length : Int) := by omega
        have hlti2 : (i : Int) < (ts1.length : Int) := by omega
        obtain ⟨b1, o1, k1, a1, t1, rfl, hb1, g1, y1, y2, y3⟩ := (G1'.out.up hq).at_ i (by omega)
        obtain ⟨b2, o2, k2, a2, t2, rfl, hb2, g2, z1, z2, z3⟩ := (G2.out.up hq).at_ i (by omega)
        cases heq : eqG (k1, a1, t1) (k2, a2, t2)
        · have hee : ∀ W, (binOp .eql 38 (.agg #[.int .i64 k1, .int .i64 a1, .string t1]) (.agg #[.int .i64 k2, .int .i64 a2, .string t2])).run Try.prog W = .ok (.bool false) W := fun W => by
            have := eql_tok (k1, a1, t1) (k2, a2, t2) W
            rw [heq] at this
            exact this
          have hh := headN_at ks ls i HALL.out (by rw [HKL.out]; omega) (by rw [HLL.out]; omega) (.inr (.inr ⟨_, _, g1, g2, heq⟩))
          have HH := hide hh
          clear g1 g2 heq hh
          go_wp2_with fail
          have hxc := ext_cell
          refine wp_region_ext (by kernel_rfl) (by kernel_rfl) ?_
          repeat (go_big_quiet_step ((fail)))
          clear hxc
          refine wpQuiet_nil ?_
          intro wz hwwz
          have hqwz := q_of_ext hwwz
          clear hwwz
          obtain ⟨hcwz, hfwz, hzwz⟩ := hqwz.facts
          try simp at hzwz
          try have hs0wz : w.heap.size < wz.heap.size := by omega
          try have hs1wz : w.heap.size + 1 < wz.heap.size := by omega
          have hqz := hq.trans hqwz
          clear hcwz hfwz y1 y2 y3 z1 z2 z3 hee
          go_wp2_with fail
          go_loopw [15] (fun v wl => ∃ q : Nat, q + i ≤ ts1.length ∧ v = .int .i64 q ∧ (∀ j g h, j < q → (tK ks d (ts1.length - i))[j]? = some g → (tL ls (ts1.length - i))[j]? = some h → eqG g h = true) ∧ Q w2 wl) (fun v _ => ts1.length - (intOf v).toNat)
          case atStart => exact ⟨0, by omega, by go_num, fun j g h hj => by omega, hqz⟩
          case round =>
            obtain ⟨q, hqm, rfl, hallq, hql⟩ := hrel
            have HALLQ := hide hallq
            clear hallq
            have hqi : (q : Int) + (i : Int) ≤ (ts1.length : Int) := by omega
            have hszl := hql.size
            by_cases hqlt : q + i < ts1.length
            · have dq : decide ((q : Int) < (ts1.length : Int) - (i : Int)) = true := by simp; omega
              have dq1 : decide ((i : Int) + (q : Int) < (ts0.length : Int)) = true := by simp; omega
              have dq2 : decide ((i : Int) + (q : Int) < (ts1.length : Int)) = true := by simp; omega
              have dq3 : decide (i + q < ts0.length) = true := by simp; omega
              have dq4 : decide (i + q < ts1.length) = true := by simp; omega
              obtain ⟨k, hk⟩ : ∃ k, ts0.length - 1 - q = k := ⟨_, rfl⟩
              obtain ⟨k', hk'⟩ : ∃ k, ts1.length - 1 - q = k := ⟨_, rfl⟩
              have hki : (ts0.length : Int) - 1 - (q : Int) = (k : Int) := by omega
              have hki' : (ts1.length : Int) - 1 - (q : Int) = (k' : Int) := by omega
              have ix1 : (k : Int) < (ts0.length : Int) := by omega
              have ix2 : (k' : Int) < (ts1.length : Int) := by omega
              obtain ⟨b1, o1, k1, a1, t1, eA1, hb1, g1, y1, y2, y3⟩ := (G1'.out.up hql).at_ k (by omega)
              cases eA1
              obtain ⟨b2, o2, k2, a2, t2, eA2, hb2, g2, z1, z2, z3⟩ := (G2.out.up hql).at_ k' (by omega)
              cases eA2
              have hbd := HBD.out _ (List.mem_of_getElem? g1)
              dsimp only at hbd
              obtain ⟨ha1, ha2⟩ := hbd
              have T1 := hide (tK_get ks d (ts1.length - i) q (k1, a1, t1) (by omega) (by rw [HKL.out]; omega) (by rw [HKL.out, hk]; exact g1))
              have T2 := hide (tL_get ls (ts1.length - i) q (k2, a2, t2) (by omega) (by rw [HLL.out]; omega) (by rw [HLL.out, hk']; exact g2))
              clear g1 g2
              cases heq : eqG (k1, a1 + d, t1) (k2, a2, t2)
              · have hne : ∀ W, (binOp .neq 38 (.agg #[.int .i64 k1, .int .i64 (a1 + d), .string t1]) (.agg #[.int .i64 k2, .int .i64 a2, .string t2])).run Try.prog W = .ok (.bool true) W := fun W => by
                  have := neq_tok (k1, a1 + d, t1) (k2, a2, t2) W
                  rw [heq] at this
                  exact this
                have htl : tailN ks ls d = q := by
                  unfold tailN
                  rw [HMIN.out, HH.out]
                  exact headN_at _ _ q HALLQ.out (by rw [tK_length _ _ _ (by rw [HKL.out]; omega)]; omega) (by rw [tL_length _ _ (by rw [HLL.out]; omega)]; omega) (.inr (.inr ⟨_, _, T1.out, T2.out, heq⟩))
                have HTL := hide htl
                clear heq htl
                go_wp2_with fail
                obtain ⟨W5, hW5⟩ : ∃ W5, wr.alloc (.cells #[.int .i64 k1, .int .i64 (a1 + d), .string t1] 38) = W5 := ⟨_, rfl⟩
                have hq5 : Q wr W5 := by rw [← hW5]; exact (Q.refl wr).alloc _
                have n1' : W5.cell? ⟨wr.heap.size, 0, none⟩ = some (.int .i64 k1) := by rw [← hW5]; simp
                have n2' : W5.cell? ⟨wr.heap.size, 1, none⟩ = some (.int .i64 (a1 + d)) := by rw [← hW5]; simp
                have n3' : W5.cell? ⟨wr.heap.size, 2, none⟩ = some (.string t1) := by rw [← hW5]; simp
                have hn5 : wr.heap.size < W5.heap.size := by rw [← hW5]; simp
                have z1' := (hq5.facts.1 _ _ hb2).trans z1
                have z2' := (hq5.facts.1 _ _ hb2).trans z2
                have z3' := (hq5.facts.1 _ _ hb2).trans z3
                have hb5 := Nat.lt_of_lt_of_le hb2 hq5.size
                rw [hW5]
                clear hW5 z1 z2 z3 y1 y2 y3
                have hxc := ext_cell
                refine wp_region_ext (by kernel_rfl) (by kernel_rfl) ?_
                repeat (go_big_quiet_step ((fail)))
                clear hxc
                refine wpQuiet_nil ?_
                intro wy hwwy
                have hqwy := q_of_ext hwwy
                clear hwwy
                obtain ⟨hcwy, hfwy, hzwy⟩ := hqwy.facts
                try simp at hzwy
                try have hs0wy : w.heap.size < wy.heap.size := by omega
                try have hs1wy : w.heap.size + 1 < wy.heap.size := by omega
                have hqy := (hql.trans hq5).trans hqwy
                clear hcwy hfwy n1' n2' n3' z1' z2' z3'
                go_wp2_with fail
                go_ret3
                exact ⟨by rw [HH.out, HTL.out]; rfl, hq02.trans hqy⟩
              · have hne : ∀ W, (binOp .neq 38 (.agg #[.int .i64 k1, .int .i64 (a1 + d), .string t1]) (.agg #[.int .i64 k2, .int .i64 a2, .string t2])).run Try.prog W = .ok (.bool false) W := fun W => by
                  have := neq_tok (k1, a1 + d, t1) (k2, a2, t2) W
                  rw [heq] at this
                  exact this
                have HEQ := hide heq
                clear heq
                go_wp2_with fail
                obtain ⟨W5, hW5⟩ : ∃ W5, wr.alloc (.cells #[.int .i64 k1, .int .i64 (a1 + d), .string t1] 38) = W5 := ⟨_, rfl⟩
                have hq5 : Q wr W5 := by rw [← hW5]; exact (Q.refl wr).alloc _
                have n1' : W5.cell? ⟨wr.heap.size, 0, none⟩ = some (.int .i64 k1) := by rw [← hW5]; simp
                have n2' : W5.cell? ⟨wr.heap.size, 1, none⟩ = some (.int .i64 (a1 + d)) := by rw [← hW5]; simp
                have n3' : W5.cell? ⟨wr.heap.size, 2, none⟩ = some (.string t1) := by rw [← hW5]; simp
                have hn5 : wr.heap.size < W5.heap.size := by rw [← hW5]; simp
                have z1' := (hq5.facts.1 _ _ hb2).trans z1
                have z2' := (hq5.facts.1 _ _ hb2).trans z2
                have z3' := (hq5.facts.1 _ _ hb2).trans z3
                have hb5 := Nat.lt_of_lt_of_le hb2 hq5.size
                rw [hW5]
                clear hW5 z1 z2 z3 y1 y2 y3
                have hxc := ext_cell
                refine wp_region_ext (by kernel_rfl) (by kernel_rfl) ?_
                repeat (go_big_quiet_step ((fail)))
                clear hxc
                refine wpQuiet_nil ?_
                intro wy hwwy
                have hqwy := q_of_ext hwwy
                clear hwwy
                obtain ⟨hcwy, hfwy, hzwy⟩ := hqwy.facts
                try simp at hzwy
                try have hs0wy : w.heap.size < wy.heap.size := by omega
                try have hs1wy : w.heap.size + 1 < wy.heap.size := by omega
                have hqy := (hql.trans hq5).trans hqwy
                clear hcwy hfwy n1' n2' n3' z1' z2' z3'
                go_wp2_with fail
                go_roundw
                case rel => exact ⟨q + 1, by omega, by go_num, fun j g h hj hg hh => by
                  by_cases ej : j = q
                  · subst ej
                    rw [T1.out] at hg
                    rw [T2.out] at hh
                    cases hg
                    cases hh
                    exact HEQ.out
                  · exact HALLQ.out j g h (by omega) hg hh, hqy⟩
                case measure => simp [intOf] <;> omega
            · have dq : decide ((q : Int) < (ts1.length : Int) - (i : Int)) = false := by simp; omega
              have htl : tailN ks ls d = q := by
                unfold tailN
                rw [HMIN.out, HH.out]
                exact headN_at _ _ q HALLQ.out (by rw [tK_length _ _ _ (by rw [HKL.out]; omega)]; omega) (by rw [tL_length _ _ (by rw [HLL.out]; omega)]; omega) (.inl (by rw [tK_length _ _ _ (by rw [HKL.out]; omega)]; omega))
              have HTL := hide htl
              clear htl
              go_wp2_with fail
              go_ret3
              exact ⟨by rw [HH.out, HTL.out]; rfl, hq02.trans hql⟩

        · have hee : ∀ W, (binOp .eql 38 (.agg #[.int .i64 k1, .int .i64 a1, .string t1]) (.agg #[.int .i64 k2, .int .i64 a2, .string t2])).run Try.prog W = .ok (.bool true) W := fun W => by
            have := eql_tok (k1, a1, t1) (k2, a2, t2) W
            rw [heq] at this
            exact this
          have GE := hide g1
          have GF := hide g2
          have HEQ := hide heq
          clear g1 g2 heq
          go_wp2_with fail
          have hxc := ext_cell
          refine wp_region_ext (by kernel_rfl) (by kernel_rfl) ?_
          repeat (go_big_quiet_step ((fail)))
          clear hxc
          refine wpQuiet_nil ?_
          intro wz hwwz
          have hqwz := q_of_ext hwwz
          clear hwwz
          obtain ⟨hcwz, hfwz, hzwz⟩ := hqwz.facts
          try simp at hzwz
          try have hs0wz : w.heap.size < wz.heap.size := by omega
          try have hs1wz : w.heap.size + 1 < wz.heap.size := by omega
          have hqz := hq.trans hqwz
          clear hcwz hfwz y1 y2 y3 z1 z2 z3
          go_wp2_with fail
          go_roundw
          case rel => exact ⟨i + 1, by omega, by go_num, fun j a b hj ha hb => by
            by_cases ej : j = i
            · subst ej
              rw [GE.out] at ha
              rw [GF.out] at hb
              cases ha
              cases hb
              exact HEQ.out
            · exact HALL.out j a b (by omega) ha hb, hqz⟩
          case measure => simp [intOf] <;> omega
      · have hd1 : decide (i < ts1.length) = false := by simp; omega
        have hd2 : decide ((i : Int) < (ts1.length : Int)) = false := by simp; omega
        have hh := headN_at ks ls i HALL.out (by rw [HKL.out]; omega) (by rw [HLL.out]; omega) (by rw [HKL.out, HLL.out]; omega)
        have HH := hide hh
        clear hh
        go_wp2_with fail
        have hxc := ext_cell
        refine wp_region_ext (by kernel_rfl) (by kernel_rfl) ?_
        repeat (go_big_quiet_step ((fail)))
        clear hxc
        refine wpQuiet_nil ?_
        intro wz hwwz
        have hqwz := q_of_ext hwwz
        clear hwwz
        obtain ⟨hcwz, hfwz, hzwz⟩ := hqwz.facts
        try simp at hzwz
        try have hs0wz : w.heap.size < wz.heap.size := by omega
        try have hs1wz : w.heap.size + 1 < wz.heap.size := by omega
        have hqz := hq.trans hqwz
        clear hcwz hfwz
        go_wp2_with fail
        go_loopw [15] (fun v wl => ∃ q : Nat, q + i ≤ ts1.length ∧ v = .int .i64 q ∧ (∀ j g h, j < q → (tK ks d (ts1.length - i))[j]? = some g → (tL ls (ts1.length - i))[j]? = some h → eqG g h = true) ∧ Q w2 wl) (fun v _ => ts1.length - (intOf v).toNat)
        case atStart => exact ⟨0, by omega, by go_num, fun j g h hj => by omega, hqz⟩
        case round =>
          obtain ⟨q, hqm, rfl, hallq, hql⟩ := hrel
          have HALLQ := hide hallq
          clear hallq
          have hqi : (q : Int) + (i : Int) ≤ (ts1.length : Int) := by omega
          have hszl := hql.size
          by_cases hqlt : q + i < ts1.length
          · omega
          · have dq : decide ((q : Int) < (ts1.length : Int) - (i : Int)) = false := by simp; omega
            have htl : tailN ks ls d = q := by
              unfold tailN
              rw [HMIN.out, HH.out]
              exact headN_at _ _ q HALLQ.out (by rw [tK_length _ _ _ (by rw [HKL.out]; omega)]; omega) (by rw [tL_length _ _ (by rw [HLL.out]; omega)]; omega) (.inl (by rw [tK_length _ _ _ (by rw [HKL.out]; omega)]; omega))
            have HTL := hide htl
            clear htl
            go_wp2_with fail
            go_ret3
            exact ⟨by rw [HH.out, HTL.out]; rfl, hq02.trans hql⟩

  · have hM0 : ts0.length ≤ ts0.length := by omega
    have hM1 : ts0.length ≤ ts1.length := by omega
    have hMm : min ks.length ls.length = ts0.length := by rw [HKL.out, HLL.out]; omega
    have HMIN := hide hMm
    have hMi : (ts0.length : Int) ≤ 1000 := by omega
    have hM0i : (ts0.length : Int) ≤ 1000 := by omega
    have hM1i : (ts1.length : Int) ≤ 1000 := by omega
    clear hMm
    go_loopw [14] (fun v wr => ∃ i : Nat, i ≤ ts0.length ∧ v = .int .i64 i ∧ (∀ j a b, j < i → ks[j]? = some a → ls[j]? = some b → eqG a b = true) ∧ Q w2 wr) (fun v _ => ts0.length - (intOf v).toNat)
    case atStart => exact ⟨0, by omega, by go_num, fun j a b hj => by omega, Q.refl _⟩
    case round =>
      obtain ⟨i, hi, rfl, hall, hq⟩ := hrel
      have HALL := hide hall
      clear hall
      have hii : (i : Int) ≤ (ts0.length : Int) := by omega
      by_cases hlt : i < ts0.length
      · have hd1 : decide (i < ts0.length) = true := by simp; omega
        have hd2 : decide ((i : Int) < (ts0.length : Int)) = true := by simp; omega
        have hlti1 : (i : Int) < (ts0.length : Int) := by omega
        have hlti2 : (i : Int) < (ts1.length : Int) := by omega
        obtain ⟨b1, o1, k1, a1, t1, rfl, hb1, g1, y1, y2, y3⟩ := (G1'.out.up hq).at_ i (by omega)
        obtain ⟨b2, o2, k2, a2, t2, rfl, hb2, g2, z1, z2, z3⟩ := (G2.out.up hq).at_ i (by omega)
        cases heq : eqG (k1, a1, t1) (k2, a2, t2)
        · have hee : ∀ W, (binOp .eql 38 (.agg #[.int .i64 k1, .int .i64 a1, .string t1]) (.agg #[.int .i64 k2, .int .i64 a2, .string t2])).run Try.prog W = .ok (.bool false) W := fun W => by
            have := eql_tok (k1, a1, t1) (k2, a2, t2) W
            rw [heq] at this
            exact this
          have hh := headN_at ks ls i HALL.out (by rw [HKL.out]; omega) (by rw [HLL.out]; omega) (.inr (.inr ⟨_, _, g1, g2, heq⟩))
          have HH := hide hh
          clear g1 g2 heq hh
          go_wp2_with fail
          have hxc := ext_cell
          refine wp_region_ext (by kernel_rfl) (by kernel_rfl) ?_
          repeat (go_big_quiet_step ((fail)))
          clear hxc
          refine wpQuiet_nil ?_
          intro wz hwwz
          have hqwz := q_of_ext hwwz
          clear hwwz
          obtain ⟨hcwz, hfwz, hzwz⟩ := hqwz.facts
          try simp at hzwz
          try have hs0wz : w.heap.size < wz.heap.size := by omega
          try have hs1wz : w.heap.size + 1 < wz.heap.size := by omega
          have hqz := hq.trans hqwz
          clear hcwz hfwz y1 y2 y3 z1 z2 z3 hee
          go_wp2_with fail
          go_loopw [15] (fun v wl => ∃ q : Nat, q + i ≤ ts0.length ∧ v = .int .i64 q ∧ (∀ j g h, j < q → (tK ks d (ts0.length - i))[j]? = some g → (tL ls (ts0.length - i))[j]? = some h → eqG g h = true) ∧ Q w2 wl) (fun v _ => ts0.length - (intOf v).toNat)
          case atStart => exact ⟨0, by omega, by go_num, fun j g h hj => by omega, hqz⟩
          case round =>
            obtain ⟨q, hqm, rfl, hallq, hql⟩ := hrel
            have HALLQ := hide hallq
            clear hallq
            have hqi : (q : Int) + (i : Int) ≤ (ts0.length : Int) := by omega
            have hszl := hql.size
            by_cases hqlt : q + i < ts0.length
            · have dq : decide ((q : Int) < (ts0.length : Int) - (i : Int)) = true := by simp; omega
              have dq1 : decide ((i : Int) + (q : Int) < (ts0.length : Int)) = true := by simp; omega
              have dq2 : decide ((i : Int) + (q : Int) < (ts1.length : Int)) = true := by simp; omega
              have dq3 : decide (i + q < ts0.length) = true := by simp; omega
              have dq4 : decide (i + q < ts1.length) = true := by simp; omega
              obtain ⟨k, hk⟩ : ∃ k, ts0.length - 1 - q = k := ⟨_, rfl⟩
              obtain ⟨k', hk'⟩ : ∃ k, ts1.length - 1 - q = k := ⟨_, rfl⟩
              have hki : (ts0.length : Int) - 1 - (q : Int) = (k : Int) := by omega
              have hki' : (ts1.length : Int) - 1 - (q : Int) = (k' : Int) := by omega
              have ix1 : (k : Int) < (ts0.length : Int) := by omega
              have ix2 : (k' : Int) < (ts1.length : Int) := by omega
              obtain ⟨b1, o1, k1, a1, t1, eA1, hb1, g1, y1, y2, y3⟩ := (G1'.out.up hql).at_ k (by omega)
              cases eA1
              obtain ⟨b2, o2, k2, a2, t2, eA2, hb2, g2, z1, z2, z3⟩ := (G2.out.up hql).at_ k' (by omega)
              cases eA2
              have hbd := HBD.out _ (List.mem_of_getElem? g1)
              dsimp only at hbd
              obtain ⟨ha1, ha2⟩ := hbd
              have T1 := hide (tK_get ks d (ts0.length - i) q (k1, a1, t1) (by omega) (by rw [HKL.out]; omega) (by rw [HKL.out, hk]; exact g1))
              have T2 := hide (tL_get ls (ts0.length - i) q (k2, a2, t2) (by omega) (by rw [HLL.out]; omega) (by rw [HLL.out, hk']; exact g2))
              clear g1 g2
              cases heq : eqG (k1, a1 + d, t1) (k2, a2, t2)
              · have hne : ∀ W, (binOp .neq 38 (.agg #[.int .i64 k1, .int .i64 (a1 + d), .string t1]) (.agg #[.int .i64 k2, .int .i64 a2, .string t2])).run Try.prog W = .ok (.bool true) W := fun W => by
                  have := neq_tok (k1, a1 + d, t1) (k2, a2, t2) W
                  rw [heq] at this
                  exact this
                have htl : tailN ks ls d = q := by
                  unfold tailN
                  rw [HMIN.out, HH.out]
                  exact headN_at _ _ q HALLQ.out (by rw [tK_length _ _ _ (by rw [HKL.out]; omega)]; omega) (by rw [tL_length _ _ (by rw [HLL.out]; omega)]; omega) (.inr (.inr ⟨_, _, T1.out, T2.out, heq⟩))
                have HTL := hide htl
                clear heq htl
                go_wp2_with fail
                obtain ⟨W5, hW5⟩ : ∃ W5, wr.alloc (.cells #[.int .i64 k1, .int .i64 (a1 + d), .string t1] 38) = W5 := ⟨_, rfl⟩
                have hq5 : Q wr W5 := by rw [← hW5]; exact (Q.refl wr).alloc _
                have n1' : W5.cell? ⟨wr.heap.size, 0, none⟩ = some (.int .i64 k1) := by rw [← hW5]; simp
                have n2' : W5.cell? ⟨wr.heap.size, 1, none⟩ = some (.int .i64 (a1 + d)) := by rw [← hW5]; simp
                have n3' : W5.cell? ⟨wr.heap.size, 2, none⟩ = some (.string t1) := by rw [← hW5]; simp
                have hn5 : wr.heap.size < W5.heap.size := by rw [← hW5]; simp
                have z1' := (hq5.facts.1 _ _ hb2).trans z1
                have z2' := (hq5.facts.1 _ _ hb2).trans z2
                have z3' := (hq5.facts.1 _ _ hb2).trans z3
                have hb5 := Nat.lt_of_lt_of_le hb2 hq5.size
                rw [hW5]
                clear hW5 z1 z2 z3 y1 y2 y3
                have hxc := ext_cell
                refine wp_region_ext (by kernel_rfl) (by kernel_rfl) ?_
                repeat (go_big_quiet_step ((fail)))
                clear hxc
                refine wpQuiet_nil ?_
                intro wy hwwy
                have hqwy := q_of_ext hwwy
                clear hwwy
                obtain ⟨hcwy, hfwy, hzwy⟩ := hqwy.facts
                try simp at hzwy
                try have hs0wy : w.heap.size < wy.heap.size := by omega
                try have hs1wy : w.heap.size + 1 < wy.heap.size := by omega
                have hqy := (hql.trans hq5).trans hqwy
                clear hcwy hfwy n1' n2' n3' z1' z2' z3'
                go_wp2_with fail
                go_ret3
                exact ⟨by rw [HH.out, HTL.out]; rfl, hq02.trans hqy⟩
              · have hne : ∀ W, (binOp .neq 38 (.agg #[.int .i64 k1, .int .i64 (a1 + d), .string t1]) (.agg #[.int .i64 k2, .int .i64 a2, .string t2])).run Try.prog W = .ok (.bool false) W := fun W => by
                  have := neq_tok (k1, a1 + d, t1) (k2, a2, t2) W
                  rw [heq] at this
                  exact this
                have HEQ := hide heq
                clear heq
                go_wp2_with fail
                obtain ⟨W5, hW5⟩ : ∃ W5, wr.alloc (.cells #[.int .i64 k1, .int .i64 (a1 + d), .string t1] 38) = W5 := ⟨_, rfl⟩
                have hq5 : Q wr W5 := by rw [← hW5]; exact (Q.refl wr).alloc _
                have n1' : W5.cell? ⟨wr.heap.size, 0, none⟩ = some (.int .i64 k1) := by rw [← hW5]; simp
                have n2' : W5.cell? ⟨wr.heap.size, 1, none⟩ = some (.int .i64 (a1 + d)) := by rw [← hW5]; simp
                have n3' : W5.cell? ⟨wr.heap.size, 2, none⟩ = some (.string t1) := by rw [← hW5]; simp
                have hn5 : wr.heap.size < W5.heap.size := by rw [← hW5]; simp
                have z1' := (hq5.facts.1 _ _ hb2).trans z1
                have z2' := (hq5.facts.1 _ _ hb2).trans z2
                have z3' := (hq5.facts.1 _ _ hb2).trans z3
                have hb5 := Nat.lt_of_lt_of_le hb2 hq5.size
                rw [hW5]
                clear hW5 z1 z2 z3 y1 y2 y3
                have hxc := ext_cell
                refine wp_region_ext (by kernel_rfl) (by kernel_rfl) ?_
                repeat (go_big_quiet_step ((fail)))
                clear hxc
                refine wpQuiet_nil ?_
                intro wy hwwy
                have hqwy := q_of_ext hwwy
                clear hwwy
                obtain ⟨hcwy, hfwy, hzwy⟩ := hqwy.facts
                try simp at hzwy
                try have hs0wy : w.heap.size < wy.heap.size := by omega
                try have hs1wy : w.heap.size + 1 < wy.heap.size := by omega
                have hqy := (hql.trans hq5).trans hqwy
                clear hcwy hfwy n1' n2' n3' z1' z2' z3'
                go_wp2_with fail
                go_roundw
                case rel => exact ⟨q + 1, by omega, by go_num, fun j g h hj hg hh => by
                  by_cases ej : j = q
                  · subst ej
                    rw [T1.out] at hg
                    rw [T2.out] at hh
                    cases hg
                    cases hh
                    exact HEQ.out
                  · exact HALLQ.out j g h (by omega) hg hh, hqy⟩
                case measure => simp [intOf] <;> omega
            · have dq : decide ((q : Int) < (ts0.length : Int) - (i : Int)) = false := by simp; omega
              have htl : tailN ks ls d = q := by
                unfold tailN
                rw [HMIN.out, HH.out]
                exact headN_at _ _ q HALLQ.out (by rw [tK_length _ _ _ (by rw [HKL.out]; omega)]; omega) (by rw [tL_length _ _ (by rw [HLL.out]; omega)]; omega) (.inl (by rw [tK_length _ _ _ (by rw [HKL.out]; omega)]; omega))
              have HTL := hide htl
              clear htl
              go_wp2_with fail
              go_ret3
              exact ⟨by rw [HH.out, HTL.out]; rfl, hq02.trans hql⟩

        · have hee : ∀ W, (binOp .eql 38 (.agg #[.int .i64 k1, .int .i64 a1, .string t1]) (.agg #[.int .i64 k2, .int .i64 a2, .string t2])).run Try.prog W = .ok (.bool true) W := fun W => by
            have := eql_tok (k1, a1, t1) (k2, a2, t2) W
            rw [heq] at this
            exact this
          have GE := hide g1
          have GF := hide g2
          have HEQ := hide heq
          clear g1 g2 heq
          go_wp2_with fail
          have hxc := ext_cell
          refine wp_region_ext (by kernel_rfl) (by kernel_rfl) ?_
          repeat (go_big_quiet_step ((fail)))
          clear hxc
          refine wpQuiet_nil ?_
          intro wz hwwz
          have hqwz := q_of_ext hwwz
          clear hwwz
          obtain ⟨hcwz, hfwz, hzwz⟩ := hqwz.facts
          try simp at hzwz
          try have hs0wz : w.heap.size < wz.heap.size := by omega
          try have hs1wz : w.heap.size + 1 < wz.heap.size := by omega
          have hqz := hq.trans hqwz
          clear hcwz hfwz y1 y2 y3 z1 z2 z3
          go_wp2_with fail
          go_roundw
          case rel => exact ⟨i + 1, by omega, by go_num, fun j a b hj ha hb => by
            by_cases ej : j = i
            · subst ej
              rw [GE.out] at ha
              rw [GF.out] at hb
              cases ha
              cases hb
              exact HEQ.out
            · exact HALL.out j a b (by omega) ha hb, hqz⟩
          case measure => simp [intOf] <;> omega
      · have hd1 : decide (i < ts0.length) = false := by simp; omega
        have hd2 : decide ((i : Int) < (ts0.length : Int)) = false := by simp; omega
        have hh := headN_at ks ls i HALL.out (by rw [HKL.out]; omega) (by rw [HLL.out]; omega) (by rw [HKL.out, HLL.out]; omega)
        have HH := hide hh
        clear hh
        go_wp2_with fail
        have hxc := ext_cell
        refine wp_region_ext (by kernel_rfl) (by kernel_rfl) ?_
        repeat (go_big_quiet_step ((fail)))
        clear hxc
        refine wpQuiet_nil ?_
        intro wz hwwz
        have hqwz := q_of_ext hwwz
        clear hwwz
        obtain ⟨hcwz, hfwz, hzwz⟩ := hqwz.facts
        try simp at hzwz
        try have hs0wz : w.heap.size < wz.heap.size := by omega
        try have hs1wz : w.heap.size + 1 < wz.heap.size := by omega
        have hqz := hq.trans hqwz
        clear hcwz hfwz
        go_wp2_with fail
        go_loopw [15] (fun v wl => ∃ q : Nat, q + i ≤ ts0.length ∧ v = .int .i64 q ∧ (∀ j g h, j < q → (tK ks d (ts0.length - i))[j]? = some g → (tL ls (ts0.length - i))[j]? = some h → eqG g h = true) ∧ Q w2 wl) (fun v _ => ts0.length - (intOf v).toNat)
        case atStart => exact ⟨0, by omega, by go_num, fun j g h hj => by omega, hqz⟩
        case round =>
          obtain ⟨q, hqm, rfl, hallq, hql⟩ := hrel
          have HALLQ := hide hallq
          clear hallq
          have hqi : (q : Int) + (i : Int) ≤ (ts0.length : Int) := by omega
          have hszl := hql.size
          by_cases hqlt : q + i < ts0.length
          · omega
          · have dq : decide ((q : Int) < (ts0.length : Int) - (i : Int)) = false := by simp; omega
            have htl : tailN ks ls d = q := by
              unfold tailN
              rw [HMIN.out, HH.out]
              exact headN_at _ _ q HALLQ.out (by rw [tK_length _ _ _ (by rw [HKL.out]; omega)]; omega) (by rw [tL_length _ _ (by rw [HLL.out]; omega)]; omega) (.inl (by rw [tK_length _ _ _ (by rw [HKL.out]; omega)]; omega))
            have HTL := hide htl
            clear htl
            go_wp2_with fail
            go_ret3
            exact ⟨by rw [HH.out, HTL.out]; rfl, hq02.trans hql⟩

end Go.Proofs.Ytofigpjabamnhaa
