/- The walks of the reference's Same and SameTexts at equal data, and of string(b). Conditions: the slices read as lists. -/
import Derived.Test.YtjdioilkhbpmoaaLinkRa
import Derived.Test.YtjdioilkhbpmoaaLinkQc
namespace Go.Proofs.Ytjdioilkhbpmoaa
open Go.RowKit LK
set_option linter.unusedVariables false
def strI (xs : List Int) : ByteArray := strN (xs.map Int.toNat)
theorem u8_nat {xs : List Int} (h : ∀ x ∈ xs, 0 ≤ x ∧ x < 256) : xs.flatMap (encI .u8) = (xs.map Int.toNat).map byteV ∧ ∀ b ∈ xs.map Int.toNat, b < 256 := by
  constructor
  · induction xs with
    | nil => rfl
    | cons x r ih =>
      have hx := h x (List.mem_cons_self ..)
      rw [List.flatMap_cons, ih (fun y hy => h y (List.mem_cons_of_mem _ hy))]
      simp [encI, byteV]
      omega
  · intro b hb
    obtain ⟨x, hx, rfl⟩ := List.mem_map.1 hb
    have := h x hx
    omega
theorem conv_sl {P : Program} {src dst e : TypeId} (hs : P.underlying src = some (.slice e)) (he : P.underlying e = some (.int .u8)) (hd : P.underlying dst = some .string)
    {w : World} {A : Option Addr} {n c : Nat} {xs : List Int} (h : Sl 1 (encI .u8) w A n c xs) (hb : ∀ x ∈ xs, 0 ≤ x ∧ x < 256) : (convert src dst (.slice A n c)).run P w = .ok (.string (strI xs)) w := by
  obtain ⟨e, hb⟩ := u8_nat hb
  exact conv_rd hs he hd (e ▸ h.rd) hb n c (by rw [List.length_map, h.len])
theorem bl_strI {xs ys : List Int} (hx : ∀ x ∈ xs, 0 ≤ x ∧ x < 256) (hy : ∀ x ∈ ys, 0 ≤ x ∧ x < 256) : ((strI xs).toList == (strI ys).toList) = true ↔ xs = ys := by
  rw [beq_iff_eq, Lib.toList_data, Lib.toList_data]
  constructor
  · intro h
    simp only [strI, strN, List.map_map] at h
    induction xs generalizing ys with
    | nil => cases ys with
      | nil => rfl
      | cons => simp at h
    | cons x r ih => cases ys with
      | nil => simp at h
      | cons y s =>
        simp only [List.map_cons, List.cons.injEq] at h
        have h1 := hx x (List.mem_cons_self ..)
        have h2 := hy y (List.mem_cons_self ..)
        have h3 : (UInt8.ofNat x.toNat).toNat = (UInt8.ofNat y.toNat).toNat := by
          have := h.1
          simp only [Function.comp] at this
          rw [this]
        simp at h3
        rw [ih (fun z hz => hx z (List.mem_cons_of_mem _ hz)) (fun z hz => hy z (List.mem_cons_of_mem _ hz)) h.2, show x = y by omega]
  · intro h; rw [h]
theorem neq_sym (s : ByteArray) (a : Int) (w : World) : (binOp .neq 72 (.agg #[.string s, .int .i64 a]) (.agg #[.string s, .int .i64 a])).run Try.prog w = .ok (.bool false) w := by
  simp [go_sem, Try.underlying72, Try.underlying3, Try.underlying9]
theorem neq_wnt (s : ByteArray) (a b : Int) (w : World) : (binOp .neq 74 (.agg #[.int .i64 a, .int .i64 b, .string s]) (.agg #[.int .i64 a, .int .i64 b, .string s])).run Try.prog w = .ok (.bool false) w := by
  simp [go_sem, Try.underlying74, Try.underlying3, Try.underlying9]
/-- the same data -/
def SameD (o p : OV) : Prop := o.1.xs = p.1.xs ∧ o.2.1.xs = p.2.1.xs ∧ o.2.2.xs = p.2.2.xs
set_option maxRecDepth 100000 in
set_option maxHeartbeats 4000000 in
theorem rSame_same (o p : OV) (w : World) (hO : ObR w o) (hP : ObR w p) (hd : SameD o p) (h1 : o.2.1.n ≤ 1000) (h2 : o.2.2.n ≤ 1000) :
    Calls Try.prog 27 #[obV o, obV p] w fun e w' => e = .returned (.bool true) ∧ Q w w' := by
  obtain ⟨⟨A0, n0, c0, bs⟩, ⟨A1, n1, c1, ss⟩, ⟨A2, n2, c2, ws⟩⟩ := o
  obtain ⟨⟨B0, m0, d0, bt⟩, ⟨B1, m1, d1, st⟩, ⟨B2, m2, d2, wt⟩⟩ := p
  obtain ⟨e0, e1, e2⟩ := hd
  dsimp only at e0 e1 e2 h1 h2
  subst e0
  subst e1
  subst e2
  have l1 := hO.s.len
  have l2 := hO.t.len
  have m1e := hP.s.len
  have m2e := hP.t.len
  dsimp only at l1 l2 m1e m2e
  obtain rfl : m1 = n1 := by omega
  obtain rfl : m2 = n2 := by omega
  clear l1 l2 m1e m2e
  unfold obV SlV.val
  dsimp only
  have hn1i : (m1 : Int) ≤ 1000 := by omega
  have hn2i : (m2 : Int) ≤ 1000 := by omega
  obtain ⟨w2, hw2⟩ : ∃ w2, (w.alloc (.cells #[.slice A0 n0 c0, .slice A1 m1 c1, .slice A2 m2 c2] 41)).alloc (.cells #[.slice B0 m0 d0, .slice B1 m1 d1, .slice B2 m2 d2] 41) = w2 := ⟨_, rfl⟩
  have hq2 : Q w w2 := by rw [← hw2]; exact ((Q.refl w).alloc _).alloc _
  have hs2 : w2.heap.size = w.heap.size + 2 := by rw [← hw2]; simp
  have k0 : w2.cell? ⟨w.heap.size, 0, none⟩ = some (.slice A0 n0 c0) := by rw [← hw2]; simp
  have k1 : w2.cell? ⟨w.heap.size, 1, none⟩ = some (.slice A1 m1 c1) := by rw [← hw2]; simp
  have k2 : w2.cell? ⟨w.heap.size, 2, none⟩ = some (.slice A2 m2 c2) := by rw [← hw2]; simp
  have j0 : w2.cell? ⟨w.heap.size + 1, 0, none⟩ = some (.slice B0 m0 d0) := by rw [← hw2]; simp
  have j1 : w2.cell? ⟨w.heap.size + 1, 1, none⟩ = some (.slice B1 m1 d1) := by rw [← hw2]; simp
  have j2 : w2.cell? ⟨w.heap.size + 1, 2, none⟩ = some (.slice B2 m2 d2) := by rw [← hw2]; simp
  have HO := hide (hO.up hq2)
  have HP := hide (hP.up hq2)
  have cv1 := conv_sl Try.underlying37 Try.underlying5 Try.underlying9 HO.out.b HO.out.bok
  have cv2 := conv_sl Try.underlying37 Try.underlying5 Try.underlying9 HP.out.b HP.out.bok
  dsimp only at cv1 cv2
  have tt : ((strI bs).toList == (strI bs).toList) = true := by simp
  have t1 : ((m1 : Int) != (m1 : Int)) = false := by simp
  have t2 : ((m2 : Int) != (m2 : Int)) = false := by simp
  have NS := hide neq_sym
  have NW := hide neq_wnt
  have HW2 := hide hw2
  have K0 := hide k0
  have K1 := hide k1
  have K2 := hide k2
  have J0 := hide j0
  have J1 := hide j1
  have J2 := hide j2
  have HOx := hide hO
  have HPx := hide hP
  clear hw2 k0 k1 k2 j0 j1 j2 hO hP
  clear HOx HPx h1 h2
  go_enter Try.func27, Try.ntmps27
  go_wp2_with fail
  rw [HW2.out]
  have k0 := K0.out
  have k1 := K1.out
  have k2 := K2.out
  have j0 := J0.out
  have j1 := J1.out
  have j2 := J2.out
  go_wp2_with fail
  go_simp
  go_wp2_with fail
  go_simp
  go_wp2_with fail
  clear cv1 cv2 tt t1 t2 k0 k1 k2 j0 j1 j2
  go_loopw [5] (fun vi wr => ∃ i : Nat, i ≤ m1 ∧ vi = .int .i64 i ∧ Q w2 wr) (fun vi _ => m1 - (intOf vi).toNat)
  case atStart => exact ⟨0, by omega, by go_num, Q.refl _⟩
  case round =>
    obtain ⟨i, hi, rfl, hq⟩ := hrel
    have hsz := hq.size
    have k1 := (hq.facts.1 _ 1 (show w.heap.size < w2.heap.size by omega)).trans K1.out
    have j1 := (hq.facts.1 _ 1 (show w.heap.size + 1 < w2.heap.size by omega)).trans J1.out
    have hb0 : w.heap.size < wr.heap.size := by omega
    have hb1 : w.heap.size + 1 < wr.heap.size := by omega
    have HQ := hide hq
    by_cases hlt : i < m1
    · have hd1 : decide ((i : Int) < (m1 : Int)) = true := by simp; omega
      have hd0 : decide (i < m1) = true := by simp; omega
      have hlti : (i : Int) < (m1 : Int) := by omega
      obtain ⟨b1, o1, nm, at_, e1, hbb1, g1, x1, x2⟩ := (HO.out.up hq).s.sym i hlt
      obtain ⟨b2, o2, nm2, at2, e2, hbb2, g2, y1, y2⟩ := (HP.out.up hq).s.sym i hlt
      dsimp only at e1 e2 g1 g2
      rw [g1] at g2
      obtain ⟨rfl, rfl⟩ : nm = nm2 ∧ at_ = at2 := by simpa using g2
      subst e1
      subst e2
      have hns := NS.out nm at_
      clear g1 g2 hq
      go_wp2_with fail
      have hxc := ext_cell
      refine wp_region_ext (by kernel_rfl) (by kernel_rfl) ?_
      repeat (go_big_quiet_step ((fail)))
      clear hxc
      refine wpQuiet_nil ?_
      intro wz hwwz
      have hqwz := q_of_ext hwwz
      clear hwwz
      obtain ⟨hcwz, hfwz, hzwz⟩ := hqwz.facts
      try simp at hzwz
      try have hs0wz : w.heap.size < wz.heap.size := by omega
      try have hs1wz : w.heap.size + 1 < wz.heap.size := by omega
      clear hcwz hfwz x1 x2 y1 y2 k1 j1 hns
      go_wp2_with fail
      go_roundw
      case rel => exact ⟨i + 1, by omega, by go_num, HQ.out.trans hqwz⟩
      case measure => simp [intOf] <;> omega
    · have hd1 : decide ((i : Int) < (m1 : Int)) = false := by simp; omega
      have hd0 : decide (i < m1) = false := by simp; omega
      obtain rfl : i = m1 := by omega
      go_wp2_with fail
      clear k1 j1 hd1 hd0
      go_loopw [6] (fun vi wr => ∃ i : Nat, i ≤ m2 ∧ vi = .int .i64 i ∧ Q w2 wr) (fun vi _ => m2 - (intOf vi).toNat)
      case atStart => exact ⟨0, by omega, by go_num, HQ.out⟩
      case round =>
        obtain ⟨i, hi, rfl, hq⟩ := hrel
        have hsz := hq.size
        have k2 := (hq.facts.1 _ 2 (show w.heap.size < w2.heap.size by omega)).trans K2.out
        have j2 := (hq.facts.1 _ 2 (show w.heap.size + 1 < w2.heap.size by omega)).trans J2.out
        have hb0 : w.heap.size < wr.heap.size := by omega
        have hb1 : w.heap.size + 1 < wr.heap.size := by omega
        have HQ2 := hide hq
        by_cases hlt : i < m2
        · have hd1 : decide ((i : Int) < (m2 : Int)) = true := by simp; omega
          have hd0 : decide (i < m2) = true := by simp; omega
          have hlti : (i : Int) < (m2 : Int) := by omega
          obtain ⟨b1, o1, at_, kd, nm, e1, hbb1, g1, x1, x2, x3⟩ := (HO.out.up hq).t.wnt i hlt
          obtain ⟨b2, o2, at2, kd2, nm2, e2, hbb2, g2, y1, y2, y3⟩ := (HP.out.up hq).t.wnt i hlt
          dsimp only at e1 e2 g1 g2
          rw [g1] at g2
          obtain ⟨rfl, rfl, rfl⟩ : at_ = at2 ∧ kd = kd2 ∧ nm = nm2 := by simpa using g2
          subst e1
          subst e2
          have hnw := NW.out nm at_ kd
          clear g1 g2 hq
          go_wp2_with fail
          have hxc := ext_cell
          refine wp_region_ext (by kernel_rfl) (by kernel_rfl) ?_
          repeat (go_big_quiet_step ((fail)))
          clear hxc
          refine wpQuiet_nil ?_
          intro wz hwwz
          have hqwz := q_of_ext hwwz
          clear hwwz
          obtain ⟨hcwz, hfwz, hzwz⟩ := hqwz.facts
          try simp at hzwz
          try have hs0wz : w.heap.size < wz.heap.size := by omega
          try have hs1wz : w.heap.size + 1 < wz.heap.size := by omega
          clear hcwz hfwz x1 x2 x3 y1 y2 y3 k2 j2 hnw
          go_wp2_with fail
          go_roundw
          case rel => exact ⟨i + 1, by omega, by go_num, HQ2.out.trans hqwz⟩
          case measure => simp [intOf] <;> omega
        · have hd1 : decide ((i : Int) < (m2 : Int)) = false := by simp; omega
          have hd0 : decide (i < m2) = false := by simp; omega
          obtain rfl : i = m2 := by omega
          go_wp2_with fail
          go_ret
          exact ⟨rfl, hq2.trans HQ2.out⟩
set_option maxRecDepth 100000 in
set_option maxHeartbeats 4000000 in
theorem SameTexts_same (A1 : Option Addr) (n c1 : Nat) (A2 : Option Addr) (c2 : Nat) (xs : List Tx) (w : World) (h1 : Rd w w.heap.size A1 (xs.map encStr)) (h2 : Rd w w.heap.size A2 (xs.map encStr)) (hl : xs.length = n) (hn : n ≤ 100000) :
    Calls Try.prog 34 #[.slice A1 n c1, .slice A2 n c2] w fun e w' => e = .returned (.bool true) ∧ Q w w' := by
  have d : ((n : Int) != (n : Int)) = false := by simp
  have H1 := hide h1
  have H2 := hide h2
  have hni : (n : Int) ≤ 100000 := by omega
  have HL := hide hl
  clear h1 h2 hl
  go_enter Try.func34, Try.ntmps34
  go_wp2_with fail
  go_loopw [5] (fun vi wr => ∃ i : Nat, i ≤ n ∧ vi = .int .i64 i ∧ Q w wr) (fun vi _ => n - (intOf vi).toNat)
  case atStart => exact ⟨0, by omega, by go_num, Q.refl _⟩
  case round =>
    obtain ⟨i, hi, rfl, hq⟩ := hrel
    have hsz := hq.size
    by_cases hlt : i < n
    · have hd1 : decide ((i : Int) < (n : Int)) = true := by simp; omega
      have hd0 : decide (i < n) = true := by simp; omega
      have hlti : (i : Int) < (n : Int) := by omega
      obtain ⟨b1, o1, rfl, hb1, hc1⟩ := (H1.out.up hq).at_ (by rw [List.length_map]; have := HL.out; omega)
      obtain ⟨b2, o2, rfl, hb2, hc2⟩ := (H2.out.up hq).at_ (by rw [List.length_map]; have := HL.out; omega)
      have k1 := hc1 i (by rw [List.length_map]; have := HL.out; omega)
      have k2 := hc2 i (by rw [List.length_map]; have := HL.out; omega)
      simp only [List.getElem_map, encStr] at k1 k2
      obtain ⟨s, hs⟩ : ∃ s, (xs[i]'(by have := HL.out; omega)) = s := ⟨_, rfl⟩
      rw [hs] at k1 k2
      have f : ((⟨s.toArray⟩ : ByteArray).toList == (⟨s.toArray⟩ : ByteArray).toList) = true := by simp
      clear hc1 hc2 hs
      go_wp2_with fail
      have hxc := ext_cell
      refine wp_region_ext (by kernel_rfl) (by kernel_rfl) ?_
      repeat (go_big_quiet_step ((fail)))
      clear hxc
      refine wpQuiet_nil ?_
      intro wz hwwz
      have hqwz := q_of_ext hwwz
      clear hwwz
      obtain ⟨hcwz, hfwz, hzwz⟩ := hqwz.facts
      try simp at hzwz
      try have hs0wz : w.heap.size < wz.heap.size := by omega
      try have hs1wz : w.heap.size + 1 < wz.heap.size := by omega
      clear hcwz hfwz k1 k2
      go_wp2_with fail
      go_roundw
      case rel => exact ⟨i + 1, by omega, by go_num, hq.trans hqwz⟩
      case measure => simp [intOf] <;> omega
    · have hd1 : decide ((i : Int) < (n : Int)) = false := by simp; omega
      have hd0 : decide (i < n) = false := by simp; omega
      obtain rfl : i = n := by omega
      go_wp2_with fail
      go_ret
      exact ⟨rfl, hq⟩
end Go.Proofs.Ytjdioilkhbpmoaa
