/- Lists of tokens xs slices read; the walks of the reference's Same and Equal. Conditions: the slices read xs tokens. -/
import Derived.Test.YtofigpjabamnhaaLexT
namespace Go.Proofs.Ytofigpjabamnhaa
open Go.RowKit LX
set_option linter.unusedVariables false
abbrev G := Int × Int × ByteArray
def gcells (g : G) : List Value := [.int .i64 g.1, .int .i64 g.2.1, .string g.2.2]
def gflat (ts : List G) : List Value := ts.flatMap gcells
def gOf (s : ByteArray) (t : Tok) : G := ((t.1 : Int), (t.2.1 : Int), s.extract t.2.1 (t.2.1 + t.2.2))
theorem gflat_of (s : ByteArray) (ts : List Tok) : tflat s ts = gflat (ts.map (gOf s)) := by
  unfold tflat gflat
  rw [List.flatMap_map]
  rfl
theorem gflat_length (ts : List G) : (gflat ts).length = ts.length * 3 := by
  induction ts with
  | nil => rfl
  | cons t ts ih =>
    have : gflat (t :: ts) = gcells t ++ gflat ts := rfl
    rw [this, List.length_append, ih]
    simp [gcells]
    omega
theorem gflat_get (ts : List G) (i : Nat) (k a : Int) (t : ByteArray) (h : ts[i]? = some (k, a, t)) :
    (gflat ts)[i * 3]? = some (.int .i64 k) ∧ (gflat ts)[i * 3 + 1]? = some (.int .i64 a) ∧ (gflat ts)[i * 3 + 2]? = some (.string t) := by
  induction ts generalizing i with
  | nil => simp at h
  | cons u ts ih =>
    have e : gflat (u :: ts) = gcells u ++ gflat ts := rfl
    rcases i with _ | i
    · simp at h
      subst h
      exact ⟨rfl, rfl, rfl⟩
    · have := ih i (by simpa using h)
      have hl : (gcells u).length = 3 := rfl
      rw [e, List.getElem?_append_right (by rw [hl]; omega), List.getElem?_append_right (by rw [hl]; omega), List.getElem?_append_right (by rw [hl]; omega), hl]
      rw [show (i + 1) * 3 - 3 = i * 3 by omega, show (i + 1) * 3 + 1 - 3 = i * 3 + 1 by omega, show (i + 1) * 3 + 2 - 3 = i * 3 + 2 by omega]
      exact this
/-- a slice of tokens, xs a walk is told of it -/
structure GToks (w : World) (A : Option Addr) (n c : Nat) (ts : List G) : Prop where
  rd : Rd w w.heap.size A (gflat ts)
  len : ts.length = n
  cap : n ≤ c
  most : n ≤ 4611686018427387903
theorem GToks.up {w w' : World} {A : Option Addr} {n c : Nat} {ts : List G} (h : GToks w A n c ts) (hq : Q w w') : GToks w' A n c ts := ⟨h.rd.up hq, h.len, h.cap, h.most⟩
/-- token i of it -/
theorem GToks.at_ {w : World} {A : Option Addr} {n c : Nat} {ts : List G} (h : GToks w A n c ts) (i : Nat) (hi : i < n) :
    ∃ b o k a t, A = some ⟨b, o, none⟩ ∧ b < w.heap.size ∧ ts[i]? = some (k, a, t) ∧ w.cell? ⟨b, o + i * 3, none⟩ = some (.int .i64 k) ∧ w.cell? ⟨b, o + i * 3 + 1, none⟩ = some (.int .i64 a) ∧ w.cell? ⟨b, o + i * 3 + 2, none⟩ = some (.string t) := by
  have hl := h.len
  obtain ⟨b, o, e, hb, hc⟩ := h.rd.at_ (by rw [gflat_length]; omega)
  obtain ⟨k, a, t, hg⟩ : ∃ k a t, ts[i]? = some (k, a, t) := ⟨ts[i].1, ts[i].2.1, ts[i].2.2, by simp [show i < ts.length by omega]⟩
  obtain ⟨g1, g2, g3⟩ := gflat_get ts i k a t hg
  refine ⟨b, o, k, a, t, e, hb, hg, ?_, ?_, ?_⟩
  · rw [hc _ (by rw [gflat_length]; omega), ← List.getElem?_eq_getElem, g1]
  · rw [Nat.add_assoc, hc _ (by rw [gflat_length]; omega), ← List.getElem?_eq_getElem, g2]
  · rw [Nat.add_assoc, hc _ (by rw [gflat_length]; omega), ← List.getElem?_eq_getElem, g3]
def sameG (a b : G) : Bool := a.1 == b.1 && a.2.2.toList == b.2.2.toList
def sameB : List G → List G → Bool
  | [], [] => true
  | a :: xs, b :: ys => sameG a b && sameB xs ys
  | _, _ => false
theorem sameB_len : ∀ (xs ys : List G), xs.length ≠ ys.length → sameB xs ys = false
  | [], [], h => absurd rfl h
  | [], _ :: _, _ => rfl
  | _ :: _, [], _ => rfl
  | a :: xs, b :: ys, h => by
    unfold sameB
    rw [sameB_len xs ys (fun e => h (by simp [e]))]
    simp
theorem sameB_true : ∀ (xs ys : List G), xs.length = ys.length → (∀ (i : Nat) (a b : G), xs[i]? = some a → ys[i]? = some b → sameG a b = true) → sameB xs ys = true
  | [], [], _, _ => rfl
  | [], _ :: _, h, _ => by simp at h
  | _ :: _, [], h, _ => by simp at h
  | a :: xs, b :: ys, h, hp => by
    unfold sameB
    rw [hp 0 a b rfl rfl, sameB_true xs ys (by simpa using h) (fun i x y hx hy => hp (i + 1) x y (by simpa using hx) (by simpa using hy))]
    rfl
theorem sameB_false : ∀ (xs ys : List G) (i : Nat) (a b : G), xs[i]? = some a → ys[i]? = some b → sameG a b = false → sameB xs ys = false
  | [], _, i, _, _, h, _, _ => by simp at h
  | _ :: _, [], i, _, _, _, h, _ => by simp at h
  | x :: xs, y :: ys, i, a, b, h1, h2, h3 => by
    unfold sameB
    rcases i with _ | i
    · simp at h1 h2; subst h1 h2; rw [h3]; rfl
    · rw [sameB_false xs ys i a b (by simpa using h1) (by simpa using h2) h3]; simp
set_option maxHeartbeats 1000000 in
theorem rSame_any (A1 : Option Addr) (n1 c1 : Nat) (ks : List G) (A2 : Option Addr) (n2 c2 : Nat) (ls : List G) (w : World) (h1 : GToks w A1 n1 c1 ks) (h2 : GToks w A2 n2 c2 ls) :
    Calls Try.prog 14 #[.slice A1 n1 c1, .slice A2 n2 c2] w fun e w' => e = .returned (.bool (sameB ks ls)) ∧ Q w w' := by
  have l1 := h1.len
  have l2 := h2.len
  have m1 : (n1 : Int) ≤ 4611686018427387903 := by have := h1.most; omega
  have H1 := hide h1
  have H2 := hide h2
  by_cases hn : n1 = n2
  · have hd : ((n1 : Int) != (n2 : Int)) = false := by simp; omega
    have L1 := hide l1
    have L2 := hide l2
    have HN := hide hn
    clear l1 l2 h1 h2 hn
    go_enter Try.func14, Try.ntmps14
    go_wp2_with fail
    go_loopw [5] (fun v wr => ∃ i : Nat, i ≤ n1 ∧ v = .int .i64 i ∧ (∀ j a b, j < i → ks[j]? = some a → ls[j]? = some b → sameG a b = true) ∧ Q w wr) (fun v _ => n1 - (intOf v).toNat)
    case atStart => exact ⟨0, by omega, by go_num, fun j a b hj => by omega, Q.refl _⟩
    case round =>
      obtain ⟨i, hi, rfl, hall, hq⟩ := hrel
      have HALL := hide hall
      clear hall
      have hii : (i : Int) ≤ (n1 : Int) := by omega
      by_cases hlt : i < n1
      · have hd0 : decide (i < n1) = true := by simpa using hlt
        have hlti : (i : Int) < (n1 : Int) := by omega
        have hlti2 : (i : Int) < (n2 : Int) := by have := HN.out; omega
        obtain ⟨b1, o1, k1, a1, t1, rfl, hb1, g1, x1, x2, x3⟩ := (H1.out.up hq).at_ i hlt
        obtain ⟨b2, o2, k2, a2, t2, rfl, hb2, g2, y1, y2, y3⟩ := (H2.out.up hq).at_ i (by have := HN.out; omega)
        have G1 := hide g1
        have G2 := hide g2
        clear g1 g2 x2 y2
        by_cases hk : k1 = k2
        · have e1 : (k1 != k2) = false := by simp [hk]
          by_cases ht : t1.toList = t2.toList
          · have e2 : (t1.toList == t2.toList) = true := by simp [ht]
            have e3 : (t1.toList != t2.toList) = false := by simp [ht]
            have hs : sameG (k1, a1, t1) (k2, a2, t2) = true := by unfold sameG; simp [hk, ht]
            have HS := hide hs
            clear hs hk ht
            go_wp2_with fail
            have hxc := ext_cell
            refine wp_region_ext (by kernel_rfl) (by kernel_rfl) ?_
            repeat (go_big_quiet_step ((fail)))
            clear hxc
            refine wpQuiet_nil ?_
            intro wz hwwz
            have hqwz := q_of_ext hwwz
            clear hwwz
            obtain ⟨hcwz, hfwz, hzwz⟩ := hqwz.facts
            try simp at hzwz
            try have hs0wz : w.heap.size < wz.heap.size := by omega
            try have hs1wz : w.heap.size + 1 < wz.heap.size := by omega
            have hq2 := hq.trans hqwz
            clear hcwz hfwz x1 x3 y1 y3
            go_wp2_with fail
            go_roundw
            case rel => exact ⟨i + 1, by omega, by go_num, fun j a b hj ha hb => by
              by_cases e : j = i
              · subst e
                rw [G1.out] at ha
                rw [G2.out] at hb
                cases ha
                cases hb
                exact HS.out
              · exact HALL.out j a b (by omega) ha hb, hq2⟩
            case measure => simp [intOf] <;> omega
          · have e2 : (t1.toList == t2.toList) = false := by simp [ht]
            have e3 : (t1.toList != t2.toList) = true := by simp [ht]
            have hs : sameG (k1, a1, t1) (k2, a2, t2) = false := by unfold sameG; simp [ht]
            have hf := sameB_false ks ls i _ _ G1.out G2.out hs
            have HF := hide hf
            clear hs hk ht hf
            go_wp2_with fail
            have hxc := ext_cell
            refine wp_region_ext (by kernel_rfl) (by kernel_rfl) ?_
            repeat (go_big_quiet_step ((fail)))
            clear hxc
            refine wpQuiet_nil ?_
            intro wz hwwz
            have hqwz := q_of_ext hwwz
            clear hwwz
            obtain ⟨hcwz, hfwz, hzwz⟩ := hqwz.facts
            try simp at hzwz
            try have hs0wz : w.heap.size < wz.heap.size := by omega
            try have hs1wz : w.heap.size + 1 < wz.heap.size := by omega
            have hq2 := hq.trans hqwz
            clear hcwz hfwz x1 x3 y1 y3
            go_wp2_with fail
            go_ret
            exact ⟨ret_bool HF.out.symm, hq2⟩
        · have e1 : (k1 != k2) = true := by simp [hk]
          have hs : sameG (k1, a1, t1) (k2, a2, t2) = false := by unfold sameG; simp [hk]
          have hf := sameB_false ks ls i _ _ G1.out G2.out hs
          have HF := hide hf
          clear hs hk hf
          go_wp2_with fail
          have hxc := ext_cell
          refine wp_region_ext (by kernel_rfl) (by kernel_rfl) ?_
          repeat (go_big_quiet_step ((fail)))
          clear hxc
          refine wpQuiet_nil ?_
          intro wz hwwz
          have hqwz := q_of_ext hwwz
          clear hwwz
          obtain ⟨hcwz, hfwz, hzwz⟩ := hqwz.facts
          try simp at hzwz
          try have hs0wz : w.heap.size < wz.heap.size := by omega
          try have hs1wz : w.heap.size + 1 < wz.heap.size := by omega
          have hq2 := hq.trans hqwz
          clear hcwz hfwz x1 x3 y1 y3
          go_wp2_with fail
          go_ret
          exact ⟨ret_bool HF.out.symm, hq2⟩
      · have hd0 : decide (i < n1) = false := by simpa using hlt
        have hs := sameB_true ks ls (by rw [L1.out, L2.out, HN.out]) (fun j a b ha hb => HALL.out j a b (by have := (List.getElem?_eq_some_iff.1 ha).1; have := L1.out; omega) ha hb)
        have HS := hide hs
        clear hs
        go_wp2_with fail
        go_ret
        exact ⟨ret_bool HS.out.symm, hq⟩
  · have hd : ((n1 : Int) != (n2 : Int)) = true := by simp; omega
    have hf := sameB_len ks ls (by omega)
    have HF := hide hf
    clear l1 l2 h1 h2 hf
    go_enter Try.func14, Try.ntmps14
    go_wp2_with fail
    go_ret
    exact ⟨ret_bool HF.out.symm, Q.refl _⟩
theorem sameB_refl (ts : List G) : sameB ts ts = true := sameB_true ts ts rfl (fun i a b ha hb => by
  rw [ha] at hb
  cases hb
  unfold sameG
  simp)
set_option maxHeartbeats 1000000 in
theorem Equal_eq (A1 : Option Addr) (n c1 : Nat) (ks : List G) (A2 : Option Addr) (c2 : Nat) (w : World) (h1 : GToks w A1 n c1 ks) (h2 : GToks w A2 n c2 ks) :
    Calls Try.prog 12 #[.slice A1 n c1, .slice A2 n c2] w fun e w' => e = .returned (.bool true) ∧ Q w w' := by
  have m1 : (n : Int) ≤ 4611686018427387903 := by have := h1.most; omega
  have H1 := hide h1
  have H2 := hide h2
  clear h1 h2
  go_enter Try.func12, Try.ntmps12
  go_wp2_with fail
  go_loopw [5] (fun v wr => ∃ i : Nat, i ≤ n ∧ v = .int .i64 i ∧ Q w wr) (fun v _ => n - (intOf v).toNat)
  case atStart => exact ⟨0, by omega, by go_num, Q.refl _⟩
  case round =>
    obtain ⟨i, hi, rfl, hq⟩ := hrel
    have hii : (i : Int) ≤ (n : Int) := by omega
    by_cases hlt : i < n
    · have hd0 : decide (i < n) = true := by simpa using hlt
      have hlti : (i : Int) < (n : Int) := by omega
      obtain ⟨b1, o1, k1, a1, t1, rfl, hb1, g1, x1, x2, x3⟩ := (H1.out.up hq).at_ i hlt
      obtain ⟨b2, o2, k2, a2, t2, rfl, hb2, g2, y1, y2, y3⟩ := (H2.out.up hq).at_ i hlt
      rw [g1] at g2
      cases g2
      clear g1 x1 x3 y1 y3
      go_wp2_with fail
      have hxc := ext_cell
      refine wp_region_ext (by kernel_rfl) (by kernel_rfl) ?_
      repeat (go_big_quiet_step ((fail)))
      clear hxc
      refine wpQuiet_nil ?_
      intro wz hwwz
      have hqwz := q_of_ext hwwz
      clear hwwz
      obtain ⟨hcwz, hfwz, hzwz⟩ := hqwz.facts
      try simp at hzwz
      try have hs0wz : w.heap.size < wz.heap.size := by omega
      try have hs1wz : w.heap.size + 1 < wz.heap.size := by omega
      have hq2 := hq.trans hqwz
      clear hcwz hfwz x2 y2
      go_wp2_with fail
      go_roundw
      case rel => exact ⟨i + 1, by omega, by go_num, hq2⟩
      case measure => simp [intOf] <;> omega
    · have hd0 : decide (i < n) = false := by simpa using hlt
      go_wp2_with fail
      refine (rSame_any _ _ _ _ _ _ _ _ _ (H1.out.up hq) (H2.out.up hq)).mono ?_
      rintro e w1 ⟨rfl, hq1⟩
      rw [sameB_refl]
      go_wp2_with fail
      go_ret
      exact ⟨rfl, hq.trans hq1⟩
end Go.Proofs.Ytofigpjabamnhaa
