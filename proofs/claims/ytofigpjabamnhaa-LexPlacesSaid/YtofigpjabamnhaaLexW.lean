/- The plain law of LexKeeps: the tokens that end before an edit and those behind a blank after it are kept. Conditions: none. -/
import Derived.Test.YtofigpjabamnhaaLexQ
import Derived.Test.YtofigpjabamnhaaLexH
namespace Go.Proofs.Ytofigpjabamnhaa
open Go.RowKit LX
set_option linter.unusedVariables false
def befG (ks : List G) (f : Int) : Nat := ks.countP (fun g => decide (g.2.1 + (g.2.2.size : Int) < f))
def behG (ks : List G) (q : Int) : Nat := ks.countP (fun g => decide (q < g.2.1))
theorem headN_ge : ∀ (ks ls : List G) (i : Nat), i ≤ ks.length → i ≤ ls.length → (∀ j a b, j < i → ks[j]? = some a → ls[j]? = some b → eqG a b = true) → i ≤ headN ks ls
  | _, _, 0, _, _, _ => Nat.zero_le _
  | [], _, i + 1, h, _, _ => by simp at h
  | _ :: _, [], i + 1, _, h, _ => by simp at h
  | k :: ks, l :: ls, i + 1, h1, h2, ha => by
    have := headN_ge ks ls i (by simpa using h1) (by simpa using h2) (fun j a b hj h h' => ha (j + 1) a b (by omega) (by simpa using h) (by simpa using h'))
    unfold headN
    rw [if_pos (ha 0 k l (by omega) rfl rfl)]
    omega
theorem eqG_of (a b : G) (h1 : a.1 = b.1) (h2 : a.2.1 = b.2.1) (h3 : a.2.2 = b.2.2) : eqG a b = true := by
  unfold eqG
  rw [h1, h2, h3]
  simp
theorem lexF_ok {l : List Nat} {ts : List Tok} {n : Nat} (h : lexF l = (ts, n, 0)) : toks (l.length + 1) l 0 = (ts, none) := by
  unfold lexF at h
  split at h
  · simp at h
  · split at h
    · simp at h
    · rename_i ts' e
      split at h
      · simp at h
      · simp at h
        obtain ⟨rfl, _⟩ := h
        exact e
theorem toks_hi : ∀ (f : Nat) (l : List Nat) (p : Nat), ∀ t ∈ (toks f l p).1, t.2.1 + t.2.2 ≤ p + l.length
  | 0, l, p => by simp [toks]
  | f + 1, l, p => by
    rw [toks]
    split
    · simp
    · split
      · intro t ht
        have := toks_hi f _ _ t ht
        rw [List.length_drop] at this
        omega
      · split
        · simp
        · have hle := firstL_le l
          intro t ht
          rcases List.mem_cons.1 ht with rfl | ht
          · dsimp only; omega
          · have := toks_hi f _ _ t ht
            rw [List.length_drop] at this
            omega
theorem nat_append (a b : ByteArray) : nat (a ++ b) = nat a ++ nat b := by
  unfold nat
  simp
theorem nat_editB (s : ByteArray) (f t : Nat) (y : ByteArray) (h : t ≤ s.size) : nat (editB s f t y) = (nat s).take f ++ nat y ++ (nat s).drop t := by
  unfold editB
  rw [nat_append, nat_append, nat_extract, nat_extract, List.drop_zero, Nat.sub_zero, List.take_of_length_le (l := (nat s).drop t) (by rw [List.length_drop, nat_length]; omega)]
theorem keep_law (s y : ByteArray) (f t q : Nat) (ts0 ts1 : List Tok) (n0 n1 : Nat) (h0 : lexF (nat s) = (ts0, n0, 0)) (h1 : lexF (nat (editB s f t y)) = (ts1, n1, 0)) (hft : f ≤ t) (hts : t ≤ s.size) (htq : t ≤ q) (hq : q ≤ s.size)
    (hb : q = s.size ∨ clsN ((nat s).getD q 0) = 1) :
    befG (ts0.map (gOf s)) f ≤ headN (ts0.map (gOf s)) (ts1.map (gOf (editB s f t y))) ∧
    befG (ts0.map (gOf s)) f + behG (ts0.map (gOf s)) q ≤ headN (ts0.map (gOf s)) (ts1.map (gOf (editB s f t y))) + tailN (ts0.map (gOf s)) (ts1.map (gOf (editB s f t y))) ((y.size : Int) - ((t : Int) - (f : Int))) := by
  have l0 := lexF_ok h0
  have l1 := lexF_ok h1
  have hE := nat_editB s f t y hts
  have hlen := nat_length s
  have hleny := nat_length y
  have hX : ∀ a n a' n', ((nat s).drop a).take n = ((nat (editB s f t y)).drop a').take n' → s.extract a (a + n) = (editB s f t y).extract a' (a' + n') := fun a n a' n' h => nat_inj (by
    rw [nat_extract, nat_extract, Nat.add_sub_cancel_left, Nat.add_sub_cancel_left, h])
  obtain ⟨src, hsrc⟩ : ∃ src, editB s f t y = src := ⟨_, rfl⟩
  rw [hsrc] at l1 hE hX ⊢
  obtain ⟨l, hl⟩ : ∃ l, nat s = l := ⟨_, rfl⟩
  obtain ⟨l', hl'⟩ : ∃ l', nat src = l' := ⟨_, rfl⟩
  rw [hl] at l0 hE hX hlen hb
  rw [hl'] at l1 hE hX
  have hlen' : l'.length = f + y.size + (s.size - t) := by rw [hE]; simp; omega
  have hpre : l.take f = l'.take f := by rw [hE, List.append_assoc, List.take_left' (by simp; omega)]
  obtain ⟨q', hqq⟩ : ∃ q', q' = q - t + (f + y.size) := ⟨_, rfl⟩
  have hdrop : l'.drop q' = l.drop q := by
    rw [hE, List.drop_append, List.drop_eq_nil_of_le (by simp; omega), List.nil_append, List.drop_drop]
    congr 1
    simp
    omega
  have P0 := toks_part l q (by omega) (by rw [hlen]; exact hb) (l.length + 1) 0 (by simp) (Nat.zero_le _)
  have P1 := toks_part l' q' (by omega) (by
    rcases hb with hb | hb
    · left; omega
    · right
      have := congrArg (fun m => m.getD 0 0) hdrop
      simp only [List.getD_eq_getElem?_getD, List.getElem?_drop, Nat.add_zero] at this hb ⊢
      rw [this]
      exact hb) (l'.length + 1) 0 (by simp) (Nat.zero_le _)
  obtain ⟨A2, B2, B2', k1, k2, k3, k4⟩ := toks_head f l l' (by omega) (by omega) hpre (l.length + 1) (l'.length + 1) 0 (by simp) (by simp)
  rw [List.drop_zero, l0] at P0 k1
  rw [List.drop_zero, l1] at P1 k2
  obtain ⟨A, e1, e2⟩ := P0 rfl
  obtain ⟨A', e1', e2'⟩ := P1 rfl
  dsimp only at e1 e1' k1 k2
  rw [hdrop] at e1'
  obtain ⟨B, hB⟩ : ∃ B, (toks ((l.drop q).length + 1) (l.drop q) 0).1 = B := ⟨_, rfl⟩
  have sB := toks_hi ((l.drop q).length + 1) (l.drop q) 0
  have s0 := toks_shift ((l.drop q).length + 1) (l.drop q) 0 q
  have s1 := toks_shift ((l.drop q).length + 1) (l.drop q) 0 q'
  rw [Nat.zero_add, hB] at s0 s1
  rw [hB] at sB
  rw [s0] at e1
  rw [s1] at e1'
  have hi0 := toks_hi (l.length + 1) l 0
  rw [l0] at hi0
  dsimp only at hi0
  -- A2 lies in A and in A'
  have c0 : A2.length ≤ A.length := by
    by_cases hc : A2.length ≤ A.length
    · exact hc
    · have hh : (A2 ++ B2)[A.length]? = (A ++ B.map (shT q))[A.length]? := by rw [k1.symm.trans e1]
      rw [List.getElem?_append_left (by omega), List.getElem?_append_right (by omega), Nat.sub_self, List.getElem?_map] at hh
      have hm := k3 _ (List.getElem_mem (show A.length < A2.length by omega))
      rw [List.getElem?_eq_getElem (by omega)] at hh
      rcases hb0 : B[0]? with _ | x
      · rw [hb0] at hh; cases hh
      · rw [hb0] at hh
        have hh := Option.some.inj hh
        rw [hh] at hm
        simp only [shT] at hm
        omega
  have c1 : A2.length ≤ A'.length := by
    by_cases hc : A2.length ≤ A'.length
    · exact hc
    · have hh : (A2 ++ B2')[A'.length]? = (A' ++ B.map (shT q'))[A'.length]? := by rw [k2.symm.trans e1']
      rw [List.getElem?_append_left (by omega), List.getElem?_append_right (by omega), Nat.sub_self, List.getElem?_map] at hh
      have hm := k3 _ (List.getElem_mem (show A'.length < A2.length by omega))
      rw [List.getElem?_eq_getElem (by omega)] at hh
      rcases hb0 : B[0]? with _ | x
      · rw [hb0] at hh; cases hh
      · rw [hb0] at hh
        have hh := Option.some.inj hh
        rw [hh] at hm
        simp only [shT] at hm
        omega
  have z0 : ts0.length = A.length + B.length := by rw [e1]; simp
  have z1 : ts1.length = A'.length + B.length := by rw [e1']; simp
  -- the counts
  have hbef : befG (ts0.map (gOf s)) f ≤ A2.length := by
    unfold befG
    rw [List.countP_map, k1, List.countP_append, (List.countP_eq_zero (l := B2)).2, Nat.add_zero]
    · exact List.countP_le_length
    · intro x hx
      have a1 := k4 x hx
      have a2 := hi0 x (by rw [k1]; exact List.mem_append_right _ hx)
      simp [gOf]
      omega
  have hbeh : behG (ts0.map (gOf s)) q ≤ B.length := by
    unfold behG
    rw [List.countP_map, e1, List.countP_append, (List.countP_eq_zero (l := A)).2, Nat.zero_add]
    · refine Nat.le_trans List.countP_le_length ?_
      simp
    · intro x hx
      have a1 := e2 x hx
      simp [gOf]
      omega
  -- the head
  have hhead : A2.length ≤ headN (ts0.map (gOf s)) (ts1.map (gOf src)) := headN_ge _ _ _ (by simp; omega) (by simp; omega) (fun j a b hj ha hb' => by
    rw [List.getElem?_map, k1, List.getElem?_append_left hj, List.getElem?_eq_getElem hj] at ha
    rw [List.getElem?_map, k2, List.getElem?_append_left hj, List.getElem?_eq_getElem hj] at hb'
    have hx := k3 _ (List.getElem_mem hj)
    cases ha
    cases hb'
    exact eqG_of _ _ rfl rfl (hX _ _ _ _ (drop_congr hpre (by omega))))
  obtain ⟨ks, hks⟩ : ∃ ks, ts0.map (gOf s) = ks := ⟨_, rfl⟩
  obtain ⟨ls, hls⟩ : ∃ ls, ts1.map (gOf src) = ls := ⟨_, rfl⟩
  have y0 : ks.length = A.length + B.length := by rw [← hks, List.length_map, z0]
  have y1 : ls.length = A'.length + B.length := by rw [← hls, List.length_map, z1]
  have hle := headN_le ks ls
  obtain ⟨d, hd⟩ : ∃ d : Int, (y.size : Int) - ((t : Int) - (f : Int)) = d := ⟨_, rfl⟩
  rw [hks] at hbef hbeh
  rw [hks, hls] at hhead
  rw [hks, hls, hd]
  obtain ⟨m, hm⟩ : ∃ m, min ks.length ls.length - headN ks ls = m := ⟨_, rfl⟩
  have htail : min B.length m ≤ tailN ks ls d := by
    unfold tailN
    rw [hm]
    refine headN_ge _ _ _ (by rw [tK_length _ _ _ (by omega)]; omega) (by rw [tL_length _ _ (by omega)]; omega) (fun j a b hj ha hb' => ?_)
    have hjB : B.length - 1 - j < B.length := by omega
    have g0 : ks[ks.length - 1 - j]? = some (gOf s (shT q B[B.length - 1 - j])) := by
      rw [y0, ← hks, List.getElem?_map, e1, List.getElem?_append_right (by omega), List.getElem?_map, show A.length + B.length - 1 - j - A.length = B.length - 1 - j by omega, List.getElem?_eq_getElem hjB]
      rfl
    have g1 : ls[ls.length - 1 - j]? = some (gOf src (shT q' B[B.length - 1 - j])) := by
      rw [y1, ← hls, List.getElem?_map, e1', List.getElem?_append_right (by omega), List.getElem?_map, show A'.length + B.length - 1 - j - A'.length = B.length - 1 - j by omega, List.getElem?_eq_getElem hjB]
      rfl
    rw [tK_get ks d m j _ (by omega) (by omega) g0] at ha
    rw [tL_get ls m j _ (by omega) (by omega) g1] at hb'
    cases ha
    cases hb'
    refine eqG_of _ _ rfl ?_ (hX _ _ _ _ ?_)
    · simp only [shG, gOf, shT]
      omega
    · simp only [shT]
      rw [Nat.add_comm _ q, Nat.add_comm _ q', ← List.drop_drop, ← List.drop_drop, hdrop]
  omega
end Go.Proofs.Ytofigpjabamnhaa
