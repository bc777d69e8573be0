/- The reference's reader: take, number. Conditions: the reader reads as a state. -/
import Derived.Test.YtiilkiggfjpibaaLinkTg
import Derived.Test.YtiilkiggfjpibaaLinkU7
namespace Go.Proofs.Ytiilkiggfjpibaa
open Go.RowKit LK
set_option linter.unusedVariables false
set_option linter.unusedSimpArgs false
theorem own_readerZ {B rb : Nat} {xs : List Int} {v : Value} {w w' : World} {cs : Array Value} (h : isOwn B xs v w) (hb : w.heap[rb]? = some (.cells cs 118 (0, 0))) (hg : w.grownBy w' (some rb)) : isOwn B xs v w' := by
  refine World.ownsRow.kept h hg ?_
  cases hv : v.ownBlock with
  | none => exact .inl rfl
  | some g =>
    refine .inr fun e2 => ?_
    cases e2
    obtain ⟨cs, h1⟩ := own_blk h hv
    rw [hb] at h1
    cases h1
/-- the reader at rb is in state σ; what is left lies in memory that was there in W0 -/
structure RdZ (W0 w : World) (rb : Nat) (σ : Rs) : Prop where
  q : Q W0 w
  lt : W0.heap.size ≤ rb
  st : ∃ l : SlV Int, w.heap[rb]? = some (.cells #[l.val, .bool σ.2] 118 (0, 0)) ∧ B8 W0 l ∧ l.xs = σ.1
  i8 : In8 σ.1
theorem RdZ.up {W0 w w' : World} {rb : Nat} {σ : Rs} (h : RdZ W0 w rb σ) (hq : Q w w') : RdZ W0 w' rb σ := by
  obtain ⟨h1, h2, ⟨l, h3, h4, h5⟩, h6⟩ := h
  exact ⟨h1.trans hq, h2, ⟨l, (hq.below.block rb (Array.getElem?_eq_some_iff.1 h3).1).trans h3, h4, h5⟩, h6⟩
def RPostZ (W0 w : World) (rb : Nat) (v : Value) (σ : Rs) (e : Ending) (w' : World) : Prop := e = .returned v ∧ RdZ W0 w' rb σ ∧ w.grownBy w' (some rb)
/-- what is decoded so far -/
structure DecZ (w wr : World) (vb vs vw : Value) (bs : Bs) (ss : List Sym) (ws : List Wnt) (σ : Rs) : Prop where
  rd : RdZ w wr (w.heap.size + 1) σ
  d0 : wr.heap[w.heap.size]? = some (.cells #[.slice none 0 0, .slice none 0 0, .slice none 0 0] 34 (0, 0))
  ob : wr.heap[w.heap.size + 2]? = some (.cells #[vb, vs, vw] 34 (0, 0))
  b : wr.ownsRow w.heap.size 5 1 vb bs.length (bs.map (Value.int .u8))
  s : wr.ownsRow w.heap.size 94 2 vs ss.length (ss.flatMap encSym)
  t : wr.ownsRow w.heap.size 97 3 vw ws.length (ws.flatMap encWnt)
  bi : In8 bs
  sn : ∀ x ∈ ss, x.1.size ≤ 255
  tn : ∀ x ∈ ws, x.2.2.size ≤ 255
section
variable {w wr w' : World} {vb vs vw : Value} {bs : Bs} {ss : List Sym} {ws : List Wnt} {σ σ' : Rs}
theorem DecZ.up (h : DecZ w wr vb vs vw bs ss ws σ) (hq : Q wr w') : DecZ w w' vb vs vw bs ss ws σ :=
  ⟨h.rd.up hq, (hq.below.block _ (Array.getElem?_eq_some_iff.1 h.d0).1).trans h.d0, (hq.below.block _ (Array.getElem?_eq_some_iff.1 h.ob).1).trans h.ob, own_q h.b hq, own_q h.s hq, own_q h.t hq, h.bi, h.sn, h.tn⟩
theorem own_rbZ {B e s n rb : Nat} {v : Value} {xs : List Value} {cs : Array Value} (h : w.ownsRow B e s v n xs) (hb : w.heap[rb]? = some (.cells cs 118 (0, 0))) (he : e ≠ 118) (hg : w.grownBy w' (some rb)) : w'.ownsRow B e s v n xs := by
  refine World.ownsRow.kept h hg ?_
  cases hv : v.ownBlock with
  | none => exact .inl rfl
  | some g =>
    refine .inr fun e2 => ?_
    cases e2
    obtain ⟨cs, h1⟩ := own_blk h hv
    rw [hb] at h1
    injection h1 with h1
    injection h1 with _ h1
    exact he h1.symm
theorem DecZ.reader (h : DecZ w wr vb vs vw bs ss ws σ) (hr : RdZ w w' (w.heap.size + 1) σ') (hg : wr.grownBy w' (some (w.heap.size + 1))) : DecZ w w' vb vs vw bs ss ws σ' := by
  obtain ⟨l, hb, _⟩ := h.rd.st
  exact ⟨hr, (hg.block _ (Array.getElem?_eq_some_iff.1 h.d0).1 (by simp)).trans h.d0, (hg.block _ (Array.getElem?_eq_some_iff.1 h.ob).1 (by simp)).trans h.ob, own_rbZ h.b hb (by decide) hg, own_rbZ h.s hb (by decide) hg, own_rbZ h.t hb (by decide) hg, h.bi, h.sn, h.tn⟩
theorem RdZ.set {rb g j : Nat} {u : Value} {W0 : World} (h : RdZ W0 w rb σ) (hg : W0.heap.size ≤ g) (hne : rb ≠ g) : RdZ W0 (w.setCell ⟨g, j, none⟩ u) rb σ := by
  obtain ⟨h1, h2, ⟨l, h3, h4, h5⟩, h6⟩ := h
  exact ⟨h1.set hg _, h2, ⟨l, blk_set_ne h3 hne, h4, h5⟩, h6⟩
theorem RdZ.grown {rb : Nat} {W0 : World} {B e s n : Nat} {v : Value} {xs : List Value} (h : RdZ W0 w rb σ) (ho : w.ownsRow B e s v n xs) (hB : W0.heap.size ≤ B) (he : e ≠ 118) (hg : w.grownBy w' v.ownBlock) : RdZ W0 w' rb σ := by
  obtain ⟨h1, h2, ⟨l, h3, h4, h5⟩, h6⟩ := h
  exact ⟨q_grown h1 hg (fun k hk => by have := (ho.lt k hk).1; omega), h2, ⟨l, blk_other h3 ho hg he.symm, h4, h5⟩, h6⟩
theorem DecZ.bytes (h : DecZ w wr vb vs vw bs ss ws σ) {v : Value} {ys : Bs} (hv : wr.ownsRow w.heap.size 5 1 v ys.length (ys.map (Value.int .u8))) (hi : In8 ys) : DecZ w (wr.setCell ⟨w.heap.size + 2, 0, none⟩ v) v vs vw ys ss ws σ :=
  ⟨h.rd.set (by omega) (by omega), blk_set_ne h.d0 (by omega), blk_set h.ob (j := 0) _, own_set_other hv h.ob (by decide), own_set_other h.s h.ob (by decide), own_set_other h.t h.ob (by decide), hi, h.sn, h.tn⟩
theorem DecZ.sym (h : DecZ w wr vb vs vw bs ss ws σ) {v : Value} {x : Sym} (hv : w'.ownsRow w.heap.size 94 2 v (ss.length + 1) (ss.flatMap encSym ++ encSym x)) (hg : wr.grownBy w' vs.ownBlock) (hx : x.1.size ≤ 255) : DecZ w (w'.setCell ⟨w.heap.size + 2, 1, none⟩ v) vb v vw bs (ss ++ [x]) ws σ := by
  have ho := blk_other h.ob h.s hg (by decide)
  have hd := blk_other h.d0 h.s hg (by decide)
  refine ⟨(h.rd.grown h.s (Nat.le_refl _) (by decide) hg).set (by omega) (by omega), blk_set_ne hd (by omega), blk_set ho (j := 1) _, own_set_other (own_other h.b h.s hg (by decide)) ho (by decide), ?_, own_set_other (own_other h.t h.s hg (by decide)) ho (by decide), h.bi, fun y hy => (List.mem_append.1 hy).elim (h.sn y) (fun e => by rw [List.mem_singleton.1 e]; exact hx), h.tn⟩
  rw [List.length_append, List.flatMap_append]
  simpa using own_set_other hv ho (by decide)
theorem DecZ.wnt (h : DecZ w wr vb vs vw bs ss ws σ) {v : Value} {x : Wnt} (hv : w'.ownsRow w.heap.size 97 3 v (ws.length + 1) (ws.flatMap encWnt ++ encWnt x)) (hg : wr.grownBy w' vw.ownBlock) (hx : x.2.2.size ≤ 255) : DecZ w (w'.setCell ⟨w.heap.size + 2, 2, none⟩ v) vb vs v bs ss (ws ++ [x]) σ := by
  have ho := blk_other h.ob h.t hg (by decide)
  have hd := blk_other h.d0 h.t hg (by decide)
  refine ⟨(h.rd.grown h.t (Nat.le_refl _) (by decide) hg).set (by omega) (by omega), blk_set_ne hd (by omega), blk_set ho (j := 2) _, own_set_other (own_other h.b h.t hg (by decide)) ho (by decide), own_set_other (own_other h.s h.t hg (by decide)) ho (by decide), ?_, h.bi, h.sn, fun y hy => (List.mem_append.1 hy).elim (h.tn y) (fun e => by rw [List.mem_singleton.1 e]; exact hx)⟩
  rw [List.length_append, List.flatMap_append]
  simpa using own_set_other hv ho (by decide)
theorem DecZ.done (h : DecZ w wr vb vs vw bs ss ws σ) (u0 u1 u2 : Value) :
    Q w (((wr.setCell ⟨w.heap.size, 0, none⟩ u0).setCell ⟨w.heap.size, 1, none⟩ u1).setCell ⟨w.heap.size, 2, none⟩ u2) ∧
    (((wr.setCell ⟨w.heap.size, 0, none⟩ u0).setCell ⟨w.heap.size, 1, none⟩ u1).setCell ⟨w.heap.size, 2, none⟩ u2).ownsRow w.heap.size 5 1 vb bs.length (bs.map (Value.int .u8)) ∧
    (((wr.setCell ⟨w.heap.size, 0, none⟩ u0).setCell ⟨w.heap.size, 1, none⟩ u1).setCell ⟨w.heap.size, 2, none⟩ u2).ownsRow w.heap.size 94 2 vs ss.length (ss.flatMap encSym) ∧
    (((wr.setCell ⟨w.heap.size, 0, none⟩ u0).setCell ⟨w.heap.size, 1, none⟩ u1).setCell ⟨w.heap.size, 2, none⟩ u2).ownsRow w.heap.size 97 3 vw ws.length (ws.flatMap encWnt) := by
  have b1 := blk_set h.d0 (j := 0) u0
  have b2 := blk_set b1 (j := 1) u1
  have a1 : ∀ {e s n : Nat} {v : Value} {xs : List Value}, e ≠ 34 → wr.ownsRow w.heap.size e s v n xs → (((wr.setCell ⟨w.heap.size, 0, none⟩ u0).setCell ⟨w.heap.size, 1, none⟩ u1).setCell ⟨w.heap.size, 2, none⟩ u2).ownsRow w.heap.size e s v n xs := fun he ho =>
    own_set_other (own_set_other (own_set_other ho h.d0 he) b1 he) b2 he
  exact ⟨((h.rd.q.set (Nat.le_refl _) _).set (Nat.le_refl _) _).set (Nat.le_refl _) _, a1 (by decide) h.b, a1 (by decide) h.s, a1 (by decide) h.t⟩
end
theorem takeR_len (n : Nat) (σ : Rs) : (takeR n σ).1.length = n := by
  unfold takeR
  split
  · rw [List.length_take]; omega
  · simp
theorem takeR_in {n : Nat} {σ : Rs} (h : In8 σ.1) : In8 (takeR n σ).1 := by
  unfold takeR
  split
  · exact h.take n
  · intro x hx
    rw [(List.mem_replicate.1 hx).2]
    omega
theorem oneR_in {σ : Rs} (h : In8 σ.1) : 0 ≤ (oneR σ).1 ∧ (oneR σ).1 < 256 := by
  have hl := takeR_len 1 σ
  have hi := takeR_in (n := 1) h
  unfold oneR
  obtain ⟨x, hx⟩ : ∃ x, (takeR 1 σ).1 = [x] := by
    match (takeR 1 σ).1, hl with
    | [x], _ => exact ⟨x, rfl⟩
  rw [hx] at hi ⊢
  exact hi x (by simp)
theorem twoR_in {σ : Rs} (h : In8 σ.1) : 0 ≤ (twoR σ).1 ∧ (twoR σ).1 < 65536 := by
  have hl := takeR_len 2 σ
  have hi := takeR_in (n := 2) h
  unfold twoR num2
  obtain ⟨x, y, hx⟩ : ∃ x y, (takeR 2 σ).1 = [x, y] := by
    match (takeR 2 σ).1, hl with
    | [x, y], _ => exact ⟨x, y, rfl⟩
  rw [hx] at hi ⊢
  have h1 := hi x (by simp)
  have h2 := hi y (by simp)
  simp only [List.headD_cons, List.tail_cons]
  omega
theorem nameR_len {σ : Rs} (h : In8 σ.1) : (nameR σ).1.length ≤ 255 := by
  have := oneR_in h
  unfold nameR
  rw [takeR_len]
  omega
set_option maxRecDepth 100000 in
set_option maxHeartbeats 4000000 in
theorem rtake_any (W0 w : World) (rb n : Nat) (σ : Rs) (hR : RdZ W0 w rb σ) (hn : n ≤ 70000) :
    Calls Try.prog 75 #[.pointer (some ⟨rb, 0, none⟩), .int .i64 (n : Nat)] w fun e w' => ∃ l : SlV Int, e = .returned l.val ∧ l.xs = (takeR n σ).1 ∧ l.n = n ∧ B8 w' l ∧ RdZ W0 w' rb (takeR n σ).2 ∧ w.grownBy w' (some rb) := by
  obtain ⟨hq, hlt, ⟨⟨A, m, c, xs⟩, hblk, hb8, hxs⟩, hi8⟩ := hR
  dsimp only at hxs
  unfold SlV.val at hblk
  dsimp only at hblk
  have hm := hb8.sl.len
  have hcap := hb8.sl.cap
  have hmost := hb8.sl.most
  dsimp only at hm hcap hmost
  have hni : (n : Int) ≤ 70000 := by omega
  have r0 : w.cell? ⟨rb, 0, none⟩ = some (.slice A m c) := cell_blkJ (j := 0) hblk rfl
  have r1 : w.cell? ⟨rb, 1, none⟩ = some (.bool σ.2) := cell_blkJ (j := 1) hblk rfl
  have f0 : w.frozen? ⟨rb, 0, none⟩ = false := free_blk hblk 0
  have f1 : w.frozen? ⟨rb, 1, none⟩ = false := free_blk hblk 1
  have hrb : rb < w.heap.size := (Array.getElem?_eq_some_iff.1 hblk).1
  by_cases hlen : m < n
  · have hd : decide ((m : Int) < (n : Int)) = true := by simp; omega
    have hd2 : decide (m < n) = true := by simp; omega
    have hts : takeR n σ = (List.replicate n 0, (σ.1, true)) := by unfold takeR; rw [if_neg (by rw [← hxs, hm]; omega)]
    rw [hts]
    have HB8 := hide hb8
    clear hb8
    go_enter Try.func75, Try.ntmps75
    go_wp2_with (at_make; refine wpList_mk rfl _ _ rfl Try.underlying30 (show (Try.prog.info? 5).map (fun i => (i.zero, i.size, i.bytes)) = some (some (.int .u8 0), 1, 1) by kernel_rfl) rfl w.heap.size (n := n) rfl rfl rfl rfl ?_ ?_ ?_ ?_; (focus omega); (focus omega); (focus (simp)); intro w3 hown3 hq3 hlt3; have HOW3 := hide hown3; have HQ3 := hide hq3; clear hown3 hq3)
    go_ret
    obtain ⟨w2, hw2⟩ : ∃ w2, w.setCell ⟨rb, 1, none⟩ (.bool true) = w2 := ⟨_, rfl⟩
    have hb2 : w2.heap[rb]? = some (.cells #[.slice A m c, .bool true] 118 (0, 0)) := by
      rw [← hw2]
      exact blk_set hblk (j := 1) _
    have hg2 : w.grownBy w2 (some rb) := by rw [← hw2]; exact grown_cell
    have h3 : Q w2 w3 := by rw [← hw2]; exact HQ3.out
    have hq02 : Q W0 w2 := by rw [← hw2]; exact hq.set (by dsimp only; omega) _
    have how : isOwn w.heap.size (List.replicate n 0) (.slice (some ⟨w.heap.size, 0, none⟩) n n) w3 := by
      unfold isOwn
      rw [List.length_replicate, List.map_replicate]
      simpa using HOW3.out
    obtain ⟨l, hl1, hl2, hl3, hl4⟩ := B8.own how
    refine ⟨l, by rw [← hl1]; rfl, hl2, by rw [hl3, List.length_replicate], hl4, ⟨hq02.trans h3, hlt, ⟨⟨A, m, c, xs⟩, (h3.below.block rb (Array.getElem?_eq_some_iff.1 hb2).1).trans hb2, HB8.out, hxs⟩, hi8⟩, hg2.trans (grown_q h3 _)⟩
  · have hd : decide ((m : Int) < (n : Int)) = false := by simp; omega
    have hd2 : decide (m < n) = false := by simp; omega
    have hts : takeR n σ = (σ.1.take n, (σ.1.drop n, σ.2)) := by unfold takeR; rw [if_pos (by rw [← hxs, hm]; omega)]
    rw [hts]
    have hnc : (n : Int) ≤ (c : Int) := by omega
    have hnm : (n : Int) ≤ (m : Int) := by omega
    have htk : B8 W0 ⟨A, n, c, xs.take n⟩ := by
      refine ⟨⟨?_, by rw [List.length_take]; dsimp only; omega, (by dsimp only; omega), hmost⟩, fun hA => ?_⟩
      · have := hb8.sl.rd.take n
        rw [flat8, ← List.map_take] at this
        rw [flat8]
        exact this
      · have := hb8.nil_ hA
        dsimp only at this
        exact ⟨(by dsimp only; omega), this.2⟩
    have HBLK := hide hblk
    have HB8 := hide hb8
    have HTK := hide htk
    clear htk hblk hb8 r1 f1
    go_enter Try.func75, Try.ntmps75
    go_wp2_with fail
    · have hmn : m = n := by omega
      have hcn : n = c := by omega
      subst hcn
      obtain ⟨w4, hw4⟩ : ∃ w4, w.setCell ⟨rb, 0, none⟩ (.slice A (m - n) 0) = w4 := ⟨_, rfl⟩
      have hb4 : w4.heap[rb]? = some (.cells #[.slice A (m - n) 0, .bool σ.2] 118 (0, 0)) := by
        rw [← hw4]
        exact blk_set HBLK.out (j := 0) _
      have hg4 : w.grownBy w4 (some rb) := by rw [← hw4]; exact grown_cell
      have hq4 : Q W0 w4 := by rw [← hw4]; exact hq.set (by dsimp only; omega) _
      rw [hw4]
      go_ret
      refine ⟨⟨A, _, _, xs.take _⟩, rfl, by dsimp only; rw [hxs], rfl, HTK.out.up hq4, ⟨hq4, hlt, ⟨⟨A, m - n, 0, []⟩, hb4, ⟨⟨.inl rfl, (by dsimp only; simp; omega), (by dsimp only; omega), Nat.zero_le _⟩, fun _ => (by dsimp only; omega)⟩, ?_⟩, hi8.drop n⟩, hg4⟩
      dsimp only
      rw [← hxs]
      exact (List.drop_eq_nil_of_le (by omega)).symm
    · obtain ⟨w4, hw4⟩ : ∃ w4, w.setCell ⟨rb, 0, none⟩ (.slice (A.map fun x => x.add n) (m - n) (c - n)) = w4 := ⟨_, rfl⟩
      have hb4 : w4.heap[rb]? = some (.cells #[.slice (A.map fun x => x.add n) (m - n) (c - n), .bool σ.2] 118 (0, 0)) := by
        rw [← hw4]
        exact blk_set HBLK.out (j := 0) _
      have hg4 : w.grownBy w4 (some rb) := by rw [← hw4]; exact grown_cell
      have hq4 : Q W0 w4 := by rw [← hw4]; exact hq.set (by dsimp only; omega) _
      rw [hw4]
      go_ret
      exact ⟨⟨A, n, c, xs.take n⟩, rfl, by dsimp only; rw [hxs], rfl, HTK.out.up hq4, ⟨hq4, hlt, ⟨⟨A.map fun x => x.add n, m - n, c - n, xs.drop n⟩, hb4, B8.drop HB8.out (by omega), by dsimp only; rw [hxs]⟩, hi8.drop n⟩, hg4⟩
def numL : Bs → Int
  | [] => 0
  | x :: r => x + 256 * numL r
theorem numL_drop {l : Bs} {k : Nat} {x : Int} (h : l[k]? = some x) : numL (l.drop k) = x + 256 * numL (l.drop (k + 1)) := by
  obtain ⟨hk, e⟩ := List.getElem?_eq_some_iff.1 h
  rw [List.drop_eq_getElem_cons hk, e]
  rfl
set_option maxRecDepth 100000 in
set_option maxHeartbeats 4000000 in
theorem number_any (W0 w : World) (rb n : Nat) (σ : Rs) (hR : RdZ W0 w rb σ) (hn : 0 < n) (hn2 : n ≤ 2) : Calls Try.prog 74 #[.pointer (some ⟨rb, 0, none⟩), .int .i64 (n : Nat)] w (RPostZ W0 w rb (.int .i64 (numL (takeR n σ).1)) (takeR n σ).2) := by
  have HT := hide (rtake_any W0 w rb n σ hR (by omega))
  have hl := takeR_len n σ
  have hi := takeR_in (n := n) hR.i8
  obtain ⟨L, hL⟩ : ∃ L, (takeR n σ).1 = L := ⟨_, rfl⟩
  rw [hL] at HT hl hi ⊢
  have hni : (n : Int) ≤ 2 := by omega
  have hn0 : (0 : Int) < (n : Int) := by omega
  have hbound : ∀ k, 0 ≤ numL (L.drop k) ∧ numL (L.drop k) < 65536 := by
    intro k
    have : ∀ M : Bs, In8 M → M.length ≤ 2 → 0 ≤ numL M ∧ numL M < 65536 := by
      intro M hM hml
      match M, hml with
      | [], _ => simp [numL]
      | [x], _ => have := hM x (by simp); simp [numL]; omega
      | [x, y], _ => have := hM x (by simp); have := hM y (by simp); simp [numL]; omega
    exact this _ (hi.drop k) (by rw [List.length_drop]; omega)
  have HB := hide hbound
  have HL := hide hl
  have HI := hide hi
  clear hR hl hi hL hbound
  go_enter Try.func74, Try.ntmps74
  go_wp2_with fail
  refine HT.out.mono ?_
  rintro e w2 ⟨l, rfl, hx, hln, hb, hr, hg⟩
  obtain ⟨lA, ln, lc, lx⟩ := l
  dsimp only at hx hln
  subst hx
  subst hln
  unfold SlV.val
  dsimp only
  have HBB := hide hb
  have HR := hide hr
  have HG := hide hg
  clear hb hr hg
  go_wp2_with fail
  go_loopw [6, 7] (fun vo vi wr => ∃ k : Nat, k ≤ ln ∧ vi = .int .i64 ((k : Int) - 1) ∧ vo = .int .i64 (numL (lx.drop k)) ∧ Q w2 wr) (fun _ vi _ => (intOf vi + 1).toNat)
  case atStart => exact ⟨ln, by omega, rfl, by rw [List.drop_eq_nil_of_le (by rw [HL.out]; exact Nat.le_refl _)]; rfl, Q.refl _⟩
  case round =>
    obtain ⟨k, hk, rfl, rfl, hq⟩ := hrel
    have HQ := hide hq
    rcases Nat.eq_zero_or_pos k with h0 | h0
    · subst h0
      have HZ := hide (show numL (lx.drop 0) = numL lx by rw [List.drop_zero])
      obtain ⟨N, hN⟩ : ∃ N, numL (lx.drop 0) = N := ⟨_, rfl⟩
      rw [hN] at HZ ⊢
      clear hN hq
      go_wp2_with fail
      go_ret
      exact ⟨by rw [← HZ.out]; rfl, HR.out.up HQ.out, HG.out.trans (grown_q HQ.out _)⟩
    · obtain ⟨k, rfl⟩ : ∃ k', k = k' + 1 := ⟨k - 1, by omega⟩
      obtain ⟨b0, o0, x, e0, hb0, hx0, hc0⟩ := (HBB.out.up hq).sl.at_ (fun _ => rfl) (by decide) k (by dsimp only; omega)
      dsimp only at e0 hx0
      subst e0
      have y0 : wr.cell? ⟨b0, o0 + k, none⟩ = some (.int .u8 x) := by have := hc0 0 _ rfl; simpa using this
      have hxi := HI.out x (List.mem_of_getElem? hx0)
      have hbk := HB.out (k + 1)
      have HS := hide (numL_drop hx0)
      obtain ⟨N, hN⟩ : ∃ N, numL (lx.drop (k + 1)) = N := ⟨_, rfl⟩
      rw [hN] at hbk HS ⊢
      have e1 : ((k + 1 : Nat) : Int) - 1 = (k : Int) := by omega
      rw [e1]
      have hki : (k : Int) < (ln : Int) := by omega
      have hki2 : (k : Int) ≤ 1 := by omega
      have hd : decide ((0 : Int) ≤ (k : Int)) = true := by simp
      have hwr : IntKind.i64.wrap (N * 256) = N * 256 := by rw [IntKind.wrap_i64]; omega
      clear hN hc0 hx0 hq
      go_wp2_with fail
      go_roundw
      case rel => exact ⟨k, by omega, rfl, by rw [HS.out]; congr 1; omega, HQ.out⟩
      case measure => simp [intOf] <;> omega
end Go.Proofs.Ytiilkiggfjpibaa
