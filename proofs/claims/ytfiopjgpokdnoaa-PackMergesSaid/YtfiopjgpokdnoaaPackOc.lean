/- What holds in each round of the sort's merge. Conditions: as each theorem says. -/
import Derived.Test.YtfiopjgpokdnoaaPackOb
namespace Go.Proofs.Ytfiopjgpokdnoaa
open Go.RowKit PO
set_option linter.unusedVariables false
theorem Rd.other {w : World} {B : Nat} {b o : Nat} {xs : List Value} (h : Rd w B (some ⟨b, o, none⟩) xs) {g j : Nat} (hne : g ≠ b) (u : Value) : Rd (w.setCell ⟨g, j, none⟩ u) B (some ⟨b, o, none⟩) xs := by
  rcases h with h | ⟨b', o', e, h2, h3⟩
  · exact .inl h
  · cases e
    refine .inr ⟨b, o, rfl, h2, fun i v hv => ?_⟩
    rw [← h3 i v hv]
    exact World.cell?_setCell_other _ _ _ _ (by simp <;> omega)
theorem Rd.row {w w' : World} {B B' : Nat} {b o : Nat} {xs : List Value} {row : Option Nat} (h : Rd w B (some ⟨b, o, none⟩) xs) (hg : w.grownBy w' row) (hne : some b ≠ row) (hb : b < w.heap.size) (hB : b < B') : Rd w' B' (some ⟨b, o, none⟩) xs := by
  rcases h with h | ⟨b', o', e, h2, h3⟩
  · exact .inl h
  · cases e
    exact .inr ⟨b, o, rfl, hB, fun i v hv => (World.cell?_of_block (hg.block b hb hne)).trans (h3 i v hv)⟩
theorem grown_q {a b : World} (h : Q a b) (row : Option Nat) : a.grownBy b row := ⟨h.below.os, h.below.tape, h.below.output, h.size, fun i hi _ => h.below.block i hi⟩
theorem grown_drew {a b : World} {row : Option Nat} (h : a.grownBy b row) : a.grownBy b.drew row := h.trans (grown_q (Q.refl b).drew row)
theorem grown_set {a b : World} {g B e size n c : Nat} {xs : List Value} (h : a.grownBy b (some g)) (ho : b.ownsRow B e size (.slice (some ⟨g, 0, none⟩) n c) n xs) (j : Nat) (u : Value) : a.grownBy (b.setCell ⟨g, j, none⟩ u) (some g) :=
  h.trans (ho.stored j u).2
theorem own_base {w : World} {B B' : Nat} {e : TypeId} {size : Nat} {v : Value} {n : Nat} {xs : List Value} (h : w.ownsRow B e size v n xs) (hb : B' ≤ B) : w.ownsRow B' e size v n xs := by
  refine ⟨h.1, ?_⟩
  rcases h.2 with h2 | ⟨g, cap, cur, h1, h2, h3⟩
  · exact .inl h2
  · exact .inr ⟨g, cap, cur, h1, Nat.le_trans hb h2, h3⟩
structure CutAB {α : Type} (enc : α → List Value) (E : Nat) (w : World) (h m : Nat) (LA LB : List α) (va vb : Value) (wx : World) (g1 c1 g2 c2 : Nat) : Prop where
  hva : va = .slice (some ⟨g1, 0, none⟩) h c1
  hvb : vb = .slice (some ⟨g2, 0, none⟩) m c2
  q : Q w wx
  o1 : wx.ownsRow w.heap.size E 1 (.slice (some ⟨g1, 0, none⟩) h c1) h (LA.flatMap enc)
  o2 : wx.ownsRow w.heap.size E 1 (.slice (some ⟨g2, 0, none⟩) m c2) m (LB.flatMap enc)
  b1 : w.heap.size ≤ g1
  b2 : w.heap.size ≤ g2
  ne : g1 ≠ g2
  l1 : g1 < wx.heap.size
  l2 : g2 < wx.heap.size
  n1 : h ≤ c1
  n2 : m ≤ c2
  m1 : c1 ≤ 9223372036854775807
  m2 : c2 ≤ 9223372036854775807
theorem CutAB.of {α : Type} {enc : α → List Value} {E : Nat} {w w1 w2 : World} {h m : Nat} {LA LB : List α} {v1 v2 : Value} (hq1 : Q w.drew w1) (ho1 : w1.ownsRow w.drew.heap.size E 1 v1 h (LA.flatMap enc)) (hq2 : Q w1 w2) (ho2 : w2.ownsRow w1.heap.size E 1 v2 m (LB.flatMap enc)) (h0 : 0 < h) (m0 : 0 < m) :
    ∃ g1 c1 g2 c2, CutAB enc E w h m LA LB v1 v2 w2 g1 c1 g2 c2 := by
  have hs1 : w.heap.size ≤ w1.heap.size := ((Q.refl w).drew.trans hq1).size
  have ho1' := own_q ho1 hq2
  obtain ⟨g1, c1, rfl, hg1, hg1l, hn1, hm1, _, _⟩ := own_at ho1 h0
  obtain ⟨g2, c2, rfl, hg2, hg2l, hn2, hm2, _, _⟩ := own_at ho2 m0
  unfold maxLen at hm1 hm2
  have hg1w : w.heap.size ≤ g1 := by simpa using hg1
  have := hq2.size
  exact ⟨g1, c1, g2, c2, ⟨rfl, rfl, ((Q.refl w).drew.trans hq1).trans hq2, own_base ho1' (by simp), own_base ho2 hs1, hg1w, by omega, by omega, by omega, hg2l, hn1, hn2, by omega, by omega⟩⟩
section
variable {α : Type} {lt : α → α → Bool} {enc : α → List Value}
structure SR (lt : α → α → Bool) (enc : α → List Value) (w : World) (B E g n c g1 g2 : Nat) (xs M : List α) (tot : Nat) (va vb vn vi : Value) (wr : World) (k : Nat) (pre a b : List α) (cnt oa ca ob cb : Nat) : Prop where
  kn : k ≤ n
  hva : va = .slice (some ⟨g1, oa, none⟩) a.length ca
  hvb : vb = .slice (some ⟨g2, ob, none⟩) b.length cb
  hvn : vn = .int .i64 (cnt : Nat)
  hvi : vi = .int .i64 (k : Nat)
  lp : pre.length = k
  lab : a.length + b.length = n - k
  m1 : pre ++ (mrg lt (n - k) a b).1 = M
  m2 : cnt + (mrg lt (n - k) a b).2 = tot
  row : wr.ownsRow B E 1 (.slice (some ⟨g, 0, none⟩) n c) n ((pre ++ xs.drop k).flatMap enc)
  gr : w.grownBy wr (some g)
  ra : Rd wr wr.heap.size (some ⟨g1, oa, none⟩) (a.flatMap enc)
  rb : Rd wr wr.heap.size (some ⟨g2, ob, none⟩) (b.flatMap enc)
  lca : a.length ≤ ca
  lcb : b.length ≤ cb
  mca : ca ≤ 9223372036854775807
  mcb : cb ≤ 9223372036854775807
theorem flatMap_one {enc : α → List Value} {el : α → Value} (he : ∀ x, enc x = [el x]) : ∀ xs : List α, xs.flatMap enc = xs.map el
  | [] => rfl
  | x :: xs => by rw [List.flatMap_cons, he, flatMap_one he xs]; rfl
theorem row_set {w : World} {B E g n c k : Nat} {xs pre : List α} {el : α → Value} (he : ∀ x, enc x = [el x]) (h : w.ownsRow B E 1 (.slice (some ⟨g, 0, none⟩) n c) n ((pre ++ xs.drop k).flatMap enc)) (hp : pre.length = k) (hk : k < xs.length) (y : α) :
    (w.setCell ⟨g, k, none⟩ (el y)).ownsRow B E 1 (.slice (some ⟨g, 0, none⟩) n c) n (((pre ++ [y]) ++ xs.drop (k + 1)).flatMap enc) := by
  have := own_set h k (el y)
  rw [flatMap_one he] at this ⊢
  have e : ((pre ++ xs.drop k).map el).set k (el y) = ((pre ++ [y]) ++ xs.drop (k + 1)).map el := by
    rw [List.drop_eq_getElem_cons hk, List.map_append, List.set_append_right _ _ (by simp [hp]), List.length_map, hp, Nat.sub_self, List.map_cons, List.set_cons_zero]
    simp
  rw [e] at this
  exact this
variable {w : World} {B E g n c g1 g2 : Nat} {xs M : List α} {tot : Nat} {va vb vn vi : Value} {wr wz : World} {k : Nat} {pre a b : List α} {cnt oa ca ob cb : Nat}
theorem SR.headA (h : SR lt enc w B E g n c g1 g2 xs M tot va vb vn vi wr k pre a b cnt oa ca ob cb) {el : α → Value} (he : ∀ x, enc x = [el x]) {x : α} {a' : List α} (ha : a = x :: a') : wr.cell? ⟨g1, oa, none⟩ = some (el x) ∧ g1 < wr.heap.size := by
  subst ha
  obtain ⟨b, o, e, hb, hc⟩ := h.ra.at_ (by rw [List.flatMap_cons, he]; simp)
  cases e
  have := hc 0 (by rw [List.flatMap_cons, he]; simp)
  rw [Nat.add_zero] at this
  refine ⟨this.trans ?_, hb⟩
  simp [he]
theorem SR.headB (h : SR lt enc w B E g n c g1 g2 xs M tot va vb vn vi wr k pre a b cnt oa ca ob cb) {el : α → Value} (he : ∀ x, enc x = [el x]) {x : α} {b' : List α} (hb : b = x :: b') : wr.cell? ⟨g2, ob, none⟩ = some (el x) ∧ g2 < wr.heap.size := by
  subst hb
  obtain ⟨b, o, e, hb, hc⟩ := h.rb.at_ (by rw [List.flatMap_cons, he]; simp)
  cases e
  have := hc 0 (by rw [List.flatMap_cons, he]; simp)
  rw [Nat.add_zero] at this
  refine ⟨this.trans ?_, hb⟩
  simp [he]
theorem SR.memA (h : SR lt enc w B E g n c g1 g2 xs M tot va vb vn vi wr k pre a b cnt oa ca ob cb) {x : α} {a' : List α} (ha : a = x :: a') : x ∈ M := by
  rw [← h.m1, List.mem_append]
  exact .inr ((mrg_perm lt _ _ _ (Nat.le_of_eq h.lab)).mem_iff.2 (by rw [ha]; simp))
theorem SR.memB (h : SR lt enc w B E g n c g1 g2 xs M tot va vb vn vi wr k pre a b cnt oa ca ob cb) {y : α} {b' : List α} (hb : b = y :: b') : y ∈ M := by
  rw [← h.m1, List.mem_append]
  exact .inr ((mrg_perm lt _ _ _ (Nat.le_of_eq h.lab)).mem_iff.2 (by rw [hb]; simp))
theorem SR.takeB (h : SR lt enc w B E g n c g1 g2 xs M tot va vb vn vi wr k pre a b cnt oa ca ob cb) (hq : Q wr wz) {el : α → Value} (he : ∀ x, enc x = [el x]) (h1 : g1 ≠ g) (h2 : g2 ≠ g) (hl : xs.length = n) {y : α} {b' : List α} (hb : b = y :: b')
    (hlt : a = [] ∨ ∃ x a', a = x :: a' ∧ lt y x = true) {ob' : Nat} (ho : b' = [] ∨ ob' = ob + 1) {vb' vn' vi' : Value} (hv : vb' = .slice (some ⟨g2, ob', none⟩) b'.length (cb - 1)) (hn : vn' = .int .i64 ((cnt + a.length : Nat) : Int)) (hi : vi' = .int .i64 ((k + 1 : Nat) : Int)) :
    SR lt enc w B E g n c g1 g2 xs M tot va vb' vn' vi' (wz.drew.setCell ⟨g, k, none⟩ (el y)) (k + 1) (pre ++ [y]) a b' (cnt + a.length) oa ca ob' (cb - 1) := by
  have hlab := h.lab
  subst hb
  simp only [List.length_cons] at hlab
  have hk : k < n := by omega
  have hf : n - k = (n - (k + 1)) + 1 := by omega
  have hm1 := h.m1
  have hm2 := h.m2
  rw [hf] at hm1 hm2
  have hm : (mrg lt (n - (k + 1) + 1) a (y :: b')) = (y :: (mrg lt (n - (k + 1)) a b').1, (mrg lt (n - (k + 1)) a b').2 + a.length) := by
    rcases hlt with rfl | ⟨x, a', rfl, hlt⟩
    · rfl
    · rw [mrg, if_pos hlt]
      rfl
  rw [hm] at hm1 hm2
  have hrow := row_set he (own_q h.row hq.drew) h.lp (by omega) y
  refine ⟨hk, h.hva, hv, hn, hi, by simp [h.lp], by omega, by simpa using hm1, by simp only at hm2; omega, hrow, ?_, ?_, ?_, h.lca, by have := h.lcb; simp at this; omega, h.mca, by have := h.mcb; omega⟩
  · exact grown_set (h.gr.trans (grown_q hq.drew _)) (own_q h.row hq.drew) _ _
  · have := (h.ra.up hq.drew).other (g := g) (j := k) (fun e => h1 e.symm) (el y)
    simpa using this
  · rcases ho with rfl | rfl
    · exact .inl rfl
    · have h3 := h.rb
      rw [List.flatMap_cons, he] at h3
      have := ((h3.dropAt 1).up hq.drew).other (g := g) (j := k) (fun e => h2 e.symm) (el y)
      simpa using this
theorem SR.takeA (h : SR lt enc w B E g n c g1 g2 xs M tot va vb vn vi wr k pre a b cnt oa ca ob cb) (hq : Q wr wz) {el : α → Value} (he : ∀ x, enc x = [el x]) (h1 : g1 ≠ g) (h2 : g2 ≠ g) (hl : xs.length = n) {x : α} {a' : List α} (ha : a = x :: a')
    (hlt : b = [] ∨ ∃ y b', b = y :: b' ∧ lt y x = false) {oa' : Nat} (ho : a' = [] ∨ oa' = oa + 1) {va' vi' : Value} (hv : va' = .slice (some ⟨g1, oa', none⟩) a'.length (ca - 1)) (hi : vi' = .int .i64 ((k + 1 : Nat) : Int)) :
    SR lt enc w B E g n c g1 g2 xs M tot va' vb vn vi' (wz.drew.setCell ⟨g, k, none⟩ (el x)) (k + 1) (pre ++ [x]) a' b cnt oa' (ca - 1) ob cb := by
  have hlab := h.lab
  subst ha
  simp only [List.length_cons] at hlab
  have hk : k < n := by omega
  have hf : n - k = (n - (k + 1)) + 1 := by omega
  have hm1 := h.m1
  have hm2 := h.m2
  rw [hf] at hm1 hm2
  have hm : (mrg lt (n - (k + 1) + 1) (x :: a') b) = (x :: (mrg lt (n - (k + 1)) a' b).1, (mrg lt (n - (k + 1)) a' b).2) := by
    rcases hlt with rfl | ⟨y, b', rfl, hlt⟩
    · rfl
    · rw [mrg, if_neg (by simp [hlt])]
  rw [hm] at hm1 hm2
  have hrow := row_set he (own_q h.row hq.drew) h.lp (by omega) x
  refine ⟨hk, hv, h.hvb, h.hvn, hi, by simp [h.lp], by omega, by simpa using hm1, by simp only at hm2; omega, hrow, ?_, ?_, ?_, by have := h.lca; simp at this; omega, h.lcb, by have := h.mca; omega, h.mcb⟩
  · exact grown_set (h.gr.trans (grown_q hq.drew _)) (own_q h.row hq.drew) _ _
  · rcases ho with rfl | rfl
    · exact .inl rfl
    · have h3 := h.ra
      rw [List.flatMap_cons, he] at h3
      have := ((h3.dropAt 1).up hq.drew).other (g := g) (j := k) (fun e => h1 e.symm) (el x)
      simpa using this
  · have := (h.rb.up hq.drew).other (g := g) (j := k) (fun e => h2 e.symm) (el x)
    simpa using this
end
end Go.Proofs.Ytfiopjgpokdnoaa
