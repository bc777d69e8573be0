/- An append to a row of the call's own, told which block holds it behind it; layouts in new memory. part of the program's coder. Conditions: as each theorem says. -/
import Derived.Test.YtbgbalfhbficaaaCf10
namespace Go.Proofs.Ytbgbalfhbficaaa
open Go.RowKit
set_option linter.unusedVariables false
set_option linter.unusedSimpArgs false
theorem run_append_blk {P : Program} {w : World} (base : Nat) (t ty e : TypeId) (i : TypeInfo) (z : Value) (size bytes : Nat) (ht : P.underlying t = some (.slice e)) (hi : P.info? e = some i) (hz : i.zero = some z)
    (hsize : i.size = size) (hby : i.bytes = bytes) (hzs : z.cells.size = size) (hsz : 0 < size)
    (v : Value) (n : Nat) (xs : List Value) (hown : w.ownsRow base e size v n xs)
    (a : Addr) (m c : Nat) (news : List Value) (hl : news.length = m * size) (hnews : ∀ j u, news[j]? = some u → w.cell? (a.add j) = some u) (h1 : ∀ u ∈ news, u.oneCell' = true)
    (hm : 0 < m) (h63 : n + m ≤ maxLen) (hbytes : (n + m) * bytes ≤ 140737488355328) (hbase : base ≤ w.heap.size) :
    ∃ v' w', (Builtin.append_ #[t, t] ty #[v, .slice (some a) m c]).run P w = .ok v' w' ∧ w'.ownsRow base e size v' (n + m) (xs ++ news) ∧ w.grownBy w' v.ownBlock ∧ (v'.ownBlock = v.ownBlock ∨ v'.ownBlock = some w.heap.size) := by
  obtain ⟨v', w', hr, h2, h3, h4⟩ := run_append_own (P := P) w base t ty e i z size bytes ht hi hz hsize hby hzs hsz v n xs hown a m c news hl hnews h1 h63 hbytes hbase
  refine ⟨v', w', hr, h2, h3, ?_⟩
  subst hsize
  subst hby
  have hsmall : n + m ≤ 9223372036854775807 := by simp only [maxLen] at h63; omega
  rcases hown.2 with ⟨rfl, rfl⟩ | ⟨g, cap, cur, rfl, hbg, hg, hnc, hcm, hcs, htake⟩
  · have hr2 := run_append_nil (P := P) w t ty e i z ht hi hz a m c news hl hnews hm (by omega) (by have hb := hbytes; simp only [Nat.zero_add] at hb; omega)
    rw [hr] at hr2
    injection hr2 with e1 _
    subst e1
    exact .inr rfl
  · by_cases hroom : n + m ≤ cap
    · have hfit : n * i.size + news.length ≤ cur.size := by rw [hl, hcs, ← Nat.add_mul]; exact Nat.mul_le_mul_right _ hroom
      have hr2 := run_append_room (P := P) w t ty e i ht hi g n cap cur hg a m c news hl hnews h1 hroom hfit
      rw [hr] at hr2
      injection hr2 with e1 _
      subst e1
      exact .inl rfl
    · have holds : ∀ j u, xs[j]? = some u → w.cell? ((⟨g, 0, none⟩ : Addr).add j) = some u := hown.cells (g := g) rfl
      have hr2 := run_append_grow (P := P) w t ty e i z ht hi hz ⟨g, 0, none⟩ n cap xs hown.1 holds a m c news hl hnews (by omega) (by omega) (growslice_fits (by omega) hbytes)
      rw [hr] at hr2
      injection hr2 with e1 _
      subst e1
      exact .inr rfl
/-- one element, told which block -/
theorem wpList_app1f {P : Program} {t e size bytes : Nat} {w : World} {base : Nat} {ops : Array Oper} {rest : List Oper} {o : Oper} {a : Act} {Q' : Exit → Act → World → Prop} {v : Value} {n : Nat} {xs : List Value}
    (hgd : o.guard = none) (E : El P t e size bytes) (s x : Operand) (ho : o.op = .call { callee := .builtin .append, args := #[s, x], argTypes := #[t, t] })
    (hs : a.eval s = v) (hown : w.ownsRow base e size v n xs) {C : Array Value} {k : Nat} (hk : k = w.heap.size) (hx : a.eval x = .slice (some ⟨k, 0, none⟩) 1 1) (hC : C.size = size) (h1 : ∀ u ∈ C.toList, u.oneCell' = true)
    (hb : (n + 1) * bytes ≤ 140737488355328) (hbase : base ≤ w.heap.size)
    (h : ∀ v' w', w'.ownsRow base e size v' (n + 1) (xs ++ C.toList) → w.grownBy w' v.ownBlock → (v'.ownBlock = v.ownBlock ∨ v'.ownBlock = some (w.heap.size + 1)) → wpList P ops Q' rest (a.put o.dst v') w') : wpList P ops Q' (o :: rest) a (w.alloc (.cells C e)) := by
  obtain ⟨i, z, hi, hz, hsz, hby, hzs⟩ := E.inf
  subst hk
  have hle : n + 1 ≤ (n + 1) * bytes := Nat.le_mul_of_pos_right _ E.bpos
  refine wpList_plain hgd fun _ hK => ?_
  obtain ⟨v', w', hr, h2, h3, h4⟩ := run_append_blk (P := P) (w := w.alloc (.cells C e)) base t o.type e i z size bytes E.und hi hz hsz hby hzs E.pos v n xs (hown.alloc _) ⟨w.heap.size, 0, none⟩ 1 1 C.toList (by simpa using hC) (fun j u hu => by
    rw [addr_add, Nat.zero_add, World.cell?_alloc_new]
    simpa using hu) h1 (by decide) (by simp only [maxLen]; omega) hb (by simp; omega)
  unfold Oper.wp execOp
  simp only [ho, resolve, invoke, builtin, Sem.run_bind, Sem.run_pure, Result.andThen_ok, List.map_toArray, List.map_cons, List.map_nil, hs, hx, hr]
  exact hK _ _ (h v' w' h2 ((World.grownBy_alloc w _ _).trans h3) (by simpa using h4))
/-- where the rows of a layout lie -/
inductive LayB (P : Nat → Prop) : Lay → Prop
  | mk {k n : Int} {f : Bool} {A : Option Addr} {len cap : Nat} {parts : List Lay} : (∀ a, A = some a → P a.block) → (∀ p ∈ parts, LayB P p) → LayB P (.mk k n f A len cap parts)
theorem LayB.mono {P P2 : Nat → Prop} {l : Lay} (h : LayB P l) (hp : ∀ b, P b → P2 b) : LayB P2 l := by
  induction h with
  | mk h1 _ ih => exact .mk (fun a ha => hp _ (h1 a ha)) ih
/-- a layout none of whose rows is turned -/
theorem LayR.frame {w w' : World} {row : Option Nat} {l : Lay} (h : LayR w l) (hg : w.grownBy w' row) : LayB (fun b => some b ≠ row) l → LayR w' l := by
  induction h with
  | @mk k n f A len cap ps h1 h2 h3 h4 h5 _ ih =>
    intro hb
    cases hb with
    | mk b1 b2 =>
      refine .mk h1 h2 ⟨?_, h3.len, h3.cap, h3.most⟩ h4 h5 (fun p hp => ih p hp (b2 p hp))
      rcases h3.rd with h | ⟨b, o, e, hlt, hc⟩
      · exact .inl h
      · have hne := b1 _ e
        exact .inr ⟨b, o, e, Nat.lt_of_lt_of_le hlt hg.size, fun j u hu => hg.cell (hc j u hu) hne⟩
theorem blk_q {w w' : World} {g : Nat} {o : Obj} (h : w.heap[g]? = some o) (hq : Q w w') : w'.heap[g]? = some o := (hq.below.block g (Array.getElem?_eq_some_iff.1 h).1).trans h
theorem enc_v (l : Lay) : ∃ k n f A len cap, l.v = .agg #[.int .i64 k, .int .i64 n, .bool f, .slice A len cap] ∧ encL l = [.int .i64 k, .int .i64 n, .bool f, .slice A len cap] := by cases l; exact ⟨_, _, _, _, _, _, rfl, rfl⟩
end Go.Proofs.Ytbgbalfhbficaaa

namespace Go.Proofs.Ytbgbalfhbficaaa
open Go.RowKit
set_option linter.unusedVariables false
set_option linter.unusedSimpArgs false
theorem q_setRow {w0 w : World} {g : Nat} {cs : Array Value} (h : Q w0 w) (hg : w0.heap.size ≤ g) : Q w0 (w.setRow g cs) := q_grown h (grown_setRow w g cs) (fun k e => by injection e with e; omega)
/-- a region that stores (operation k) into a block of the call's own, whole -/
def CW (k : Nat) (W w2 : World) (g : Nat) (ty : TypeId) (xs ys : Array Value) (S : Nat → Bool) (f : Nat → Value) (X : World) : Prop :=
  Q W X ∧ w2.heap.size ≤ X.heap.size ∧ (∀ i, i < w2.heap.size → i ≠ g → X.heap[i]? = w2.heap[i]?) ∧ X.heap[g]? = some (.cells (if S k = true then ys else xs) ty (0, 0))
theorem CW.q {k : Nat} {W w2 : World} {g : Nat} {ty : TypeId} {xs ys : Array Value} {S S2 : Nat → Bool} {f f2 : Nat → Value} {w1 X : World} (hk : ∀ i, Ri.isIn [k] i = true → S2 i = S i ∧ f2 i = f i) (h : CW k W w2 g ty xs ys S f w1) (hq : Q w1 X) : CW k W w2 g ty xs ys S2 f2 X := by
  obtain ⟨x1, x2⟩ := hk k (by simp [Ri.isIn])
  obtain ⟨h1, h2, h3, h4⟩ := h
  refine ⟨h1.trans hq, Nat.le_trans h2 hq.size, fun i hi hne => (hq.below.block i (by omega)).trans (h3 i hi hne), ?_⟩
  rw [x1]
  exact (hq.below.block g (Array.getElem?_eq_some_iff.1 h4).1).trans h4
theorem CW.store {k : Nat} {W w2 : World} {g : Nat} {ty : TypeId} {xs ys : Array Value} {S : Nat → Bool} {f : Nat → Value} {X : World} (h : CW k W w2 g ty xs ys S f X) (hg : W.heap.size ≤ g) (v : Value) : CW k W w2 g ty xs ys (Ri.upd S k true) (Ri.upd f k v) (X.setRow g ys) := by
  obtain ⟨h1, h2, h3, h4⟩ := h
  refine ⟨q_setRow h1 hg, by have := (grown_setRow X g ys).size; omega, fun i hi hne => (setRow_other X g i _ hne).trans (h3 i hi hne), ?_⟩
  rw [Ri.upd_at, if_pos rfl]
  exact setRow_heap X g _ _ _ _ h4
set_option maxRecDepth 100000 in
set_option maxHeartbeats 2000000 in
theorem part_none {w : World} {l : Lay} (h : LayR w l) (hc : l.count ≤ 1048576) (wd : Int) (b : Bool) (ho : Okw wd l) (no : Int) (hk : ¬ (l.k = 4 ∨ l.k = 5 ∨ l.k = 6 ∨ l.k = 8)) : ∀ W, Q w W → Calls Try.prog 67 #[tgW wd b, l.v, .int .i64 no] W (R1 W (.tuple #[.int .i64 (stA wd l (no)), (stL l (no)).v, .int .i64 (stE l (no))])) := by
  intro W hqW
  unfold R1
  obtain ⟨k, n, f, A, len, cap, hlv⟩ : ∃ k n f A len cap, l.v = .agg #[.int .i64 k, .int .i64 n, .bool f, .slice A len cap] := by cases l; exact ⟨_, _, _, _, _, _, rfl⟩
  have HLV := hide hlv
  rw [hlv]
  clear hlv
  obtain ⟨w2, hw2⟩ : ∃ w2, ((W.alloc (.cells #[.int .i64 wd, .bool b] 60)).alloc (.cells #[.int .i64 k, .int .i64 n, .bool f, .slice A len cap] 24)).alloc (.cells #[.int .i64 0, .int .i64 0, .bool false, .slice none 0 0] 24) = w2 := ⟨_, rfl⟩
  obtain ⟨hq2, hs2, hd2, hc2, he2⟩ := box3 hw2
  have hb0 : W.heap.size < w2.heap.size := by omega
  have hb1 : W.heap.size + 1 < w2.heap.size := by omega
  have hb2 : W.heap.size + 2 < w2.heap.size := by omega
  have KA : Hid (∀ X, Q w2 X → X.cell? ⟨W.heap.size + 1, 0, none⟩ = some (.int .i64 k) ∧ X.cell? ⟨W.heap.size + 1, 1, none⟩ = some (.int .i64 n) ∧ X.cell? ⟨W.heap.size + 1, 2, none⟩ = some (.bool f) ∧ X.cell? ⟨W.heap.size + 1, 3, none⟩ = some (.slice A len cap) ∧ X.cell? ⟨W.heap.size, 0, none⟩ = some (.int .i64 wd) ∧ X.cell? ⟨W.heap.size, 1, none⟩ = some (.bool b)) := hide fun X hX => ⟨(hX.facts.1 _ 0 hb1).trans (hc2 0 _ rfl), (hX.facts.1 _ 1 hb1).trans (hc2 1 _ rfl), (hX.facts.1 _ 2 hb1).trans (hc2 2 _ rfl), (hX.facts.1 _ 3 hb1).trans (hc2 3 _ rfl), (hX.facts.1 _ 0 hb0).trans (hd2 0 _ rfl), (hX.facts.1 _ 1 hb0).trans (hd2 1 _ rfl)⟩
  have Z0 := hide (he2 0 _ rfl)
  have Z1 := hide (he2 1 _ rfl)
  have Z2 := hide (he2 2 _ rfl)
  have Z3 := hide (he2 3 _ rfl)
  have kb : w2.heap[W.heap.size + 2]? = some (.cells #[.int .i64 0, .int .i64 0, .bool false, .slice none 0 0] 24 (0, 0)) := by
    have h9 := heap_alloc_new ((W.alloc (.cells #[.int .i64 wd, .bool b] 60)).alloc (.cells #[.int .i64 k, .int .i64 n, .bool f, .slice A len cap] 24)) (.cells #[.int .i64 0, .int .i64 0, .bool false, .slice none 0 0] 24)
    rw [hw2] at h9
    simpa using h9
  have Y0 := hide (frz_new (j := 0) kb)
  have Y1 := hide (frz_new (j := 1) kb)
  have Y2 := hide (frz_new (j := 2) kb)
  have Y3 := hide (frz_new (j := 3) kb)
  have KB := hide kb
  clear kb
  have HW2 := hide hw2
  have HWQ := hide (hqW.trans hq2)
  have HQ2 := hide hq2
  have H := hide h
  clear h hw2 hq2 hqW hd2 hc2 he2
  have HKL : Hid (l.k = k) := hide (by cases l; injection HLV.out with e; simp at e; exact e.1)
  have hk2 : k ≠ 4 ∧ k ≠ 5 ∧ k ≠ 6 ∧ k ≠ 8 := by have := HKL.out; omega
  have RES : Hid (stE l no = 6 ∧ stA wd l no = 0 ∧ stL l no = noL) := hide (by
    have h1 : stE l no = 6 := by unfold stE; rw [if_neg hk]
    exact ⟨h1, by unfold stA; rw [if_neg (by omega)], by unfold stL; rw [if_neg (by omega)]⟩)
  have d4 : (k == 4) = false := by simp [hk2]
  have d5 : (k == 5) = false := by simp [hk2]
  have d6 : (k == 6) = false := by simp [hk2]
  have d8 : (k == 8) = false := by simp [hk2]
  clear hk hk2
  have Q22 := hide (Q.refl w2)
  obtain ⟨k0, k1, k2, k3, t0, t1⟩ := KA.out w2 Q22.out
  go_enter Try.func67, Try.ntmps67
  go_upto_region 1 with fail
  rw [HW2.out]
  have z0 := (Q22.out.facts.1 _ 0 hb2).trans Z0.out
  have z1 := (Q22.out.facts.1 _ 1 hb2).trans Z1.out
  have z2 := (Q22.out.facts.1 _ 2 hb2).trans Z2.out
  have z3 := (Q22.out.facts.1 _ 3 hb2).trans Z3.out
  have y0 := (Q22.out.facts.2.1 _ 0 hb2).trans Y0.out
  have y1 := (Q22.out.facts.2.1 _ 1 hb2).trans Y1.out
  have y2 := (Q22.out.facts.2.1 _ 2 hb2).trans Y2.out
  have y3 := (Q22.out.facts.2.1 _ 3 hb2).trans Y3.out
  have HS5 := hide (set4c (.int .i64 0) (.int .i64 0) (.bool false) (.slice none 0 0) z0 z1 z2 z3 _ rfl)
  have HQS := hide (q_set4 (b := W.heap.size + 2) (.int .i64 0) (.int .i64 0) (.bool false) (.slice none 0 0) (HQ2.out.trans Q22.out) (by omega))
  go_wp2_with fail
  obtain ⟨s0, s1, s2, s3⟩ := HS5.out
  refine bodyPost_ret (v := .tuple #[.int .i64 0, .agg #[.int .i64 0, .int .i64 0, .bool false, .slice none 0 0], .int .i64 6]) (by simp [results, Try.results67, go_sem, s0, s1, s2, s3]) rfl ?_
  exact ⟨by rw [RES.out.1, RES.out.2.1, RES.out.2.2] <;> rfl, HQS.out⟩
set_option maxRecDepth 100000 in
set_option maxHeartbeats 2000000 in
theorem part_lo4 {w : World} {l : Lay} (h : LayR w l) (hc : l.count ≤ 1048576) (wd : Int) (b : Bool) (ho : Okw wd l) (no : Int) (hk : l.k = 4) (hn : no < 0) : ∀ W, Q w W → Calls Try.prog 67 #[tgW wd b, l.v, .int .i64 no] W (R1 W (.tuple #[.int .i64 (stA wd l (no)), (stL l (no)).v, .int .i64 (stE l (no))])) := by
  intro W hqW
  unfold R1
  obtain ⟨k, n, f, A, len, cap, hlv⟩ : ∃ k n f A len cap, l.v = .agg #[.int .i64 k, .int .i64 n, .bool f, .slice A len cap] := by cases l; exact ⟨_, _, _, _, _, _, rfl⟩
  have hkk : k = 4 := by rw [show l.k = k by cases l; injection hlv with e; simp at e; exact e.1] at hk; exact hk
  subst hkk
  have HLV := hide hlv
  rw [hlv]
  clear hlv
  obtain ⟨w2, hw2⟩ : ∃ w2, ((W.alloc (.cells #[.int .i64 wd, .bool b] 60)).alloc (.cells #[.int .i64 4, .int .i64 n, .bool f, .slice A len cap] 24)).alloc (.cells #[.int .i64 0, .int .i64 0, .bool false, .slice none 0 0] 24) = w2 := ⟨_, rfl⟩
  obtain ⟨hq2, hs2, hd2, hc2, he2⟩ := box3 hw2
  have hb0 : W.heap.size < w2.heap.size := by omega
  have hb1 : W.heap.size + 1 < w2.heap.size := by omega
  have hb2 : W.heap.size + 2 < w2.heap.size := by omega
  have KA : Hid (∀ X, Q w2 X → X.cell? ⟨W.heap.size + 1, 0, none⟩ = some (.int .i64 4) ∧ X.cell? ⟨W.heap.size + 1, 1, none⟩ = some (.int .i64 n) ∧ X.cell? ⟨W.heap.size + 1, 2, none⟩ = some (.bool f) ∧ X.cell? ⟨W.heap.size + 1, 3, none⟩ = some (.slice A len cap) ∧ X.cell? ⟨W.heap.size, 0, none⟩ = some (.int .i64 wd) ∧ X.cell? ⟨W.heap.size, 1, none⟩ = some (.bool b)) := hide fun X hX => ⟨(hX.facts.1 _ 0 hb1).trans (hc2 0 _ rfl), (hX.facts.1 _ 1 hb1).trans (hc2 1 _ rfl), (hX.facts.1 _ 2 hb1).trans (hc2 2 _ rfl), (hX.facts.1 _ 3 hb1).trans (hc2 3 _ rfl), (hX.facts.1 _ 0 hb0).trans (hd2 0 _ rfl), (hX.facts.1 _ 1 hb0).trans (hd2 1 _ rfl)⟩
  have Z0 := hide (he2 0 _ rfl)
  have Z1 := hide (he2 1 _ rfl)
  have Z2 := hide (he2 2 _ rfl)
  have Z3 := hide (he2 3 _ rfl)
  have kb : w2.heap[W.heap.size + 2]? = some (.cells #[.int .i64 0, .int .i64 0, .bool false, .slice none 0 0] 24 (0, 0)) := by
    have h9 := heap_alloc_new ((W.alloc (.cells #[.int .i64 wd, .bool b] 60)).alloc (.cells #[.int .i64 4, .int .i64 n, .bool f, .slice A len cap] 24)) (.cells #[.int .i64 0, .int .i64 0, .bool false, .slice none 0 0] 24)
    rw [hw2] at h9
    simpa using h9
  have Y0 := hide (frz_new (j := 0) kb)
  have Y1 := hide (frz_new (j := 1) kb)
  have Y2 := hide (frz_new (j := 2) kb)
  have Y3 := hide (frz_new (j := 3) kb)
  have KB := hide kb
  clear kb
  have HW2 := hide hw2
  have HWQ := hide (hqW.trans hq2)
  have HQ2 := hide hq2
  have H := hide h
  clear h hw2 hq2 hqW hd2 hc2 he2
  have HKL : Hid (l.k = 4 ∧ l.n = n) := hide (by cases l; injection HLV.out with e; simp at e; exact ⟨e.1, e.2.1⟩)
  have HSL : Hid (Sl 4 encL w A len cap l.parts) := hide (by
    cases H.out with
    | mk a1 a2 a3 a4 a5 a6 =>
      injection HLV.out with e
      simp at e
      obtain ⟨e1, e2, e3, e4, e5, e6⟩ := e
      subst e1 e2 e3 e4 e5 e6
      exact a3)
  have HAL : Hid (∀ p ∈ l.parts, LayR w p ∧ p.count ≤ 1048576) := hide (fun p hp => ⟨(by cases H.out with | mk a1 a2 a3 a4 a5 a6 => exact a6 p hp), by have := count_part hp; omega⟩)
  have HVL := hide ho.vl
  have HNP : Hid (numP l = numP l) := hide rfl
  have RES : Hid (stE l no = 4 ∧ stA wd l no = 0 ∧ stL l no = noL) := hide (by
    have h1 : stE l no = 4 := by unfold stE; rw [if_pos (by omega), if_pos (by omega)]
    exact ⟨h1, by unfold stA; rw [if_neg (by omega)], by unfold stL; rw [if_neg (by omega)]⟩)
  have HLN := hide HSL.out.len
  have dn : decide (no < 0) = true := by simp [hn]
  clear hk hn
  have Q22 := hide (Q.refl w2)
  obtain ⟨k0, k1, k2, k3, t0, t1⟩ := KA.out w2 Q22.out
  go_enter Try.func67, Try.ntmps67
  go_upto_region 1 with fail
  rw [HW2.out]
  have z0 := (Q22.out.facts.1 _ 0 hb2).trans Z0.out
  have z1 := (Q22.out.facts.1 _ 1 hb2).trans Z1.out
  have z2 := (Q22.out.facts.1 _ 2 hb2).trans Z2.out
  have z3 := (Q22.out.facts.1 _ 3 hb2).trans Z3.out
  have y0 := (Q22.out.facts.2.1 _ 0 hb2).trans Y0.out
  have y1 := (Q22.out.facts.2.1 _ 1 hb2).trans Y1.out
  have y2 := (Q22.out.facts.2.1 _ 2 hb2).trans Y2.out
  have y3 := (Q22.out.facts.2.1 _ 3 hb2).trans Y3.out
  have HS5 := hide (set4c (.int .i64 0) (.int .i64 0) (.bool false) (.slice none 0 0) z0 z1 z2 z3 _ rfl)
  have HQS := hide (q_set4 (b := W.heap.size + 2) (.int .i64 0) (.int .i64 0) (.bool false) (.slice none 0 0) (HQ2.out.trans Q22.out) (by omega))
  go_wp2_with fail
  obtain ⟨s0, s1, s2, s3⟩ := HS5.out
  refine bodyPost_ret (v := .tuple #[.int .i64 0, .agg #[.int .i64 0, .int .i64 0, .bool false, .slice none 0 0], .int .i64 4]) (by simp [results, Try.results67, go_sem, s0, s1, s2, s3]) rfl ?_
  exact ⟨by rw [RES.out.1, RES.out.2.1, RES.out.2.2] <;> rfl, HQS.out⟩
set_option maxRecDepth 100000 in
set_option maxHeartbeats 2000000 in
theorem part_hi4 {w : World} {l : Lay} (h : LayR w l) (hc : l.count ≤ 1048576) (wd : Int) (b : Bool) (ho : Okw wd l) (no : Int) (hk : l.k = 4) (hn : 0 ≤ no ∧ (numP l : Int) ≤ no) : ∀ W, Q w W → Calls Try.prog 67 #[tgW wd b, l.v, .int .i64 no] W (R1 W (.tuple #[.int .i64 (stA wd l (no)), (stL l (no)).v, .int .i64 (stE l (no))])) := by
  intro W hqW
  unfold R1
  obtain ⟨k, n, f, A, len, cap, hlv⟩ : ∃ k n f A len cap, l.v = .agg #[.int .i64 k, .int .i64 n, .bool f, .slice A len cap] := by cases l; exact ⟨_, _, _, _, _, _, rfl⟩
  have hkk : k = 4 := by rw [show l.k = k by cases l; injection hlv with e; simp at e; exact e.1] at hk; exact hk
  subst hkk
  have HLV := hide hlv
  rw [hlv]
  clear hlv
  obtain ⟨w2, hw2⟩ : ∃ w2, ((W.alloc (.cells #[.int .i64 wd, .bool b] 60)).alloc (.cells #[.int .i64 4, .int .i64 n, .bool f, .slice A len cap] 24)).alloc (.cells #[.int .i64 0, .int .i64 0, .bool false, .slice none 0 0] 24) = w2 := ⟨_, rfl⟩
  obtain ⟨hq2, hs2, hd2, hc2, he2⟩ := box3 hw2
  have hb0 : W.heap.size < w2.heap.size := by omega
  have hb1 : W.heap.size + 1 < w2.heap.size := by omega
  have hb2 : W.heap.size + 2 < w2.heap.size := by omega
  have KA : Hid (∀ X, Q w2 X → X.cell? ⟨W.heap.size + 1, 0, none⟩ = some (.int .i64 4) ∧ X.cell? ⟨W.heap.size + 1, 1, none⟩ = some (.int .i64 n) ∧ X.cell? ⟨W.heap.size + 1, 2, none⟩ = some (.bool f) ∧ X.cell? ⟨W.heap.size + 1, 3, none⟩ = some (.slice A len cap) ∧ X.cell? ⟨W.heap.size, 0, none⟩ = some (.int .i64 wd) ∧ X.cell? ⟨W.heap.size, 1, none⟩ = some (.bool b)) := hide fun X hX => ⟨(hX.facts.1 _ 0 hb1).trans (hc2 0 _ rfl), (hX.facts.1 _ 1 hb1).trans (hc2 1 _ rfl), (hX.facts.1 _ 2 hb1).trans (hc2 2 _ rfl), (hX.facts.1 _ 3 hb1).trans (hc2 3 _ rfl), (hX.facts.1 _ 0 hb0).trans (hd2 0 _ rfl), (hX.facts.1 _ 1 hb0).trans (hd2 1 _ rfl)⟩
  have Z0 := hide (he2 0 _ rfl)
  have Z1 := hide (he2 1 _ rfl)
  have Z2 := hide (he2 2 _ rfl)
  have Z3 := hide (he2 3 _ rfl)
  have kb : w2.heap[W.heap.size + 2]? = some (.cells #[.int .i64 0, .int .i64 0, .bool false, .slice none 0 0] 24 (0, 0)) := by
    have h9 := heap_alloc_new ((W.alloc (.cells #[.int .i64 wd, .bool b] 60)).alloc (.cells #[.int .i64 4, .int .i64 n, .bool f, .slice A len cap] 24)) (.cells #[.int .i64 0, .int .i64 0, .bool false, .slice none 0 0] 24)
    rw [hw2] at h9
    simpa using h9
  have Y0 := hide (frz_new (j := 0) kb)
  have Y1 := hide (frz_new (j := 1) kb)
  have Y2 := hide (frz_new (j := 2) kb)
  have Y3 := hide (frz_new (j := 3) kb)
  have KB := hide kb
  clear kb
  have HW2 := hide hw2
  have HWQ := hide (hqW.trans hq2)
  have HQ2 := hide hq2
  have H := hide h
  clear h hw2 hq2 hqW hd2 hc2 he2
  have HKL : Hid (l.k = 4 ∧ l.n = n) := hide (by cases l; injection HLV.out with e; simp at e; exact ⟨e.1, e.2.1⟩)
  have HSL : Hid (Sl 4 encL w A len cap l.parts) := hide (by
    cases H.out with
    | mk a1 a2 a3 a4 a5 a6 =>
      injection HLV.out with e
      simp at e
      obtain ⟨e1, e2, e3, e4, e5, e6⟩ := e
      subst e1 e2 e3 e4 e5 e6
      exact a3)
  have HAL : Hid (∀ p ∈ l.parts, LayR w p ∧ p.count ≤ 1048576) := hide (fun p hp => ⟨(by cases H.out with | mk a1 a2 a3 a4 a5 a6 => exact a6 p hp), by have := count_part hp; omega⟩)
  have HVL := hide ho.vl
  have HNP : Hid (numP l = numP l) := hide rfl
  have RES : Hid (stE l no = 4 ∧ stA wd l no = 0 ∧ stL l no = noL) := hide (by
    have h1 : stE l no = 4 := by unfold stE; rw [if_pos (by omega), if_pos (by omega)]
    exact ⟨h1, by unfold stA; rw [if_neg (by omega)], by unfold stL; rw [if_neg (by omega)]⟩)
  have HLN := hide HSL.out.len
  have hnp : numP l = len := by
    unfold numP
    rw [HKL.out.1]
    have h9 := numP_one ho (.inl HKL.out.1)
    rw [HLN.out] at h9
    rw [h9]
    simp
  rw [hnp] at hn
  have dn : decide (no < 0) = false := by simp; omega
  have dm : decide ((len : Int) ≤ no) = true := by simp; omega
  clear hnp
  clear hk hn
  have Q22 := hide (Q.refl w2)
  obtain ⟨k0, k1, k2, k3, t0, t1⟩ := KA.out w2 Q22.out
  go_enter Try.func67, Try.ntmps67
  go_upto_region 1 with fail
  rw [HW2.out]
  have z0 := (Q22.out.facts.1 _ 0 hb2).trans Z0.out
  have z1 := (Q22.out.facts.1 _ 1 hb2).trans Z1.out
  have z2 := (Q22.out.facts.1 _ 2 hb2).trans Z2.out
  have z3 := (Q22.out.facts.1 _ 3 hb2).trans Z3.out
  have y0 := (Q22.out.facts.2.1 _ 0 hb2).trans Y0.out
  have y1 := (Q22.out.facts.2.1 _ 1 hb2).trans Y1.out
  have y2 := (Q22.out.facts.2.1 _ 2 hb2).trans Y2.out
  have y3 := (Q22.out.facts.2.1 _ 3 hb2).trans Y3.out
  have HS5 := hide (set4c (.int .i64 0) (.int .i64 0) (.bool false) (.slice none 0 0) z0 z1 z2 z3 _ rfl)
  have HQS := hide (q_set4 (b := W.heap.size + 2) (.int .i64 0) (.int .i64 0) (.bool false) (.slice none 0 0) (HQ2.out.trans Q22.out) (by omega))
  go_wp2_with fail
  obtain ⟨s0, s1, s2, s3⟩ := HS5.out
  refine bodyPost_ret (v := .tuple #[.int .i64 0, .agg #[.int .i64 0, .int .i64 0, .bool false, .slice none 0 0], .int .i64 4]) (by simp [results, Try.results67, go_sem, s0, s1, s2, s3]) rfl ?_
  exact ⟨by rw [RES.out.1, RES.out.2.1, RES.out.2.2] <;> rfl, HQS.out⟩
set_option maxRecDepth 100000 in
set_option maxHeartbeats 2000000 in
theorem part_lo5 {w : World} {l : Lay} (h : LayR w l) (hc : l.count ≤ 1048576) (wd : Int) (b : Bool) (ho : Okw wd l) (no : Int) (hk : l.k = 5) (hn : no < 0) : ∀ W, Q w W → Calls Try.prog 67 #[tgW wd b, l.v, .int .i64 no] W (R1 W (.tuple #[.int .i64 (stA wd l (no)), (stL l (no)).v, .int .i64 (stE l (no))])) := by
  intro W hqW
  unfold R1
  obtain ⟨k, n, f, A, len, cap, hlv⟩ : ∃ k n f A len cap, l.v = .agg #[.int .i64 k, .int .i64 n, .bool f, .slice A len cap] := by cases l; exact ⟨_, _, _, _, _, _, rfl⟩
  have hkk : k = 5 := by rw [show l.k = k by cases l; injection hlv with e; simp at e; exact e.1] at hk; exact hk
  subst hkk
  have HLV := hide hlv
  rw [hlv]
  clear hlv
  obtain ⟨w2, hw2⟩ : ∃ w2, ((W.alloc (.cells #[.int .i64 wd, .bool b] 60)).alloc (.cells #[.int .i64 5, .int .i64 n, .bool f, .slice A len cap] 24)).alloc (.cells #[.int .i64 0, .int .i64 0, .bool false, .slice none 0 0] 24) = w2 := ⟨_, rfl⟩
  obtain ⟨hq2, hs2, hd2, hc2, he2⟩ := box3 hw2
  have hb0 : W.heap.size < w2.heap.size := by omega
  have hb1 : W.heap.size + 1 < w2.heap.size := by omega
  have hb2 : W.heap.size + 2 < w2.heap.size := by omega
  have KA : Hid (∀ X, Q w2 X → X.cell? ⟨W.heap.size + 1, 0, none⟩ = some (.int .i64 5) ∧ X.cell? ⟨W.heap.size + 1, 1, none⟩ = some (.int .i64 n) ∧ X.cell? ⟨W.heap.size + 1, 2, none⟩ = some (.bool f) ∧ X.cell? ⟨W.heap.size + 1, 3, none⟩ = some (.slice A len cap) ∧ X.cell? ⟨W.heap.size, 0, none⟩ = some (.int .i64 wd) ∧ X.cell? ⟨W.heap.size, 1, none⟩ = some (.bool b)) := hide fun X hX => ⟨(hX.facts.1 _ 0 hb1).trans (hc2 0 _ rfl), (hX.facts.1 _ 1 hb1).trans (hc2 1 _ rfl), (hX.facts.1 _ 2 hb1).trans (hc2 2 _ rfl), (hX.facts.1 _ 3 hb1).trans (hc2 3 _ rfl), (hX.facts.1 _ 0 hb0).trans (hd2 0 _ rfl), (hX.facts.1 _ 1 hb0).trans (hd2 1 _ rfl)⟩
  have Z0 := hide (he2 0 _ rfl)
  have Z1 := hide (he2 1 _ rfl)
  have Z2 := hide (he2 2 _ rfl)
  have Z3 := hide (he2 3 _ rfl)
  have kb : w2.heap[W.heap.size + 2]? = some (.cells #[.int .i64 0, .int .i64 0, .bool false, .slice none 0 0] 24 (0, 0)) := by
    have h9 := heap_alloc_new ((W.alloc (.cells #[.int .i64 wd, .bool b] 60)).alloc (.cells #[.int .i64 5, .int .i64 n, .bool f, .slice A len cap] 24)) (.cells #[.int .i64 0, .int .i64 0, .bool false, .slice none 0 0] 24)
    rw [hw2] at h9
    simpa using h9
  have Y0 := hide (frz_new (j := 0) kb)
  have Y1 := hide (frz_new (j := 1) kb)
  have Y2 := hide (frz_new (j := 2) kb)
  have Y3 := hide (frz_new (j := 3) kb)
  have KB := hide kb
  clear kb
  have HW2 := hide hw2
  have HWQ := hide (hqW.trans hq2)
  have HQ2 := hide hq2
  have H := hide h
  clear h hw2 hq2 hqW hd2 hc2 he2
  have HKL : Hid (l.k = 5 ∧ l.n = n) := hide (by cases l; injection HLV.out with e; simp at e; exact ⟨e.1, e.2.1⟩)
  have HSL : Hid (Sl 4 encL w A len cap l.parts) := hide (by
    cases H.out with
    | mk a1 a2 a3 a4 a5 a6 =>
      injection HLV.out with e
      simp at e
      obtain ⟨e1, e2, e3, e4, e5, e6⟩ := e
      subst e1 e2 e3 e4 e5 e6
      exact a3)
  have HAL : Hid (∀ p ∈ l.parts, LayR w p ∧ p.count ≤ 1048576) := hide (fun p hp => ⟨(by cases H.out with | mk a1 a2 a3 a4 a5 a6 => exact a6 p hp), by have := count_part hp; omega⟩)
  have HVL := hide ho.vl
  have HNP : Hid (numP l = numP l) := hide rfl
  have RES : Hid (stE l no = 4 ∧ stA wd l no = 0 ∧ stL l no = noL) := hide (by
    have h1 : stE l no = 4 := by unfold stE; rw [if_pos (by omega), if_pos (by omega)]
    exact ⟨h1, by unfold stA; rw [if_neg (by omega)], by unfold stL; rw [if_neg (by omega)]⟩)
  have HLN := hide HSL.out.len
  have dn : decide (no < 0) = true := by simp [hn]
  clear hk hn
  have Q22 := hide (Q.refl w2)
  obtain ⟨k0, k1, k2, k3, t0, t1⟩ := KA.out w2 Q22.out
  go_enter Try.func67, Try.ntmps67
  go_upto_region 1 with fail
  rw [HW2.out]
  have z0 := (Q22.out.facts.1 _ 0 hb2).trans Z0.out
  have z1 := (Q22.out.facts.1 _ 1 hb2).trans Z1.out
  have z2 := (Q22.out.facts.1 _ 2 hb2).trans Z2.out
  have z3 := (Q22.out.facts.1 _ 3 hb2).trans Z3.out
  have y0 := (Q22.out.facts.2.1 _ 0 hb2).trans Y0.out
  have y1 := (Q22.out.facts.2.1 _ 1 hb2).trans Y1.out
  have y2 := (Q22.out.facts.2.1 _ 2 hb2).trans Y2.out
  have y3 := (Q22.out.facts.2.1 _ 3 hb2).trans Y3.out
  have HS5 := hide (set4c (.int .i64 0) (.int .i64 0) (.bool false) (.slice none 0 0) z0 z1 z2 z3 _ rfl)
  have HQS := hide (q_set4 (b := W.heap.size + 2) (.int .i64 0) (.int .i64 0) (.bool false) (.slice none 0 0) (HQ2.out.trans Q22.out) (by omega))
  go_wp2_with fail
  obtain ⟨s0, s1, s2, s3⟩ := HS5.out
  refine bodyPost_ret (v := .tuple #[.int .i64 0, .agg #[.int .i64 0, .int .i64 0, .bool false, .slice none 0 0], .int .i64 4]) (by simp [results, Try.results67, go_sem, s0, s1, s2, s3]) rfl ?_
  exact ⟨by rw [RES.out.1, RES.out.2.1, RES.out.2.2] <;> rfl, HQS.out⟩
set_option maxRecDepth 100000 in
set_option maxHeartbeats 2000000 in
theorem part_hi5 {w : World} {l : Lay} (h : LayR w l) (hc : l.count ≤ 1048576) (wd : Int) (b : Bool) (ho : Okw wd l) (no : Int) (hk : l.k = 5) (hn : 0 ≤ no ∧ (numP l : Int) ≤ no) : ∀ W, Q w W → Calls Try.prog 67 #[tgW wd b, l.v, .int .i64 no] W (R1 W (.tuple #[.int .i64 (stA wd l (no)), (stL l (no)).v, .int .i64 (stE l (no))])) := by
  intro W hqW
  unfold R1
  obtain ⟨k, n, f, A, len, cap, hlv⟩ : ∃ k n f A len cap, l.v = .agg #[.int .i64 k, .int .i64 n, .bool f, .slice A len cap] := by cases l; exact ⟨_, _, _, _, _, _, rfl⟩
  have hkk : k = 5 := by rw [show l.k = k by cases l; injection hlv with e; simp at e; exact e.1] at hk; exact hk
  subst hkk
  have HLV := hide hlv
  rw [hlv]
  clear hlv
  obtain ⟨w2, hw2⟩ : ∃ w2, ((W.alloc (.cells #[.int .i64 wd, .bool b] 60)).alloc (.cells #[.int .i64 5, .int .i64 n, .bool f, .slice A len cap] 24)).alloc (.cells #[.int .i64 0, .int .i64 0, .bool false, .slice none 0 0] 24) = w2 := ⟨_, rfl⟩
  obtain ⟨hq2, hs2, hd2, hc2, he2⟩ := box3 hw2
  have hb0 : W.heap.size < w2.heap.size := by omega
  have hb1 : W.heap.size + 1 < w2.heap.size := by omega
  have hb2 : W.heap.size + 2 < w2.heap.size := by omega
  have KA : Hid (∀ X, Q w2 X → X.cell? ⟨W.heap.size + 1, 0, none⟩ = some (.int .i64 5) ∧ X.cell? ⟨W.heap.size + 1, 1, none⟩ = some (.int .i64 n) ∧ X.cell? ⟨W.heap.size + 1, 2, none⟩ = some (.bool f) ∧ X.cell? ⟨W.heap.size + 1, 3, none⟩ = some (.slice A len cap) ∧ X.cell? ⟨W.heap.size, 0, none⟩ = some (.int .i64 wd) ∧ X.cell? ⟨W.heap.size, 1, none⟩ = some (.bool b)) := hide fun X hX => ⟨(hX.facts.1 _ 0 hb1).trans (hc2 0 _ rfl), (hX.facts.1 _ 1 hb1).trans (hc2 1 _ rfl), (hX.facts.1 _ 2 hb1).trans (hc2 2 _ rfl), (hX.facts.1 _ 3 hb1).trans (hc2 3 _ rfl), (hX.facts.1 _ 0 hb0).trans (hd2 0 _ rfl), (hX.facts.1 _ 1 hb0).trans (hd2 1 _ rfl)⟩
  have Z0 := hide (he2 0 _ rfl)
  have Z1 := hide (he2 1 _ rfl)
  have Z2 := hide (he2 2 _ rfl)
  have Z3 := hide (he2 3 _ rfl)
  have kb : w2.heap[W.heap.size + 2]? = some (.cells #[.int .i64 0, .int .i64 0, .bool false, .slice none 0 0] 24 (0, 0)) := by
    have h9 := heap_alloc_new ((W.alloc (.cells #[.int .i64 wd, .bool b] 60)).alloc (.cells #[.int .i64 5, .int .i64 n, .bool f, .slice A len cap] 24)) (.cells #[.int .i64 0, .int .i64 0, .bool false, .slice none 0 0] 24)
    rw [hw2] at h9
    simpa using h9
  have Y0 := hide (frz_new (j := 0) kb)
  have Y1 := hide (frz_new (j := 1) kb)
  have Y2 := hide (frz_new (j := 2) kb)
  have Y3 := hide (frz_new (j := 3) kb)
  have KB := hide kb
  clear kb
  have HW2 := hide hw2
  have HWQ := hide (hqW.trans hq2)
  have HQ2 := hide hq2
  have H := hide h
  clear h hw2 hq2 hqW hd2 hc2 he2
  have HKL : Hid (l.k = 5 ∧ l.n = n) := hide (by cases l; injection HLV.out with e; simp at e; exact ⟨e.1, e.2.1⟩)
  have HSL : Hid (Sl 4 encL w A len cap l.parts) := hide (by
    cases H.out with
    | mk a1 a2 a3 a4 a5 a6 =>
      injection HLV.out with e
      simp at e
      obtain ⟨e1, e2, e3, e4, e5, e6⟩ := e
      subst e1 e2 e3 e4 e5 e6
      exact a3)
  have HAL : Hid (∀ p ∈ l.parts, LayR w p ∧ p.count ≤ 1048576) := hide (fun p hp => ⟨(by cases H.out with | mk a1 a2 a3 a4 a5 a6 => exact a6 p hp), by have := count_part hp; omega⟩)
  have HVL := hide ho.vl
  have HNP : Hid (numP l = numP l) := hide rfl
  have RES : Hid (stE l no = 4 ∧ stA wd l no = 0 ∧ stL l no = noL) := hide (by
    have h1 : stE l no = 4 := by unfold stE; rw [if_pos (by omega), if_pos (by omega)]
    exact ⟨h1, by unfold stA; rw [if_neg (by omega)], by unfold stL; rw [if_neg (by omega)]⟩)
  have HLN := hide HSL.out.len
  have hnp : numP l = n.toNat := by unfold numP; rw [HKL.out.1, HKL.out.2]; simp
  rw [hnp] at hn
  have dn : decide (no < 0) = false := by simp; omega
  have dm : decide (n ≤ no) = true := by simp; omega
  clear hnp
  clear hk hn
  have Q22 := hide (Q.refl w2)
  obtain ⟨k0, k1, k2, k3, t0, t1⟩ := KA.out w2 Q22.out
  go_enter Try.func67, Try.ntmps67
  go_upto_region 1 with fail
  rw [HW2.out]
  have z0 := (Q22.out.facts.1 _ 0 hb2).trans Z0.out
  have z1 := (Q22.out.facts.1 _ 1 hb2).trans Z1.out
  have z2 := (Q22.out.facts.1 _ 2 hb2).trans Z2.out
  have z3 := (Q22.out.facts.1 _ 3 hb2).trans Z3.out
  have y0 := (Q22.out.facts.2.1 _ 0 hb2).trans Y0.out
  have y1 := (Q22.out.facts.2.1 _ 1 hb2).trans Y1.out
  have y2 := (Q22.out.facts.2.1 _ 2 hb2).trans Y2.out
  have y3 := (Q22.out.facts.2.1 _ 3 hb2).trans Y3.out
  have HS5 := hide (set4c (.int .i64 0) (.int .i64 0) (.bool false) (.slice none 0 0) z0 z1 z2 z3 _ rfl)
  have HQS := hide (q_set4 (b := W.heap.size + 2) (.int .i64 0) (.int .i64 0) (.bool false) (.slice none 0 0) (HQ2.out.trans Q22.out) (by omega))
  go_wp2_with fail
  obtain ⟨s0, s1, s2, s3⟩ := HS5.out
  refine bodyPost_ret (v := .tuple #[.int .i64 0, .agg #[.int .i64 0, .int .i64 0, .bool false, .slice none 0 0], .int .i64 4]) (by simp [results, Try.results67, go_sem, s0, s1, s2, s3]) rfl ?_
  exact ⟨by rw [RES.out.1, RES.out.2.1, RES.out.2.2] <;> rfl, HQS.out⟩
set_option maxRecDepth 100000 in
set_option maxHeartbeats 2000000 in
theorem part_lo6 {w : World} {l : Lay} (h : LayR w l) (hc : l.count ≤ 1048576) (wd : Int) (b : Bool) (ho : Okw wd l) (no : Int) (hk : l.k = 6) (hn : no < 0) : ∀ W, Q w W → Calls Try.prog 67 #[tgW wd b, l.v, .int .i64 no] W (R1 W (.tuple #[.int .i64 (stA wd l (no)), (stL l (no)).v, .int .i64 (stE l (no))])) := by
  intro W hqW
  unfold R1
  obtain ⟨k, n, f, A, len, cap, hlv⟩ : ∃ k n f A len cap, l.v = .agg #[.int .i64 k, .int .i64 n, .bool f, .slice A len cap] := by cases l; exact ⟨_, _, _, _, _, _, rfl⟩
  have hkk : k = 6 := by rw [show l.k = k by cases l; injection hlv with e; simp at e; exact e.1] at hk; exact hk
  subst hkk
  have HLV := hide hlv
  rw [hlv]
  clear hlv
  obtain ⟨w2, hw2⟩ : ∃ w2, ((W.alloc (.cells #[.int .i64 wd, .bool b] 60)).alloc (.cells #[.int .i64 6, .int .i64 n, .bool f, .slice A len cap] 24)).alloc (.cells #[.int .i64 0, .int .i64 0, .bool false, .slice none 0 0] 24) = w2 := ⟨_, rfl⟩
  obtain ⟨hq2, hs2, hd2, hc2, he2⟩ := box3 hw2
  have hb0 : W.heap.size < w2.heap.size := by omega
  have hb1 : W.heap.size + 1 < w2.heap.size := by omega
  have hb2 : W.heap.size + 2 < w2.heap.size := by omega
  have KA : Hid (∀ X, Q w2 X → X.cell? ⟨W.heap.size + 1, 0, none⟩ = some (.int .i64 6) ∧ X.cell? ⟨W.heap.size + 1, 1, none⟩ = some (.int .i64 n) ∧ X.cell? ⟨W.heap.size + 1, 2, none⟩ = some (.bool f) ∧ X.cell? ⟨W.heap.size + 1, 3, none⟩ = some (.slice A len cap) ∧ X.cell? ⟨W.heap.size, 0, none⟩ = some (.int .i64 wd) ∧ X.cell? ⟨W.heap.size, 1, none⟩ = some (.bool b)) := hide fun X hX => ⟨(hX.facts.1 _ 0 hb1).trans (hc2 0 _ rfl), (hX.facts.1 _ 1 hb1).trans (hc2 1 _ rfl), (hX.facts.1 _ 2 hb1).trans (hc2 2 _ rfl), (hX.facts.1 _ 3 hb1).trans (hc2 3 _ rfl), (hX.facts.1 _ 0 hb0).trans (hd2 0 _ rfl), (hX.facts.1 _ 1 hb0).trans (hd2 1 _ rfl)⟩
  have Z0 := hide (he2 0 _ rfl)
  have Z1 := hide (he2 1 _ rfl)
  have Z2 := hide (he2 2 _ rfl)
  have Z3 := hide (he2 3 _ rfl)
  have kb : w2.heap[W.heap.size + 2]? = some (.cells #[.int .i64 0, .int .i64 0, .bool false, .slice none 0 0] 24 (0, 0)) := by
    have h9 := heap_alloc_new ((W.alloc (.cells #[.int .i64 wd, .bool b] 60)).alloc (.cells #[.int .i64 6, .int .i64 n, .bool f, .slice A len cap] 24)) (.cells #[.int .i64 0, .int .i64 0, .bool false, .slice none 0 0] 24)
    rw [hw2] at h9
    simpa using h9
  have Y0 := hide (frz_new (j := 0) kb)
  have Y1 := hide (frz_new (j := 1) kb)
  have Y2 := hide (frz_new (j := 2) kb)
  have Y3 := hide (frz_new (j := 3) kb)
  have KB := hide kb
  clear kb
  have HW2 := hide hw2
  have HWQ := hide (hqW.trans hq2)
  have HQ2 := hide hq2
  have H := hide h
  clear h hw2 hq2 hqW hd2 hc2 he2
  have HKL : Hid (l.k = 6 ∧ l.n = n) := hide (by cases l; injection HLV.out with e; simp at e; exact ⟨e.1, e.2.1⟩)
  have HSL : Hid (Sl 4 encL w A len cap l.parts) := hide (by
    cases H.out with
    | mk a1 a2 a3 a4 a5 a6 =>
      injection HLV.out with e
      simp at e
      obtain ⟨e1, e2, e3, e4, e5, e6⟩ := e
      subst e1 e2 e3 e4 e5 e6
      exact a3)
  have HAL : Hid (∀ p ∈ l.parts, LayR w p ∧ p.count ≤ 1048576) := hide (fun p hp => ⟨(by cases H.out with | mk a1 a2 a3 a4 a5 a6 => exact a6 p hp), by have := count_part hp; omega⟩)
  have HVL := hide ho.vl
  have HNP : Hid (numP l = numP l) := hide rfl
  have RES : Hid (stE l no = 4 ∧ stA wd l no = 0 ∧ stL l no = noL) := hide (by
    have h1 : stE l no = 4 := by unfold stE; rw [if_pos (by omega), if_pos (by omega)]
    exact ⟨h1, by unfold stA; rw [if_neg (by omega)], by unfold stL; rw [if_neg (by omega)]⟩)
  have HLN := hide HSL.out.len
  have dn : decide (no < 0) = true := by simp [hn]
  clear hk hn
  have Q22 := hide (Q.refl w2)
  obtain ⟨k0, k1, k2, k3, t0, t1⟩ := KA.out w2 Q22.out
  go_enter Try.func67, Try.ntmps67
  go_upto_region 1 with fail
  rw [HW2.out]
  have z0 := (Q22.out.facts.1 _ 0 hb2).trans Z0.out
  have z1 := (Q22.out.facts.1 _ 1 hb2).trans Z1.out
  have z2 := (Q22.out.facts.1 _ 2 hb2).trans Z2.out
  have z3 := (Q22.out.facts.1 _ 3 hb2).trans Z3.out
  have y0 := (Q22.out.facts.2.1 _ 0 hb2).trans Y0.out
  have y1 := (Q22.out.facts.2.1 _ 1 hb2).trans Y1.out
  have y2 := (Q22.out.facts.2.1 _ 2 hb2).trans Y2.out
  have y3 := (Q22.out.facts.2.1 _ 3 hb2).trans Y3.out
  have HS5 := hide (set4c (.int .i64 0) (.int .i64 0) (.bool false) (.slice none 0 0) z0 z1 z2 z3 _ rfl)
  have HQS := hide (q_set4 (b := W.heap.size + 2) (.int .i64 0) (.int .i64 0) (.bool false) (.slice none 0 0) (HQ2.out.trans Q22.out) (by omega))
  go_wp2_with fail
  obtain ⟨s0, s1, s2, s3⟩ := HS5.out
  refine bodyPost_ret (v := .tuple #[.int .i64 0, .agg #[.int .i64 0, .int .i64 0, .bool false, .slice none 0 0], .int .i64 4]) (by simp [results, Try.results67, go_sem, s0, s1, s2, s3]) rfl ?_
  exact ⟨by rw [RES.out.1, RES.out.2.1, RES.out.2.2] <;> rfl, HQS.out⟩
set_option maxRecDepth 100000 in
set_option maxHeartbeats 2000000 in
theorem part_hi6 {w : World} {l : Lay} (h : LayR w l) (hc : l.count ≤ 1048576) (wd : Int) (b : Bool) (ho : Okw wd l) (no : Int) (hk : l.k = 6) (hn : 0 ≤ no ∧ (numP l : Int) ≤ no) : ∀ W, Q w W → Calls Try.prog 67 #[tgW wd b, l.v, .int .i64 no] W (R1 W (.tuple #[.int .i64 (stA wd l (no)), (stL l (no)).v, .int .i64 (stE l (no))])) := by
  intro W hqW
  unfold R1
  obtain ⟨k, n, f, A, len, cap, hlv⟩ : ∃ k n f A len cap, l.v = .agg #[.int .i64 k, .int .i64 n, .bool f, .slice A len cap] := by cases l; exact ⟨_, _, _, _, _, _, rfl⟩
  have hkk : k = 6 := by rw [show l.k = k by cases l; injection hlv with e; simp at e; exact e.1] at hk; exact hk
  subst hkk
  have HLV := hide hlv
  rw [hlv]
  clear hlv
  obtain ⟨w2, hw2⟩ : ∃ w2, ((W.alloc (.cells #[.int .i64 wd, .bool b] 60)).alloc (.cells #[.int .i64 6, .int .i64 n, .bool f, .slice A len cap] 24)).alloc (.cells #[.int .i64 0, .int .i64 0, .bool false, .slice none 0 0] 24) = w2 := ⟨_, rfl⟩
  obtain ⟨hq2, hs2, hd2, hc2, he2⟩ := box3 hw2
  have hb0 : W.heap.size < w2.heap.size := by omega
  have hb1 : W.heap.size + 1 < w2.heap.size := by omega
  have hb2 : W.heap.size + 2 < w2.heap.size := by omega
  have KA : Hid (∀ X, Q w2 X → X.cell? ⟨W.heap.size + 1, 0, none⟩ = some (.int .i64 6) ∧ X.cell? ⟨W.heap.size + 1, 1, none⟩ = some (.int .i64 n) ∧ X.cell? ⟨W.heap.size + 1, 2, none⟩ = some (.bool f) ∧ X.cell? ⟨W.heap.size + 1, 3, none⟩ = some (.slice A len cap) ∧ X.cell? ⟨W.heap.size, 0, none⟩ = some (.int .i64 wd) ∧ X.cell? ⟨W.heap.size, 1, none⟩ = some (.bool b)) := hide fun X hX => ⟨(hX.facts.1 _ 0 hb1).trans (hc2 0 _ rfl), (hX.facts.1 _ 1 hb1).trans (hc2 1 _ rfl), (hX.facts.1 _ 2 hb1).trans (hc2 2 _ rfl), (hX.facts.1 _ 3 hb1).trans (hc2 3 _ rfl), (hX.facts.1 _ 0 hb0).trans (hd2 0 _ rfl), (hX.facts.1 _ 1 hb0).trans (hd2 1 _ rfl)⟩
  have Z0 := hide (he2 0 _ rfl)
  have Z1 := hide (he2 1 _ rfl)
  have Z2 := hide (he2 2 _ rfl)
  have Z3 := hide (he2 3 _ rfl)
  have kb : w2.heap[W.heap.size + 2]? = some (.cells #[.int .i64 0, .int .i64 0, .bool false, .slice none 0 0] 24 (0, 0)) := by
    have h9 := heap_alloc_new ((W.alloc (.cells #[.int .i64 wd, .bool b] 60)).alloc (.cells #[.int .i64 6, .int .i64 n, .bool f, .slice A len cap] 24)) (.cells #[.int .i64 0, .int .i64 0, .bool false, .slice none 0 0] 24)
    rw [hw2] at h9
    simpa using h9
  have Y0 := hide (frz_new (j := 0) kb)
  have Y1 := hide (frz_new (j := 1) kb)
  have Y2 := hide (frz_new (j := 2) kb)
  have Y3 := hide (frz_new (j := 3) kb)
  have KB := hide kb
  clear kb
  have HW2 := hide hw2
  have HWQ := hide (hqW.trans hq2)
  have HQ2 := hide hq2
  have H := hide h
  clear h hw2 hq2 hqW hd2 hc2 he2
  have HKL : Hid (l.k = 6 ∧ l.n = n) := hide (by cases l; injection HLV.out with e; simp at e; exact ⟨e.1, e.2.1⟩)
  have HSL : Hid (Sl 4 encL w A len cap l.parts) := hide (by
    cases H.out with
    | mk a1 a2 a3 a4 a5 a6 =>
      injection HLV.out with e
      simp at e
      obtain ⟨e1, e2, e3, e4, e5, e6⟩ := e
      subst e1 e2 e3 e4 e5 e6
      exact a3)
  have HAL : Hid (∀ p ∈ l.parts, LayR w p ∧ p.count ≤ 1048576) := hide (fun p hp => ⟨(by cases H.out with | mk a1 a2 a3 a4 a5 a6 => exact a6 p hp), by have := count_part hp; omega⟩)
  have HVL := hide ho.vl
  have HNP : Hid (numP l = numP l) := hide rfl
  have RES : Hid (stE l no = 4 ∧ stA wd l no = 0 ∧ stL l no = noL) := hide (by
    have h1 : stE l no = 4 := by unfold stE; rw [if_pos (by omega), if_pos (by omega)]
    exact ⟨h1, by unfold stA; rw [if_neg (by omega)], by unfold stL; rw [if_neg (by omega)]⟩)
  have HLN := hide HSL.out.len
  have hnp : numP l = len := by
    unfold numP
    rw [HKL.out.1]
    simp
    exact HLN.out
  rw [hnp] at hn
  have dn : decide (no < 0) = false := by simp; omega
  have dm : decide ((len : Int) ≤ no) = true := by simp; omega
  clear hnp
  clear hk hn
  have Q22 := hide (Q.refl w2)
  obtain ⟨k0, k1, k2, k3, t0, t1⟩ := KA.out w2 Q22.out
  go_enter Try.func67, Try.ntmps67
  go_upto_region 1 with fail
  rw [HW2.out]
  have z0 := (Q22.out.facts.1 _ 0 hb2).trans Z0.out
  have z1 := (Q22.out.facts.1 _ 1 hb2).trans Z1.out
  have z2 := (Q22.out.facts.1 _ 2 hb2).trans Z2.out
  have z3 := (Q22.out.facts.1 _ 3 hb2).trans Z3.out
  have y0 := (Q22.out.facts.2.1 _ 0 hb2).trans Y0.out
  have y1 := (Q22.out.facts.2.1 _ 1 hb2).trans Y1.out
  have y2 := (Q22.out.facts.2.1 _ 2 hb2).trans Y2.out
  have y3 := (Q22.out.facts.2.1 _ 3 hb2).trans Y3.out
  have HS5 := hide (set4c (.int .i64 0) (.int .i64 0) (.bool false) (.slice none 0 0) z0 z1 z2 z3 _ rfl)
  have HQS := hide (q_set4 (b := W.heap.size + 2) (.int .i64 0) (.int .i64 0) (.bool false) (.slice none 0 0) (HQ2.out.trans Q22.out) (by omega))
  go_wp2_with fail
  obtain ⟨s0, s1, s2, s3⟩ := HS5.out
  refine bodyPost_ret (v := .tuple #[.int .i64 0, .agg #[.int .i64 0, .int .i64 0, .bool false, .slice none 0 0], .int .i64 4]) (by simp [results, Try.results67, go_sem, s0, s1, s2, s3]) rfl ?_
  exact ⟨by rw [RES.out.1, RES.out.2.1, RES.out.2.2] <;> rfl, HQS.out⟩
set_option maxRecDepth 100000 in
set_option maxHeartbeats 2000000 in
theorem part_lo8 {w : World} {l : Lay} (h : LayR w l) (hc : l.count ≤ 1048576) (wd : Int) (b : Bool) (ho : Okw wd l) (no : Int) (hk : l.k = 8) (hn : no < 0) : ∀ W, Q w W → Calls Try.prog 67 #[tgW wd b, l.v, .int .i64 no] W (R1 W (.tuple #[.int .i64 (stA wd l (no)), (stL l (no)).v, .int .i64 (stE l (no))])) := by
  intro W hqW
  unfold R1
  obtain ⟨k, n, f, A, len, cap, hlv⟩ : ∃ k n f A len cap, l.v = .agg #[.int .i64 k, .int .i64 n, .bool f, .slice A len cap] := by cases l; exact ⟨_, _, _, _, _, _, rfl⟩
  have hkk : k = 8 := by rw [show l.k = k by cases l; injection hlv with e; simp at e; exact e.1] at hk; exact hk
  subst hkk
  have HLV := hide hlv
  rw [hlv]
  clear hlv
  obtain ⟨w2, hw2⟩ : ∃ w2, ((W.alloc (.cells #[.int .i64 wd, .bool b] 60)).alloc (.cells #[.int .i64 8, .int .i64 n, .bool f, .slice A len cap] 24)).alloc (.cells #[.int .i64 0, .int .i64 0, .bool false, .slice none 0 0] 24) = w2 := ⟨_, rfl⟩
  obtain ⟨hq2, hs2, hd2, hc2, he2⟩ := box3 hw2
  have hb0 : W.heap.size < w2.heap.size := by omega
  have hb1 : W.heap.size + 1 < w2.heap.size := by omega
  have hb2 : W.heap.size + 2 < w2.heap.size := by omega
  have KA : Hid (∀ X, Q w2 X → X.cell? ⟨W.heap.size + 1, 0, none⟩ = some (.int .i64 8) ∧ X.cell? ⟨W.heap.size + 1, 1, none⟩ = some (.int .i64 n) ∧ X.cell? ⟨W.heap.size + 1, 2, none⟩ = some (.bool f) ∧ X.cell? ⟨W.heap.size + 1, 3, none⟩ = some (.slice A len cap) ∧ X.cell? ⟨W.heap.size, 0, none⟩ = some (.int .i64 wd) ∧ X.cell? ⟨W.heap.size, 1, none⟩ = some (.bool b)) := hide fun X hX => ⟨(hX.facts.1 _ 0 hb1).trans (hc2 0 _ rfl), (hX.facts.1 _ 1 hb1).trans (hc2 1 _ rfl), (hX.facts.1 _ 2 hb1).trans (hc2 2 _ rfl), (hX.facts.1 _ 3 hb1).trans (hc2 3 _ rfl), (hX.facts.1 _ 0 hb0).trans (hd2 0 _ rfl), (hX.facts.1 _ 1 hb0).trans (hd2 1 _ rfl)⟩
  have Z0 := hide (he2 0 _ rfl)
  have Z1 := hide (he2 1 _ rfl)
  have Z2 := hide (he2 2 _ rfl)
  have Z3 := hide (he2 3 _ rfl)
  have kb : w2.heap[W.heap.size + 2]? = some (.cells #[.int .i64 0, .int .i64 0, .bool false, .slice none 0 0] 24 (0, 0)) := by
    have h9 := heap_alloc_new ((W.alloc (.cells #[.int .i64 wd, .bool b] 60)).alloc (.cells #[.int .i64 8, .int .i64 n, .bool f, .slice A len cap] 24)) (.cells #[.int .i64 0, .int .i64 0, .bool false, .slice none 0 0] 24)
    rw [hw2] at h9
    simpa using h9
  have Y0 := hide (frz_new (j := 0) kb)
  have Y1 := hide (frz_new (j := 1) kb)
  have Y2 := hide (frz_new (j := 2) kb)
  have Y3 := hide (frz_new (j := 3) kb)
  have KB := hide kb
  clear kb
  have HW2 := hide hw2
  have HWQ := hide (hqW.trans hq2)
  have HQ2 := hide hq2
  have H := hide h
  clear h hw2 hq2 hqW hd2 hc2 he2
  have HKL : Hid (l.k = 8 ∧ l.n = n) := hide (by cases l; injection HLV.out with e; simp at e; exact ⟨e.1, e.2.1⟩)
  have HSL : Hid (Sl 4 encL w A len cap l.parts) := hide (by
    cases H.out with
    | mk a1 a2 a3 a4 a5 a6 =>
      injection HLV.out with e
      simp at e
      obtain ⟨e1, e2, e3, e4, e5, e6⟩ := e
      subst e1 e2 e3 e4 e5 e6
      exact a3)
  have HAL : Hid (∀ p ∈ l.parts, LayR w p ∧ p.count ≤ 1048576) := hide (fun p hp => ⟨(by cases H.out with | mk a1 a2 a3 a4 a5 a6 => exact a6 p hp), by have := count_part hp; omega⟩)
  have HVL := hide ho.vl
  have HNP : Hid (numP l = numP l) := hide rfl
  have RES : Hid (stE l no = 4 ∧ stA wd l no = 0 ∧ stL l no = noL) := hide (by
    have h1 : stE l no = 4 := by unfold stE; rw [if_pos (by omega), if_pos (by omega)]
    exact ⟨h1, by unfold stA; rw [if_neg (by omega)], by unfold stL; rw [if_neg (by omega)]⟩)
  have HLN := hide HSL.out.len
  have dn : decide (no < 0) = true := by simp [hn]
  clear hk hn
  have Q22 := hide (Q.refl w2)
  obtain ⟨k0, k1, k2, k3, t0, t1⟩ := KA.out w2 Q22.out
  go_enter Try.func67, Try.ntmps67
  go_upto_region 1 with fail
  rw [HW2.out]
  have z0 := (Q22.out.facts.1 _ 0 hb2).trans Z0.out
  have z1 := (Q22.out.facts.1 _ 1 hb2).trans Z1.out
  have z2 := (Q22.out.facts.1 _ 2 hb2).trans Z2.out
  have z3 := (Q22.out.facts.1 _ 3 hb2).trans Z3.out
  have y0 := (Q22.out.facts.2.1 _ 0 hb2).trans Y0.out
  have y1 := (Q22.out.facts.2.1 _ 1 hb2).trans Y1.out
  have y2 := (Q22.out.facts.2.1 _ 2 hb2).trans Y2.out
  have y3 := (Q22.out.facts.2.1 _ 3 hb2).trans Y3.out
  have HS5 := hide (set4c (.int .i64 0) (.int .i64 0) (.bool false) (.slice none 0 0) z0 z1 z2 z3 _ rfl)
  have HQS := hide (q_set4 (b := W.heap.size + 2) (.int .i64 0) (.int .i64 0) (.bool false) (.slice none 0 0) (HQ2.out.trans Q22.out) (by omega))
  go_wp2_with fail
  obtain ⟨s0, s1, s2, s3⟩ := HS5.out
  refine bodyPost_ret (v := .tuple #[.int .i64 0, .agg #[.int .i64 0, .int .i64 0, .bool false, .slice none 0 0], .int .i64 4]) (by simp [results, Try.results67, go_sem, s0, s1, s2, s3]) rfl ?_
  exact ⟨by rw [RES.out.1, RES.out.2.1, RES.out.2.2] <;> rfl, HQS.out⟩
set_option maxRecDepth 100000 in
set_option maxHeartbeats 2000000 in
theorem part_hi8 {w : World} {l : Lay} (h : LayR w l) (hc : l.count ≤ 1048576) (wd : Int) (b : Bool) (ho : Okw wd l) (no : Int) (hk : l.k = 8) (hn : 0 ≤ no ∧ (numP l : Int) ≤ no) : ∀ W, Q w W → Calls Try.prog 67 #[tgW wd b, l.v, .int .i64 no] W (R1 W (.tuple #[.int .i64 (stA wd l (no)), (stL l (no)).v, .int .i64 (stE l (no))])) := by
  intro W hqW
  unfold R1
  obtain ⟨k, n, f, A, len, cap, hlv⟩ : ∃ k n f A len cap, l.v = .agg #[.int .i64 k, .int .i64 n, .bool f, .slice A len cap] := by cases l; exact ⟨_, _, _, _, _, _, rfl⟩
  have hkk : k = 8 := by rw [show l.k = k by cases l; injection hlv with e; simp at e; exact e.1] at hk; exact hk
  subst hkk
  have HLV := hide hlv
  rw [hlv]
  clear hlv
  obtain ⟨w2, hw2⟩ : ∃ w2, ((W.alloc (.cells #[.int .i64 wd, .bool b] 60)).alloc (.cells #[.int .i64 8, .int .i64 n, .bool f, .slice A len cap] 24)).alloc (.cells #[.int .i64 0, .int .i64 0, .bool false, .slice none 0 0] 24) = w2 := ⟨_, rfl⟩
  obtain ⟨hq2, hs2, hd2, hc2, he2⟩ := box3 hw2
  have hb0 : W.heap.size < w2.heap.size := by omega
  have hb1 : W.heap.size + 1 < w2.heap.size := by omega
  have hb2 : W.heap.size + 2 < w2.heap.size := by omega
  have KA : Hid (∀ X, Q w2 X → X.cell? ⟨W.heap.size + 1, 0, none⟩ = some (.int .i64 8) ∧ X.cell? ⟨W.heap.size + 1, 1, none⟩ = some (.int .i64 n) ∧ X.cell? ⟨W.heap.size + 1, 2, none⟩ = some (.bool f) ∧ X.cell? ⟨W.heap.size + 1, 3, none⟩ = some (.slice A len cap) ∧ X.cell? ⟨W.heap.size, 0, none⟩ = some (.int .i64 wd) ∧ X.cell? ⟨W.heap.size, 1, none⟩ = some (.bool b)) := hide fun X hX => ⟨(hX.facts.1 _ 0 hb1).trans (hc2 0 _ rfl), (hX.facts.1 _ 1 hb1).trans (hc2 1 _ rfl), (hX.facts.1 _ 2 hb1).trans (hc2 2 _ rfl), (hX.facts.1 _ 3 hb1).trans (hc2 3 _ rfl), (hX.facts.1 _ 0 hb0).trans (hd2 0 _ rfl), (hX.facts.1 _ 1 hb0).trans (hd2 1 _ rfl)⟩
  have Z0 := hide (he2 0 _ rfl)
  have Z1 := hide (he2 1 _ rfl)
  have Z2 := hide (he2 2 _ rfl)
  have Z3 := hide (he2 3 _ rfl)
  have kb : w2.heap[W.heap.size + 2]? = some (.cells #[.int .i64 0, .int .i64 0, .bool false, .slice none 0 0] 24 (0, 0)) := by
    have h9 := heap_alloc_new ((W.alloc (.cells #[.int .i64 wd, .bool b] 60)).alloc (.cells #[.int .i64 8, .int .i64 n, .bool f, .slice A len cap] 24)) (.cells #[.int .i64 0, .int .i64 0, .bool false, .slice none 0 0] 24)
    rw [hw2] at h9
    simpa using h9
  have Y0 := hide (frz_new (j := 0) kb)
  have Y1 := hide (frz_new (j := 1) kb)
  have Y2 := hide (frz_new (j := 2) kb)
  have Y3 := hide (frz_new (j := 3) kb)
  have KB := hide kb
  clear kb
  have HW2 := hide hw2
  have HWQ := hide (hqW.trans hq2)
  have HQ2 := hide hq2
  have H := hide h
  clear h hw2 hq2 hqW hd2 hc2 he2
  have HKL : Hid (l.k = 8 ∧ l.n = n) := hide (by cases l; injection HLV.out with e; simp at e; exact ⟨e.1, e.2.1⟩)
  have HSL : Hid (Sl 4 encL w A len cap l.parts) := hide (by
    cases H.out with
    | mk a1 a2 a3 a4 a5 a6 =>
      injection HLV.out with e
      simp at e
      obtain ⟨e1, e2, e3, e4, e5, e6⟩ := e
      subst e1 e2 e3 e4 e5 e6
      exact a3)
  have HAL : Hid (∀ p ∈ l.parts, LayR w p ∧ p.count ≤ 1048576) := hide (fun p hp => ⟨(by cases H.out with | mk a1 a2 a3 a4 a5 a6 => exact a6 p hp), by have := count_part hp; omega⟩)
  have HVL := hide ho.vl
  have HNP : Hid (numP l = numP l) := hide rfl
  have RES : Hid (stE l no = 4 ∧ stA wd l no = 0 ∧ stL l no = noL) := hide (by
    have h1 : stE l no = 4 := by unfold stE; rw [if_pos (by omega), if_pos (by omega)]
    exact ⟨h1, by unfold stA; rw [if_neg (by omega)], by unfold stL; rw [if_neg (by omega)]⟩)
  have HLN := hide HSL.out.len
  have hnp : numP l = len := by
    unfold numP
    rw [HKL.out.1]
    simp
    exact HLN.out
  rw [hnp] at hn
  have dn : decide (no < 0) = false := by simp; omega
  have dm : decide ((len : Int) ≤ no) = true := by simp; omega
  clear hnp
  clear hk hn
  have Q22 := hide (Q.refl w2)
  obtain ⟨k0, k1, k2, k3, t0, t1⟩ := KA.out w2 Q22.out
  go_enter Try.func67, Try.ntmps67
  go_upto_region 1 with fail
  rw [HW2.out]
  have z0 := (Q22.out.facts.1 _ 0 hb2).trans Z0.out
  have z1 := (Q22.out.facts.1 _ 1 hb2).trans Z1.out
  have z2 := (Q22.out.facts.1 _ 2 hb2).trans Z2.out
  have z3 := (Q22.out.facts.1 _ 3 hb2).trans Z3.out
  have y0 := (Q22.out.facts.2.1 _ 0 hb2).trans Y0.out
  have y1 := (Q22.out.facts.2.1 _ 1 hb2).trans Y1.out
  have y2 := (Q22.out.facts.2.1 _ 2 hb2).trans Y2.out
  have y3 := (Q22.out.facts.2.1 _ 3 hb2).trans Y3.out
  have HS5 := hide (set4c (.int .i64 0) (.int .i64 0) (.bool false) (.slice none 0 0) z0 z1 z2 z3 _ rfl)
  have HQS := hide (q_set4 (b := W.heap.size + 2) (.int .i64 0) (.int .i64 0) (.bool false) (.slice none 0 0) (HQ2.out.trans Q22.out) (by omega))
  go_wp2_with fail
  obtain ⟨s0, s1, s2, s3⟩ := HS5.out
  refine bodyPost_ret (v := .tuple #[.int .i64 0, .agg #[.int .i64 0, .int .i64 0, .bool false, .slice none 0 0], .int .i64 4]) (by simp [results, Try.results67, go_sem, s0, s1, s2, s3]) rfl ?_
  exact ⟨by rw [RES.out.1, RES.out.2.1, RES.out.2.2] <;> rfl, HQS.out⟩
set_option maxRecDepth 100000 in
set_option maxHeartbeats 2000000 in
theorem part_in4 {w : World} {l : Lay} (h : LayR w l) (hc : l.count ≤ 1048576) (wd : Int) (b : Bool) (ho : Okw wd l) (no : Nat) (hk : l.k = 4) (hn : no < numP l) : ∀ W, Q w W → Calls Try.prog 67 #[tgW wd b, l.v, .int .i64 (no : Int)] W (R1 W (.tuple #[.int .i64 (stA wd l (no : Int)), (stL l (no : Int)).v, .int .i64 (stE l (no : Int))])) := by
  intro W hqW
  unfold R1
  obtain ⟨k, n, f, A, len, cap, hlv⟩ : ∃ k n f A len cap, l.v = .agg #[.int .i64 k, .int .i64 n, .bool f, .slice A len cap] := by cases l; exact ⟨_, _, _, _, _, _, rfl⟩
  have hkk : k = 4 := by rw [show l.k = k by cases l; injection hlv with e; simp at e; exact e.1] at hk; exact hk
  subst hkk
  have HLV := hide hlv
  rw [hlv]
  clear hlv
  obtain ⟨w2, hw2⟩ : ∃ w2, ((W.alloc (.cells #[.int .i64 wd, .bool b] 60)).alloc (.cells #[.int .i64 4, .int .i64 n, .bool f, .slice A len cap] 24)).alloc (.cells #[.int .i64 0, .int .i64 0, .bool false, .slice none 0 0] 24) = w2 := ⟨_, rfl⟩
  obtain ⟨hq2, hs2, hd2, hc2, he2⟩ := box3 hw2
  have hb0 : W.heap.size < w2.heap.size := by omega
  have hb1 : W.heap.size + 1 < w2.heap.size := by omega
  have hb2 : W.heap.size + 2 < w2.heap.size := by omega
  have KA : Hid (∀ X, Q w2 X → X.cell? ⟨W.heap.size + 1, 0, none⟩ = some (.int .i64 4) ∧ X.cell? ⟨W.heap.size + 1, 1, none⟩ = some (.int .i64 n) ∧ X.cell? ⟨W.heap.size + 1, 2, none⟩ = some (.bool f) ∧ X.cell? ⟨W.heap.size + 1, 3, none⟩ = some (.slice A len cap) ∧ X.cell? ⟨W.heap.size, 0, none⟩ = some (.int .i64 wd) ∧ X.cell? ⟨W.heap.size, 1, none⟩ = some (.bool b)) := hide fun X hX => ⟨(hX.facts.1 _ 0 hb1).trans (hc2 0 _ rfl), (hX.facts.1 _ 1 hb1).trans (hc2 1 _ rfl), (hX.facts.1 _ 2 hb1).trans (hc2 2 _ rfl), (hX.facts.1 _ 3 hb1).trans (hc2 3 _ rfl), (hX.facts.1 _ 0 hb0).trans (hd2 0 _ rfl), (hX.facts.1 _ 1 hb0).trans (hd2 1 _ rfl)⟩
  have Z0 := hide (he2 0 _ rfl)
  have Z1 := hide (he2 1 _ rfl)
  have Z2 := hide (he2 2 _ rfl)
  have Z3 := hide (he2 3 _ rfl)
  have kb : w2.heap[W.heap.size + 2]? = some (.cells #[.int .i64 0, .int .i64 0, .bool false, .slice none 0 0] 24 (0, 0)) := by
    have h9 := heap_alloc_new ((W.alloc (.cells #[.int .i64 wd, .bool b] 60)).alloc (.cells #[.int .i64 4, .int .i64 n, .bool f, .slice A len cap] 24)) (.cells #[.int .i64 0, .int .i64 0, .bool false, .slice none 0 0] 24)
    rw [hw2] at h9
    simpa using h9
  have Y0 := hide (frz_new (j := 0) kb)
  have Y1 := hide (frz_new (j := 1) kb)
  have Y2 := hide (frz_new (j := 2) kb)
  have Y3 := hide (frz_new (j := 3) kb)
  have KB := hide kb
  clear kb
  have HW2 := hide hw2
  have HWQ := hide (hqW.trans hq2)
  have HQ2 := hide hq2
  have H := hide h
  clear h hw2 hq2 hqW hd2 hc2 he2
  have HKL : Hid (l.k = 4 ∧ l.n = n) := hide (by cases l; injection HLV.out with e; simp at e; exact ⟨e.1, e.2.1⟩)
  have HSL : Hid (Sl 4 encL w A len cap l.parts) := hide (by
    cases H.out with
    | mk a1 a2 a3 a4 a5 a6 =>
      injection HLV.out with e
      simp at e
      obtain ⟨e1, e2, e3, e4, e5, e6⟩ := e
      subst e1 e2 e3 e4 e5 e6
      exact a3)
  have HAL : Hid (∀ p ∈ l.parts, LayR w p ∧ p.count ≤ 1048576) := hide (fun p hp => ⟨(by cases H.out with | mk a1 a2 a3 a4 a5 a6 => exact a6 p hp), by have := count_part hp; omega⟩)
  have HVL := hide ho.vl
  have HNP : Hid (numP l = numP l) := hide rfl
  have hst0 : stE l (no : Int) = 0 := by unfold stE; rw [if_pos (by omega), if_neg (by omega)]
  have RES : Hid (stE l (no : Int) = 0 ∧ stA wd l (no : Int) = atL wd l no ∧ stL l (no : Int) = subL l no) := hide ⟨hst0, by unfold stA; rw [if_pos hst0, Int.toNat_natCast], by unfold stL; rw [if_pos hst0, Int.toNat_natCast]⟩
  have HLN := hide HSL.out.len
  have hnp : numP l = len := by
    unfold numP
    rw [HKL.out.1]
    have h9 := numP_one ho (.inl HKL.out.1)
    rw [HLN.out] at h9
    rw [h9]
    simp
  rw [hnp] at hn
  have HOF := hide (Offset4 H.out hc wd b ho no hk (by rw [HLN.out]; exact hn))
  obtain ⟨at9, hat9⟩ : ∃ a, atL wd l no = a := ⟨_, rfl⟩
  rw [HLV.out, hat9] at HOF
  unfold R1 at HOF
  have HAT := hide hat9
  have dm : decide ((len : Int) ≤ (no : Int)) = false := by simp; omega
  have dm2 : ¬ len ≤ no := by omega
  have dn : decide ((no : Int) < 0) = false := by simp <;> omega
  have hni : (no : Int) < (len : Int) := by omega
  have hq := Q.refl w2
  obtain ⟨g, o, m', x', y', B, l', d', qs, e, hb, hx, z0, z1, z2, z3⟩ := lay_at (HSL.out.up (HWQ.out.trans hq)) hn
  cases e
  obtain ⟨p, hpe⟩ : ∃ p, Lay.mk m' x' y' B l' d' qs = p := ⟨_, rfl⟩
  have hpv : p.v = .agg #[.int .i64 m', .int .i64 x', .bool y', .slice B l' d'] := by rw [← hpe]; rfl
  have hpe4 : encL p = [.int .i64 m', .int .i64 x', .bool y', .slice B l' d'] := by rw [← hpe]; rfl
  rw [hpe] at hx
  have HB2 : Hid (∀ X, Q w2 X → X.cell? ⟨g, o + no * 4, none⟩ = some (.int .i64 m') ∧ X.cell? ⟨g, o + no * 4 + 1, none⟩ = some (.int .i64 x') ∧ X.cell? ⟨g, o + no * 4 + 2, none⟩ = some (.bool y') ∧ X.cell? ⟨g, o + no * 4 + 3, none⟩ = some (.slice B l' d')) := by
    have hb2 := hb
    exact hide fun X hX => ⟨(hX.facts.1 _ _ hb2).trans z0, (hX.facts.1 _ _ hb2).trans z1, (hX.facts.1 _ _ hb2).trans z2, (hX.facts.1 _ _ hb2).trans z3⟩
  have hsub : subL l no = p := sub_get (by rw [HKL.out.1]; decide) hx
  have HSUB : Hid (Value.agg #[.int .i64 m', .int .i64 x', .bool y', .slice B l' d'] = (stL l (no : Int)).v) := hide (by rw [RES.out.2.2, hsub, hpv])
  clear hk hnp hst0 hat9 hq hx hpe hpv hpe4 hsub z0 z1 z2 z3
  have Q22 := hide (Q.refl w2)
  obtain ⟨k0, k1, k2, k3, t0, t1⟩ := KA.out w2 Q22.out
  go_enter Try.func67, Try.ntmps67
  go_upto_region 1 with fail
  rw [HW2.out]
  go_wp2_with fail
  refine (HOF.out w2 HWQ.out).mono ?_
  rintro e w3 ⟨rfl, hq3⟩
  have Q23 := hide hq3
  clear hq3 k0 k1 k2 k3 t0 t1
  obtain ⟨k0, k1, k2, k3, t0, t1⟩ := KA.out w3 Q23.out
  obtain ⟨p0, p1, p2, p3⟩ := HB2.out w3 Q23.out
  have z0 := (Q23.out.facts.1 _ 0 hb2).trans Z0.out
  have z1 := (Q23.out.facts.1 _ 1 hb2).trans Z1.out
  have z2 := (Q23.out.facts.1 _ 2 hb2).trans Z2.out
  have z3 := (Q23.out.facts.1 _ 3 hb2).trans Z3.out
  have y0 := (Q23.out.facts.2.1 _ 0 hb2).trans Y0.out
  have y1 := (Q23.out.facts.2.1 _ 1 hb2).trans Y1.out
  have y2 := (Q23.out.facts.2.1 _ 2 hb2).trans Y2.out
  have y3 := (Q23.out.facts.2.1 _ 3 hb2).trans Y3.out
  have HS5 := hide (set4c (.int .i64 m') (.int .i64 x') (.bool y') (.slice B l' d') z0 z1 z2 z3 _ rfl)
  have HQS := hide (q_set4 (b := W.heap.size + 2) (.int .i64 m') (.int .i64 x') (.bool y') (.slice B l' d') (HQ2.out.trans Q23.out) (by omega))
  go_upto_region 8 with fail
  go_region
  go_wp2_with fail
  obtain ⟨s0, s1, s2, s3⟩ := HS5.out
  refine bodyPost_ret (v := .tuple #[.int .i64 at9, .agg #[.int .i64 m', .int .i64 x', .bool y', .slice B l' d'], .int .i64 0]) (by simp [results, Try.results67, go_sem, s0, s1, s2, s3]) rfl ?_
  exact ⟨by rw [RES.out.1, RES.out.2.1, HAT.out, ← HSUB.out] <;> rfl, HQS.out.drew⟩
set_option maxRecDepth 100000 in
set_option maxHeartbeats 2000000 in
theorem part_in6 {w : World} {l : Lay} (h : LayR w l) (hc : l.count ≤ 1048576) (wd : Int) (b : Bool) (ho : Okw wd l) (no : Nat) (hk : l.k = 6) (hn : no < numP l) : ∀ W, Q w W → Calls Try.prog 67 #[tgW wd b, l.v, .int .i64 (no : Int)] W (R1 W (.tuple #[.int .i64 (stA wd l (no : Int)), (stL l (no : Int)).v, .int .i64 (stE l (no : Int))])) := by
  intro W hqW
  unfold R1
  obtain ⟨k, n, f, A, len, cap, hlv⟩ : ∃ k n f A len cap, l.v = .agg #[.int .i64 k, .int .i64 n, .bool f, .slice A len cap] := by cases l; exact ⟨_, _, _, _, _, _, rfl⟩
  have hkk : k = 6 := by rw [show l.k = k by cases l; injection hlv with e; simp at e; exact e.1] at hk; exact hk
  subst hkk
  have HLV := hide hlv
  rw [hlv]
  clear hlv
  obtain ⟨w2, hw2⟩ : ∃ w2, ((W.alloc (.cells #[.int .i64 wd, .bool b] 60)).alloc (.cells #[.int .i64 6, .int .i64 n, .bool f, .slice A len cap] 24)).alloc (.cells #[.int .i64 0, .int .i64 0, .bool false, .slice none 0 0] 24) = w2 := ⟨_, rfl⟩
  obtain ⟨hq2, hs2, hd2, hc2, he2⟩ := box3 hw2
  have hb0 : W.heap.size < w2.heap.size := by omega
  have hb1 : W.heap.size + 1 < w2.heap.size := by omega
  have hb2 : W.heap.size + 2 < w2.heap.size := by omega
  have KA : Hid (∀ X, Q w2 X → X.cell? ⟨W.heap.size + 1, 0, none⟩ = some (.int .i64 6) ∧ X.cell? ⟨W.heap.size + 1, 1, none⟩ = some (.int .i64 n) ∧ X.cell? ⟨W.heap.size + 1, 2, none⟩ = some (.bool f) ∧ X.cell? ⟨W.heap.size + 1, 3, none⟩ = some (.slice A len cap) ∧ X.cell? ⟨W.heap.size, 0, none⟩ = some (.int .i64 wd) ∧ X.cell? ⟨W.heap.size, 1, none⟩ = some (.bool b)) := hide fun X hX => ⟨(hX.facts.1 _ 0 hb1).trans (hc2 0 _ rfl), (hX.facts.1 _ 1 hb1).trans (hc2 1 _ rfl), (hX.facts.1 _ 2 hb1).trans (hc2 2 _ rfl), (hX.facts.1 _ 3 hb1).trans (hc2 3 _ rfl), (hX.facts.1 _ 0 hb0).trans (hd2 0 _ rfl), (hX.facts.1 _ 1 hb0).trans (hd2 1 _ rfl)⟩
  have Z0 := hide (he2 0 _ rfl)
  have Z1 := hide (he2 1 _ rfl)
  have Z2 := hide (he2 2 _ rfl)
  have Z3 := hide (he2 3 _ rfl)
  have kb : w2.heap[W.heap.size + 2]? = some (.cells #[.int .i64 0, .int .i64 0, .bool false, .slice none 0 0] 24 (0, 0)) := by
    have h9 := heap_alloc_new ((W.alloc (.cells #[.int .i64 wd, .bool b] 60)).alloc (.cells #[.int .i64 6, .int .i64 n, .bool f, .slice A len cap] 24)) (.cells #[.int .i64 0, .int .i64 0, .bool false, .slice none 0 0] 24)
    rw [hw2] at h9
    simpa using h9
  have Y0 := hide (frz_new (j := 0) kb)
  have Y1 := hide (frz_new (j := 1) kb)
  have Y2 := hide (frz_new (j := 2) kb)
  have Y3 := hide (frz_new (j := 3) kb)
  have KB := hide kb
  clear kb
  have HW2 := hide hw2
  have HWQ := hide (hqW.trans hq2)
  have HQ2 := hide hq2
  have H := hide h
  clear h hw2 hq2 hqW hd2 hc2 he2
  have HKL : Hid (l.k = 6 ∧ l.n = n) := hide (by cases l; injection HLV.out with e; simp at e; exact ⟨e.1, e.2.1⟩)
  have HSL : Hid (Sl 4 encL w A len cap l.parts) := hide (by
    cases H.out with
    | mk a1 a2 a3 a4 a5 a6 =>
      injection HLV.out with e
      simp at e
      obtain ⟨e1, e2, e3, e4, e5, e6⟩ := e
      subst e1 e2 e3 e4 e5 e6
      exact a3)
  have HAL : Hid (∀ p ∈ l.parts, LayR w p ∧ p.count ≤ 1048576) := hide (fun p hp => ⟨(by cases H.out with | mk a1 a2 a3 a4 a5 a6 => exact a6 p hp), by have := count_part hp; omega⟩)
  have HVL := hide ho.vl
  have HNP : Hid (numP l = numP l) := hide rfl
  have hst0 : stE l (no : Int) = 0 := by unfold stE; rw [if_pos (by omega), if_neg (by omega)]
  have RES : Hid (stE l (no : Int) = 0 ∧ stA wd l (no : Int) = atL wd l no ∧ stL l (no : Int) = subL l no) := hide ⟨hst0, by unfold stA; rw [if_pos hst0, Int.toNat_natCast], by unfold stL; rw [if_pos hst0, Int.toNat_natCast]⟩
  have HLN := hide HSL.out.len
  have hnp : numP l = len := by
    unfold numP
    rw [HKL.out.1]
    simp
    exact HLN.out
  rw [hnp] at hn
  have HOF := hide (Offset6 H.out hc wd b ho no hk (by rw [HLN.out]; exact hn))
  obtain ⟨at9, hat9⟩ : ∃ a, atL wd l no = a := ⟨_, rfl⟩
  rw [HLV.out, hat9] at HOF
  unfold R1 at HOF
  have HAT := hide hat9
  have dm : decide ((len : Int) ≤ (no : Int)) = false := by simp; omega
  have dm2 : ¬ len ≤ no := by omega
  have dn : decide ((no : Int) < 0) = false := by simp <;> omega
  have hni : (no : Int) < (len : Int) := by omega
  have hq := Q.refl w2
  obtain ⟨g, o, m', x', y', B, l', d', qs, e, hb, hx, z0, z1, z2, z3⟩ := lay_at (HSL.out.up (HWQ.out.trans hq)) hn
  cases e
  obtain ⟨p, hpe⟩ : ∃ p, Lay.mk m' x' y' B l' d' qs = p := ⟨_, rfl⟩
  have hpv : p.v = .agg #[.int .i64 m', .int .i64 x', .bool y', .slice B l' d'] := by rw [← hpe]; rfl
  have hpe4 : encL p = [.int .i64 m', .int .i64 x', .bool y', .slice B l' d'] := by rw [← hpe]; rfl
  rw [hpe] at hx
  have HB2 : Hid (∀ X, Q w2 X → X.cell? ⟨g, o + no * 4, none⟩ = some (.int .i64 m') ∧ X.cell? ⟨g, o + no * 4 + 1, none⟩ = some (.int .i64 x') ∧ X.cell? ⟨g, o + no * 4 + 2, none⟩ = some (.bool y') ∧ X.cell? ⟨g, o + no * 4 + 3, none⟩ = some (.slice B l' d')) := by
    have hb2 := hb
    exact hide fun X hX => ⟨(hX.facts.1 _ _ hb2).trans z0, (hX.facts.1 _ _ hb2).trans z1, (hX.facts.1 _ _ hb2).trans z2, (hX.facts.1 _ _ hb2).trans z3⟩
  have hsub : subL l no = p := sub_get (by rw [HKL.out.1]; decide) hx
  have HSUB : Hid (Value.agg #[.int .i64 m', .int .i64 x', .bool y', .slice B l' d'] = (stL l (no : Int)).v) := hide (by rw [RES.out.2.2, hsub, hpv])
  clear hk hnp hst0 hat9 hq hx hpe hpv hpe4 hsub z0 z1 z2 z3
  have Q22 := hide (Q.refl w2)
  obtain ⟨k0, k1, k2, k3, t0, t1⟩ := KA.out w2 Q22.out
  go_enter Try.func67, Try.ntmps67
  go_upto_region 1 with fail
  rw [HW2.out]
  go_wp2_with fail
  refine (HOF.out w2 HWQ.out).mono ?_
  rintro e w3 ⟨rfl, hq3⟩
  have Q23 := hide hq3
  clear hq3 k0 k1 k2 k3 t0 t1
  obtain ⟨k0, k1, k2, k3, t0, t1⟩ := KA.out w3 Q23.out
  obtain ⟨p0, p1, p2, p3⟩ := HB2.out w3 Q23.out
  have z0 := (Q23.out.facts.1 _ 0 hb2).trans Z0.out
  have z1 := (Q23.out.facts.1 _ 1 hb2).trans Z1.out
  have z2 := (Q23.out.facts.1 _ 2 hb2).trans Z2.out
  have z3 := (Q23.out.facts.1 _ 3 hb2).trans Z3.out
  have y0 := (Q23.out.facts.2.1 _ 0 hb2).trans Y0.out
  have y1 := (Q23.out.facts.2.1 _ 1 hb2).trans Y1.out
  have y2 := (Q23.out.facts.2.1 _ 2 hb2).trans Y2.out
  have y3 := (Q23.out.facts.2.1 _ 3 hb2).trans Y3.out
  have HS5 := hide (set4c (.int .i64 m') (.int .i64 x') (.bool y') (.slice B l' d') z0 z1 z2 z3 _ rfl)
  have HQS := hide (q_set4 (b := W.heap.size + 2) (.int .i64 m') (.int .i64 x') (.bool y') (.slice B l' d') (HQ2.out.trans Q23.out) (by omega))
  go_upto_region 8 with fail
  go_region
  go_wp2_with fail
  obtain ⟨s0, s1, s2, s3⟩ := HS5.out
  refine bodyPost_ret (v := .tuple #[.int .i64 at9, .agg #[.int .i64 m', .int .i64 x', .bool y', .slice B l' d'], .int .i64 0]) (by simp [results, Try.results67, go_sem, s0, s1, s2, s3]) rfl ?_
  exact ⟨by rw [RES.out.1, RES.out.2.1, HAT.out, ← HSUB.out] <;> rfl, HQS.out.drew⟩
set_option maxRecDepth 100000 in
set_option maxHeartbeats 2000000 in
theorem part_in8 {w : World} {l : Lay} (h : LayR w l) (hc : l.count ≤ 1048576) (wd : Int) (b : Bool) (ho : Okw wd l) (no : Nat) (hk : l.k = 8) (hn : no < numP l) : ∀ W, Q w W → Calls Try.prog 67 #[tgW wd b, l.v, .int .i64 (no : Int)] W (R1 W (.tuple #[.int .i64 (stA wd l (no : Int)), (stL l (no : Int)).v, .int .i64 (stE l (no : Int))])) := by
  intro W hqW
  unfold R1
  obtain ⟨k, n, f, A, len, cap, hlv⟩ : ∃ k n f A len cap, l.v = .agg #[.int .i64 k, .int .i64 n, .bool f, .slice A len cap] := by cases l; exact ⟨_, _, _, _, _, _, rfl⟩
  have hkk : k = 8 := by rw [show l.k = k by cases l; injection hlv with e; simp at e; exact e.1] at hk; exact hk
  subst hkk
  have HLV := hide hlv
  rw [hlv]
  clear hlv
  obtain ⟨w2, hw2⟩ : ∃ w2, ((W.alloc (.cells #[.int .i64 wd, .bool b] 60)).alloc (.cells #[.int .i64 8, .int .i64 n, .bool f, .slice A len cap] 24)).alloc (.cells #[.int .i64 0, .int .i64 0, .bool false, .slice none 0 0] 24) = w2 := ⟨_, rfl⟩
  obtain ⟨hq2, hs2, hd2, hc2, he2⟩ := box3 hw2
  have hb0 : W.heap.size < w2.heap.size := by omega
  have hb1 : W.heap.size + 1 < w2.heap.size := by omega
  have hb2 : W.heap.size + 2 < w2.heap.size := by omega
  have KA : Hid (∀ X, Q w2 X → X.cell? ⟨W.heap.size + 1, 0, none⟩ = some (.int .i64 8) ∧ X.cell? ⟨W.heap.size + 1, 1, none⟩ = some (.int .i64 n) ∧ X.cell? ⟨W.heap.size + 1, 2, none⟩ = some (.bool f) ∧ X.cell? ⟨W.heap.size + 1, 3, none⟩ = some (.slice A len cap) ∧ X.cell? ⟨W.heap.size, 0, none⟩ = some (.int .i64 wd) ∧ X.cell? ⟨W.heap.size, 1, none⟩ = some (.bool b)) := hide fun X hX => ⟨(hX.facts.1 _ 0 hb1).trans (hc2 0 _ rfl), (hX.facts.1 _ 1 hb1).trans (hc2 1 _ rfl), (hX.facts.1 _ 2 hb1).trans (hc2 2 _ rfl), (hX.facts.1 _ 3 hb1).trans (hc2 3 _ rfl), (hX.facts.1 _ 0 hb0).trans (hd2 0 _ rfl), (hX.facts.1 _ 1 hb0).trans (hd2 1 _ rfl)⟩
  have Z0 := hide (he2 0 _ rfl)
  have Z1 := hide (he2 1 _ rfl)
  have Z2 := hide (he2 2 _ rfl)
  have Z3 := hide (he2 3 _ rfl)
  have kb : w2.heap[W.heap.size + 2]? = some (.cells #[.int .i64 0, .int .i64 0, .bool false, .slice none 0 0] 24 (0, 0)) := by
    have h9 := heap_alloc_new ((W.alloc (.cells #[.int .i64 wd, .bool b] 60)).alloc (.cells #[.int .i64 8, .int .i64 n, .bool f, .slice A len cap] 24)) (.cells #[.int .i64 0, .int .i64 0, .bool false, .slice none 0 0] 24)
    rw [hw2] at h9
    simpa using h9
  have Y0 := hide (frz_new (j := 0) kb)
  have Y1 := hide (frz_new (j := 1) kb)
  have Y2 := hide (frz_new (j := 2) kb)
  have Y3 := hide (frz_new (j := 3) kb)
  have KB := hide kb
  clear kb
  have HW2 := hide hw2
  have HWQ := hide (hqW.trans hq2)
  have HQ2 := hide hq2
  have H := hide h
  clear h hw2 hq2 hqW hd2 hc2 he2
  have HKL : Hid (l.k = 8 ∧ l.n = n) := hide (by cases l; injection HLV.out with e; simp at e; exact ⟨e.1, e.2.1⟩)
  have HSL : Hid (Sl 4 encL w A len cap l.parts) := hide (by
    cases H.out with
    | mk a1 a2 a3 a4 a5 a6 =>
      injection HLV.out with e
      simp at e
      obtain ⟨e1, e2, e3, e4, e5, e6⟩ := e
      subst e1 e2 e3 e4 e5 e6
      exact a3)
  have HAL : Hid (∀ p ∈ l.parts, LayR w p ∧ p.count ≤ 1048576) := hide (fun p hp => ⟨(by cases H.out with | mk a1 a2 a3 a4 a5 a6 => exact a6 p hp), by have := count_part hp; omega⟩)
  have HVL := hide ho.vl
  have HNP : Hid (numP l = numP l) := hide rfl
  have hst0 : stE l (no : Int) = 0 := by unfold stE; rw [if_pos (by omega), if_neg (by omega)]
  have RES : Hid (stE l (no : Int) = 0 ∧ stA wd l (no : Int) = atL wd l no ∧ stL l (no : Int) = subL l no) := hide ⟨hst0, by unfold stA; rw [if_pos hst0, Int.toNat_natCast], by unfold stL; rw [if_pos hst0, Int.toNat_natCast]⟩
  have HLN := hide HSL.out.len
  have hnp : numP l = len := by
    unfold numP
    rw [HKL.out.1]
    simp
    exact HLN.out
  rw [hnp] at hn
  have HOF := hide (Offset8 H.out hc wd b ho no hk (by rw [HLN.out]; exact hn))
  obtain ⟨at9, hat9⟩ : ∃ a, atL wd l no = a := ⟨_, rfl⟩
  rw [HLV.out, hat9] at HOF
  unfold R1 at HOF
  have HAT := hide hat9
  have dm : decide ((len : Int) ≤ (no : Int)) = false := by simp; omega
  have dm2 : ¬ len ≤ no := by omega
  have dn : decide ((no : Int) < 0) = false := by simp <;> omega
  have hni : (no : Int) < (len : Int) := by omega
  have hq := Q.refl w2
  obtain ⟨g, o, m', x', y', B, l', d', qs, e, hb, hx, z0, z1, z2, z3⟩ := lay_at (HSL.out.up (HWQ.out.trans hq)) hn
  cases e
  obtain ⟨p, hpe⟩ : ∃ p, Lay.mk m' x' y' B l' d' qs = p := ⟨_, rfl⟩
  have hpv : p.v = .agg #[.int .i64 m', .int .i64 x', .bool y', .slice B l' d'] := by rw [← hpe]; rfl
  have hpe4 : encL p = [.int .i64 m', .int .i64 x', .bool y', .slice B l' d'] := by rw [← hpe]; rfl
  rw [hpe] at hx
  have HB2 : Hid (∀ X, Q w2 X → X.cell? ⟨g, o + no * 4, none⟩ = some (.int .i64 m') ∧ X.cell? ⟨g, o + no * 4 + 1, none⟩ = some (.int .i64 x') ∧ X.cell? ⟨g, o + no * 4 + 2, none⟩ = some (.bool y') ∧ X.cell? ⟨g, o + no * 4 + 3, none⟩ = some (.slice B l' d')) := by
    have hb2 := hb
    exact hide fun X hX => ⟨(hX.facts.1 _ _ hb2).trans z0, (hX.facts.1 _ _ hb2).trans z1, (hX.facts.1 _ _ hb2).trans z2, (hX.facts.1 _ _ hb2).trans z3⟩
  have hsub : subL l no = p := sub_get (by rw [HKL.out.1]; decide) hx
  have HSUB : Hid (Value.agg #[.int .i64 m', .int .i64 x', .bool y', .slice B l' d'] = (stL l (no : Int)).v) := hide (by rw [RES.out.2.2, hsub, hpv])
  clear hk hnp hst0 hat9 hq hx hpe hpv hpe4 hsub z0 z1 z2 z3
  have Q22 := hide (Q.refl w2)
  obtain ⟨k0, k1, k2, k3, t0, t1⟩ := KA.out w2 Q22.out
  go_enter Try.func67, Try.ntmps67
  go_upto_region 1 with fail
  rw [HW2.out]
  go_wp2_with fail
  refine (HOF.out w2 HWQ.out).mono ?_
  rintro e w3 ⟨rfl, hq3⟩
  have Q23 := hide hq3
  clear hq3 k0 k1 k2 k3 t0 t1
  obtain ⟨k0, k1, k2, k3, t0, t1⟩ := KA.out w3 Q23.out
  obtain ⟨p0, p1, p2, p3⟩ := HB2.out w3 Q23.out
  have z0 := (Q23.out.facts.1 _ 0 hb2).trans Z0.out
  have z1 := (Q23.out.facts.1 _ 1 hb2).trans Z1.out
  have z2 := (Q23.out.facts.1 _ 2 hb2).trans Z2.out
  have z3 := (Q23.out.facts.1 _ 3 hb2).trans Z3.out
  have y0 := (Q23.out.facts.2.1 _ 0 hb2).trans Y0.out
  have y1 := (Q23.out.facts.2.1 _ 1 hb2).trans Y1.out
  have y2 := (Q23.out.facts.2.1 _ 2 hb2).trans Y2.out
  have y3 := (Q23.out.facts.2.1 _ 3 hb2).trans Y3.out
  have HS5 := hide (set4c (.int .i64 m') (.int .i64 x') (.bool y') (.slice B l' d') z0 z1 z2 z3 _ rfl)
  have HQS := hide (q_set4 (b := W.heap.size + 2) (.int .i64 m') (.int .i64 x') (.bool y') (.slice B l' d') (HQ2.out.trans Q23.out) (by omega))
  go_upto_region 8 with fail
  go_region
  go_wp2_with fail
  obtain ⟨s0, s1, s2, s3⟩ := HS5.out
  refine bodyPost_ret (v := .tuple #[.int .i64 at9, .agg #[.int .i64 m', .int .i64 x', .bool y', .slice B l' d'], .int .i64 0]) (by simp [results, Try.results67, go_sem, s0, s1, s2, s3]) rfl ?_
  exact ⟨by rw [RES.out.1, RES.out.2.1, HAT.out, ← HSUB.out] <;> rfl, HQS.out.drew⟩
set_option maxRecDepth 100000 in
set_option maxHeartbeats 2000000 in
theorem part_in5 {w : World} {l : Lay} (h : LayR w l) (hc : l.count ≤ 1048576) (wd : Int) (b : Bool) (ho : Okw wd l) (no : Nat) (hk : l.k = 5) (hn : no < numP l) : ∀ W, Q w W → Calls Try.prog 67 #[tgW wd b, l.v, .int .i64 (no : Int)] W (R1 W (.tuple #[.int .i64 (stA wd l (no : Int)), (stL l (no : Int)).v, .int .i64 (stE l (no : Int))])) := by
  intro W hqW
  unfold R1
  obtain ⟨k, n, f, A, len, cap, hlv⟩ : ∃ k n f A len cap, l.v = .agg #[.int .i64 k, .int .i64 n, .bool f, .slice A len cap] := by cases l; exact ⟨_, _, _, _, _, _, rfl⟩
  have hkk : k = 5 := by rw [show l.k = k by cases l; injection hlv with e; simp at e; exact e.1] at hk; exact hk
  subst hkk
  have HLV := hide hlv
  rw [hlv]
  clear hlv
  obtain ⟨w2, hw2⟩ : ∃ w2, ((W.alloc (.cells #[.int .i64 wd, .bool b] 60)).alloc (.cells #[.int .i64 5, .int .i64 n, .bool f, .slice A len cap] 24)).alloc (.cells #[.int .i64 0, .int .i64 0, .bool false, .slice none 0 0] 24) = w2 := ⟨_, rfl⟩
  obtain ⟨hq2, hs2, hd2, hc2, he2⟩ := box3 hw2
  have hb0 : W.heap.size < w2.heap.size := by omega
  have hb1 : W.heap.size + 1 < w2.heap.size := by omega
  have hb2 : W.heap.size + 2 < w2.heap.size := by omega
  have KA : Hid (∀ X, Q w2 X → X.cell? ⟨W.heap.size + 1, 0, none⟩ = some (.int .i64 5) ∧ X.cell? ⟨W.heap.size + 1, 1, none⟩ = some (.int .i64 n) ∧ X.cell? ⟨W.heap.size + 1, 2, none⟩ = some (.bool f) ∧ X.cell? ⟨W.heap.size + 1, 3, none⟩ = some (.slice A len cap) ∧ X.cell? ⟨W.heap.size, 0, none⟩ = some (.int .i64 wd) ∧ X.cell? ⟨W.heap.size, 1, none⟩ = some (.bool b)) := hide fun X hX => ⟨(hX.facts.1 _ 0 hb1).trans (hc2 0 _ rfl), (hX.facts.1 _ 1 hb1).trans (hc2 1 _ rfl), (hX.facts.1 _ 2 hb1).trans (hc2 2 _ rfl), (hX.facts.1 _ 3 hb1).trans (hc2 3 _ rfl), (hX.facts.1 _ 0 hb0).trans (hd2 0 _ rfl), (hX.facts.1 _ 1 hb0).trans (hd2 1 _ rfl)⟩
  have Z0 := hide (he2 0 _ rfl)
  have Z1 := hide (he2 1 _ rfl)
  have Z2 := hide (he2 2 _ rfl)
  have Z3 := hide (he2 3 _ rfl)
  have kb : w2.heap[W.heap.size + 2]? = some (.cells #[.int .i64 0, .int .i64 0, .bool false, .slice none 0 0] 24 (0, 0)) := by
    have h9 := heap_alloc_new ((W.alloc (.cells #[.int .i64 wd, .bool b] 60)).alloc (.cells #[.int .i64 5, .int .i64 n, .bool f, .slice A len cap] 24)) (.cells #[.int .i64 0, .int .i64 0, .bool false, .slice none 0 0] 24)
    rw [hw2] at h9
    simpa using h9
  have Y0 := hide (frz_new (j := 0) kb)
  have Y1 := hide (frz_new (j := 1) kb)
  have Y2 := hide (frz_new (j := 2) kb)
  have Y3 := hide (frz_new (j := 3) kb)
  have KB := hide kb
  clear kb
  have HW2 := hide hw2
  have HWQ := hide (hqW.trans hq2)
  have HQ2 := hide hq2
  have HQW := hide hqW
  have H := hide h
  clear h hw2 hq2 hqW hd2 hc2 he2
  have HKL : Hid (l.k = 5 ∧ l.n = n) := hide (by cases l; injection HLV.out with e; simp at e; exact ⟨e.1, e.2.1⟩)
  have HSL : Hid (Sl 4 encL w A len cap l.parts) := hide (by
    cases H.out with
    | mk a1 a2 a3 a4 a5 a6 =>
      injection HLV.out with e
      simp at e
      obtain ⟨e1, e2, e3, e4, e5, e6⟩ := e
      subst e1 e2 e3 e4 e5 e6
      exact a3)
  have HAL : Hid (∀ p ∈ l.parts, LayR w p ∧ p.count ≤ 1048576) := hide (fun p hp => ⟨(by cases H.out with | mk a1 a2 a3 a4 a5 a6 => exact a6 p hp), by have := count_part hp; omega⟩)
  have HVL := hide ho.vl
  have HNP : Hid (numP l = numP l) := hide rfl
  have hst0 : stE l (no : Int) = 0 := by unfold stE; rw [if_pos (by omega), if_neg (by omega)]
  have RES : Hid (stE l (no : Int) = 0 ∧ stA wd l (no : Int) = atL wd l no ∧ stL l (no : Int) = subL l no) := hide ⟨hst0, by unfold stA; rw [if_pos hst0, Int.toNat_natCast], by unfold stL; rw [if_pos hst0, Int.toNat_natCast]⟩
  have HLN := hide HSL.out.len
  have hnp : numP l = n.toNat := by unfold numP; rw [HKL.out.1, HKL.out.2]; simp
  rw [hnp] at hn
  have hbd := stA_bd H.out ho (no : Int)
  rw [RES.out.2.1] at hbd
  obtain ⟨at9, hat9⟩ : ∃ a, atL wd l no = a := ⟨_, rfl⟩
  rw [hat9] at hbd
  have HAT := hide hat9
  have dm : decide (n ≤ (no : Int)) = false := by simp; omega
  have dm2 : ¬ n ≤ (no : Int) := by omega
  have dn : decide ((no : Int) < 0) = false := by simp <;> omega
  have hl1 : len = 1 := by
    have h9 := numP_one ho (.inr HKL.out.1)
    rw [HLN.out] at h9
    exact h9
  have HL1 := hide hl1
  have hq := Q.refl w2
  obtain ⟨g, o, m', x', y', B, l', d', qs, e, hb, hx, z0, z1, z2, z3⟩ := lay_at (HSL.out.up HQW.out) (show 0 < len by omega)
  cases e
  obtain ⟨p, hpe⟩ : ∃ p, Lay.mk m' x' y' B l' d' qs = p := ⟨_, rfl⟩
  have hpv : p.v = .agg #[.int .i64 m', .int .i64 x', .bool y', .slice B l' d'] := by rw [← hpe]; rfl
  have hpe4 : encL p = [.int .i64 m', .int .i64 x', .bool y', .slice B l' d'] := by rw [← hpe]; rfl
  rw [hpe] at hx
  have HB2 : Hid (∀ X, Q w2 X → X.cell? ⟨g, o + 0 * 4, none⟩ = some (.int .i64 m') ∧ X.cell? ⟨g, o + 0 * 4 + 1, none⟩ = some (.int .i64 x') ∧ X.cell? ⟨g, o + 0 * 4 + 2, none⟩ = some (.bool y') ∧ X.cell? ⟨g, o + 0 * 4 + 3, none⟩ = some (.slice B l' d')) := by
    have hb2 := hb
    exact hide fun X hX => ⟨((HQ2.out.trans hX).facts.1 _ _ hb2).trans z0, ((HQ2.out.trans hX).facts.1 _ _ hb2).trans z1, ((HQ2.out.trans hX).facts.1 _ _ hb2).trans z2, ((HQ2.out.trans hX).facts.1 _ _ hb2).trans z3⟩
  have hsub : subL l no = p := sub_arr HKL.out.1 hx
  have HSUB : Hid (Value.agg #[.int .i64 m', .int .i64 x', .bool y', .slice B l' d'] = (stL l (no : Int)).v) := hide (by rw [RES.out.2.2, hsub, hpv])
  have hpm := List.mem_of_getElem? hx
  have HCS := hide (fun W' hW' => csize_any (HAL.out p hpm).1 (HAL.out p hpm).2 wd b W' hW')
  obtain ⟨sz, hsz⟩ : ∃ sz, szL wd p = sz := ⟨_, rfl⟩
  rw [hpv, hsz] at HCS
  unfold R1 at HCS
  have HMUL : Hid ((no : Int) * sz = at9) := hide (by
    rw [← hat9]
    unfold atL
    rw [if_pos HKL.out.1, hsub, hsz])
  have HBD := hide hbd
  have KC : Hid (∀ X : World, (∀ i, i < w2.heap.size → i ≠ W.heap.size + 2 → X.heap[i]? = w2.heap[i]?) → X.cell? ⟨W.heap.size, 0, none⟩ = some (.int .i64 wd) ∧ X.cell? ⟨W.heap.size, 1, none⟩ = some (.bool b) ∧ X.cell? ⟨W.heap.size + 1, 3, none⟩ = some (.slice (some ⟨g, o, none⟩) len cap) ∧ X.cell? ⟨g, o + 0 * 4, none⟩ = some (.int .i64 m') ∧ X.cell? ⟨g, o + 0 * 4 + 1, none⟩ = some (.int .i64 x') ∧ X.cell? ⟨g, o + 0 * 4 + 2, none⟩ = some (.bool y') ∧ X.cell? ⟨g, o + 0 * 4 + 3, none⟩ = some (.slice B l' d')) := by
    have hgl : g < W.heap.size := hb
    have hgl2 : g < w2.heap.size := by omega
    obtain ⟨y0, y1, y2, y3, y4, y5⟩ := KA.out w2 (Q.refl w2)
    obtain ⟨v0, v1, v2, v3⟩ := HB2.out w2 (Q.refl w2)
    exact hide fun X hX => ⟨(World.cell?_of_block (hX W.heap.size hb0 (by omega))).trans y4, (World.cell?_of_block (hX W.heap.size hb0 (by omega))).trans y5, (World.cell?_of_block (hX (W.heap.size + 1) hb1 (by omega))).trans y3, (World.cell?_of_block (hX g hgl2 (by omega))).trans v0, (World.cell?_of_block (hX g hgl2 (by omega))).trans v1, (World.cell?_of_block (hX g hgl2 (by omega))).trans v2, (World.cell?_of_block (hX g hgl2 (by omega))).trans v3⟩
  clear hk hnp hst0 hat9 hq hx hpe hpv hpe4 hsub z0 z1 z2 z3 hsz hpm hl1 hbd
  have Q22 := hide (Q.refl w2)
  obtain ⟨k0, k1, k2, k3, t0, t1⟩ := KA.out w2 Q22.out
  go_enter Try.func67, Try.ntmps67
  go_upto_region 1 with fail
  rw [HW2.out]
  go_upto_region 12 with fail
  clear k0 k1 k2 k3 t0 t1
  refine Ri.madeY (C := CW 13 W w2 (W.heap.size + 2) 24 (#[.int .i64 0, .int .i64 0, .bool false, .slice none 0 0] : Array Value) (#[.int .i64 m', .int .i64 x', .bool y', .slice B l' d'] : Array Value)) [13] [0, 1, 2, 3, 4, 5, 6, 7, 8, 9, 10, 11, 12, 13, 14] [] (fun S0 S2 f f2 w1 w2 hk X hq => X.q hk hq) (Ri.phi [Ri.isV (.int .i64 (no : Int)), Ri.isV (tgW wd b), Ri.isV (.pointer (some ⟨W.heap.size + 1, 3, none⟩)), Ri.isV (.slice (some ⟨g, o, none⟩) len cap), Ri.isV (.pointer (some ⟨g, o + 0 * 4, none⟩)), Ri.isV (.agg #[.int .i64 m', .int .i64 x', .bool y', .slice B l' d']), Ri.isV (.int .i64 sz), Ri.isV (.int .i64 at9), Ri.isV (.pointer (some ⟨W.heap.size + 1, 3, none⟩)), Ri.isV (.slice (some ⟨g, o, none⟩) len cap), Ri.isV (.pointer (some ⟨g, o + 0 * 4, none⟩)), Ri.isV (.agg #[.int .i64 m', .int .i64 x', .bool y', .slice B l' d']), Ri.isV (.int .i64 at9), (fun _ _ => True), Ri.isV (.int .i64 0)]) (by kernel_rfl) (by kernel_rfl) (by kernel_rfl) (⟨HQ2.out.trans (Q.refl _).drew, Nat.le_refl _, fun _ _ _ => rfl, by rw [if_neg (by decide)]; exact KB.out⟩) (Ri.phi_mono ?_) (Ri.phi_fix ?_) ?_ ?_
  · exact ⟨Ri.mono_isV _, Ri.mono_isV _, Ri.mono_isV _, Ri.mono_isV _, Ri.mono_isV _, Ri.mono_isV _, Ri.mono_isV _, Ri.mono_isV _, Ri.mono_isV _, Ri.mono_isV _, Ri.mono_isV _, Ri.mono_isV _, Ri.mono_isV _, (fun _ _ _ h _ => h), Ri.mono_isV _, trivial⟩
  · exact ⟨fun _ => Ri.fix_isV _, fun _ => Ri.fix_isV _, fun _ => Ri.fix_isV _, fun _ => Ri.fix_isV _, fun _ => Ri.fix_isV _, fun _ => Ri.fix_isV _, fun _ => Ri.fix_isV _, fun _ => Ri.fix_isV _, fun _ => Ri.fix_isV _, fun _ => Ri.fix_isV _, fun _ => Ri.fix_isV _, fun _ => Ri.fix_isV _, fun _ => Ri.fix_isV _, (fun _ _ _ _ h => h), fun _ => Ri.fix_isV _, trivial⟩
  · refine Ri.All.cons ?_ (Ri.All.cons ?_ (Ri.All.cons ?_ (Ri.All.cons ?_ (Ri.All.cons ?_ (Ri.All.cons ?_ (Ri.All.cons ?_ (Ri.All.cons ?_ (Ri.All.cons ?_ (Ri.All.cons ?_ (Ri.All.cons ?_ (Ri.All.cons ?_ (Ri.All.cons ?_ (Ri.All.cons ?_ (Ri.All.cons ?_ (Ri.All.nil)))))))))))))))
    · refine Ri.StepY.q (by kernel_rfl) rfl fun S9 f9 W9 hS hD hq hf A9 hA hB hO => ?_
      have e1 := (hB 2 (by kernel_rfl)).trans (show _ = .int .i64 (no : Int) by simp [Act.eval])
      exact Ri.wp_value _ (Ri.run_mv rfl e1) rfl
    · refine Ri.StepY.q (by kernel_rfl) rfl fun S9 f9 W9 hS hD hq hf A9 hA hB hO => ?_
      obtain ⟨u0, u1, u2, u3, u4, u5, u6⟩ := KC.out W9 hq.2.2.1
      have e1 := (hB 3 (by kernel_rfl)).trans (show _ = .pointer (some ⟨W.heap.size, 0, none⟩) by simp [Act.eval])
      exact Ri.wp_value _ (Ri.run_ldagg (cs := [.int .i64 wd, .bool b]) rfl e1 (c2L u0 u1) Try.underlying60 rfl (by kernel_rfl)) rfl
    · refine Ri.StepY.q (by kernel_rfl) rfl fun S9 f9 W9 hS hD hq hf A9 hA hB hO => ?_
      have e1 := (hB 4 (by kernel_rfl)).trans (show _ = .pointer (some ⟨W.heap.size + 1, 0, none⟩) by simp [Act.eval])
      exact Ri.wp_value _ (Ri.run_fld (f := _) rfl e1 Try.underlying24 rfl (sz := 0) (by kernel_rfl)) rfl
    · refine Ri.StepY.q (by kernel_rfl) rfl fun S9 f9 W9 hS hD hq hf A9 hA hB hO => ?_
      obtain ⟨u0, u1, u2, u3, u4, u5, u6⟩ := KC.out W9 hq.2.2.1
      have e1 := (hA 54 2 (by kernel_rfl) (by simp)).trans (show f9 2 = _ from hf 2 (by kernel_rfl))
      exact Ri.wp_value _ (Ri.run_ld1 rfl e1 Try.underlying22 rfl u2) rfl
    · refine Ri.StepY.q (by kernel_rfl) rfl fun S9 f9 W9 hS hD hq hf A9 hA hB hO => ?_
      have e1 := (hA 55 3 (by kernel_rfl) (by simp)).trans (show f9 3 = _ from hf 3 (by kernel_rfl))
      have e2 : A9.eval (.const (.int .i64 0)) = .int .i64 ((0 : Nat) : Int) := rfl
      exact Ri.wp_value _ (Ri.run_idx rfl e1 e2 Try.underlying22 (sz := 4) (by kernel_rfl) (by have := HL1.out; omega)) rfl
    · refine Ri.StepY.q (by kernel_rfl) rfl fun S9 f9 W9 hS hD hq hf A9 hA hB hO => ?_
      obtain ⟨u0, u1, u2, u3, u4, u5, u6⟩ := KC.out W9 hq.2.2.1
      have e1 := (hA 56 4 (by kernel_rfl) (by simp)).trans (show f9 4 = _ from hf 4 (by kernel_rfl))
      exact Ri.wp_value _ (Ri.run_ldagg (cs := [.int .i64 m', .int .i64 x', .bool y', .slice B l' d']) rfl e1 (c4G u3 u4 u5 u6) Try.underlying24 rfl (by kernel_rfl)) rfl
    · refine Ri.StepY.q (by kernel_rfl) rfl fun S9 f9 W9 hS hD hq hf A9 hA hB hO => ?_
      have e1 := (hA 53 1 (by kernel_rfl) (by simp)).trans (show f9 1 = _ from hf 1 (by kernel_rfl))
      have e2 := (hA 57 5 (by kernel_rfl) (by simp)).trans (show f9 5 = _ from hf 5 (by kernel_rfl))
      refine Ri.wp_call #[tgW wd b, .agg #[.int .i64 m', .int .i64 x', .bool y', .slice B l' d']] rfl (by simp [e1, e2]) Try.func44 (by kernel_rfl) (by kernel_rfl) ((HCS.out W9 (HQW.out.trans hq.1)).mono ?_)
      rintro e w9 ⟨rfl, h1⟩
      exact ⟨_, rfl, h1, rfl⟩
    · refine Ri.StepY.q (by kernel_rfl) rfl fun S9 f9 W9 hS hD hq hf A9 hA hB hO => ?_
      have e1 := (hA 52 0 (by kernel_rfl) (by simp)).trans (show f9 0 = _ from hf 0 (by kernel_rfl))
      have e2 := (hA 58 6 (by kernel_rfl) (by simp)).trans (show f9 6 = _ from hf 6 (by kernel_rfl))
      have hm9 := HMUL.out
      have hb9 := HBD.out
      exact Ri.wp_value _ ((Ri.run_mulI rfl e1 e2 Try.underlying3 (by omega) (by omega)).trans (by rw [hm9])) rfl
    · refine Ri.StepY.q (by kernel_rfl) rfl fun S9 f9 W9 hS hD hq hf A9 hA hB hO => ?_
      have e1 := (hB 4 (by kernel_rfl)).trans (show _ = .pointer (some ⟨W.heap.size + 1, 0, none⟩) by simp [Act.eval])
      exact Ri.wp_value _ (Ri.run_fld (f := _) rfl e1 Try.underlying24 rfl (sz := 0) (by kernel_rfl)) rfl
    · refine Ri.StepY.q (by kernel_rfl) rfl fun S9 f9 W9 hS hD hq hf A9 hA hB hO => ?_
      obtain ⟨u0, u1, u2, u3, u4, u5, u6⟩ := KC.out W9 hq.2.2.1
      have e1 := (hA 60 8 (by kernel_rfl) (by simp)).trans (show f9 8 = _ from hf 8 (by kernel_rfl))
      exact Ri.wp_value _ (Ri.run_ld1 rfl e1 Try.underlying22 rfl u2) rfl
    · refine Ri.StepY.q (by kernel_rfl) rfl fun S9 f9 W9 hS hD hq hf A9 hA hB hO => ?_
      have e1 := (hA 61 9 (by kernel_rfl) (by simp)).trans (show f9 9 = _ from hf 9 (by kernel_rfl))
      have e2 : A9.eval (.const (.int .i64 0)) = .int .i64 ((0 : Nat) : Int) := rfl
      exact Ri.wp_value _ (Ri.run_idx rfl e1 e2 Try.underlying22 (sz := 4) (by kernel_rfl) (by have := HL1.out; omega)) rfl
    · refine Ri.StepY.q (by kernel_rfl) rfl fun S9 f9 W9 hS hD hq hf A9 hA hB hO => ?_
      obtain ⟨u0, u1, u2, u3, u4, u5, u6⟩ := KC.out W9 hq.2.2.1
      have e1 := (hA 62 10 (by kernel_rfl) (by simp)).trans (show f9 10 = _ from hf 10 (by kernel_rfl))
      exact Ri.wp_value _ (Ri.run_ldagg (cs := [.int .i64 m', .int .i64 x', .bool y', .slice B l' d']) rfl e1 (c4G u3 u4 u5 u6) Try.underlying24 rfl (by kernel_rfl)) rfl
    · refine Ri.StepY.q (by kernel_rfl) rfl fun S9 f9 W9 hS hD hq hf A9 hA hB hO => ?_
      have e1 := (hA 59 7 (by kernel_rfl) (by simp)).trans (show f9 7 = _ from hf 7 (by kernel_rfl))
      exact Ri.wp_value _ (Ri.run_asg rfl e1) rfl
    · refine Ri.StepY.c (by kernel_rfl) rfl fun S9 f9 W9 hS hD hq hf A9 hA hB hO => ?_
      have hbk9 := hq.2.2.2
      rw [hS, if_neg (by decide)] at hbk9
      have e1 := (hB 7 (by kernel_rfl)).trans (show _ = .pointer (some ⟨W.heap.size + 2, 0, none⟩) by simp [Act.eval])
      have e2 := (hA 63 11 (by kernel_rfl) (by simp)).trans (show f9 11 = _ from hf 11 (by kernel_rfl))
      exact wp_store_row _ _ _ rfl (W.heap.size + 2) (#[.int .i64 m', .int .i64 x', .bool y', .slice B l' d'] : Array Value) e1 e2 _ _ hbk9 (by kernel_rfl) rfl (by simp [Value.oneCell']) ⟨undef, rfl, hq.store (by omega) _, trivial⟩
    · refine Ri.StepY.q (by kernel_rfl) rfl fun S9 f9 W9 hS hD hq hf A9 hA hB hO => ?_
      exact Ri.wp_value _ (Ri.run_asg rfl rfl) rfl
  · intro S9 f9 w8 hS hq8 hf
    have hbk := hq8.2.2.2
    rw [hS 13 (by simp), if_pos rfl] at hbk
    have h12 := hf 12 (by simp) (by kernel_rfl)
    have h14 := hf 14 (by simp) (by kernel_rfl)
    simp only [Ri.phi, List.getD_cons_zero, List.getD_cons_succ, Ri.isV] at h12 h14
    simp only [Ri.acts, Act.put, List.setIfInBounds_toArray, List.set_cons_zero, List.set_cons_succ, Nat.zero_add, Nat.reduceAdd]
    rw [h12, h14]
    have HQ8 := hide hq8.1
    have s0 := cell_blkJ hbk (j := 0) rfl
    have s1 := cell_blkJ hbk (j := 1) rfl
    have s2 := cell_blkJ hbk (j := 2) rfl
    have s3 := cell_blkJ hbk (j := 3) rfl
    clear hf h12 h14 hq8 hS
    go_wp2_with fail
    refine bodyPost_ret (v := .tuple #[.int .i64 at9, .agg #[.int .i64 m', .int .i64 x', .bool y', .slice B l' d'], .int .i64 0]) (by simp [results, Try.results67, go_sem, s0, s1, s2, s3]) rfl ?_
    exact ⟨by rw [RES.out.1, RES.out.2.1, HAT.out, ← HSUB.out] <;> rfl, HQ8.out⟩
theorem part_any {w : World} {l : Lay} (h : LayR w l) (hc : l.count ≤ 1048576) (wd : Int) (b : Bool) (ho : Okw wd l) (no : Int) : ∀ W, Q w W → Calls Try.prog 67 #[tgW wd b, l.v, .int .i64 no] W (R1 W (.tuple #[.int .i64 (stA wd l no), (stL l no).v, .int .i64 (stE l no)])) := by
  by_cases h4 : l.k = 4
  · by_cases hlo : no < 0
    · exact part_lo4 h hc wd b ho no h4 hlo
    · by_cases hhi : (numP l : Int) ≤ no
      · exact part_hi4 h hc wd b ho no h4 ⟨by omega, hhi⟩
      · obtain ⟨j, rfl⟩ : ∃ j : Nat, no = j := ⟨no.toNat, by omega⟩
        exact part_in4 h hc wd b ho j h4 (by omega)
  by_cases h5 : l.k = 5
  · by_cases hlo : no < 0
    · exact part_lo5 h hc wd b ho no h5 hlo
    · by_cases hhi : (numP l : Int) ≤ no
      · exact part_hi5 h hc wd b ho no h5 ⟨by omega, hhi⟩
      · obtain ⟨j, rfl⟩ : ∃ j : Nat, no = j := ⟨no.toNat, by omega⟩
        exact part_in5 h hc wd b ho j h5 (by omega)
  by_cases h6 : l.k = 6
  · by_cases hlo : no < 0
    · exact part_lo6 h hc wd b ho no h6 hlo
    · by_cases hhi : (numP l : Int) ≤ no
      · exact part_hi6 h hc wd b ho no h6 ⟨by omega, hhi⟩
      · obtain ⟨j, rfl⟩ : ∃ j : Nat, no = j := ⟨no.toNat, by omega⟩
        exact part_in6 h hc wd b ho j h6 (by omega)
  by_cases h8 : l.k = 8
  · by_cases hlo : no < 0
    · exact part_lo8 h hc wd b ho no h8 hlo
    · by_cases hhi : (numP l : Int) ≤ no
      · exact part_hi8 h hc wd b ho no h8 ⟨by omega, hhi⟩
      · obtain ⟨j, rfl⟩ : ∃ j : Nat, no = j := ⟨no.toNat, by omega⟩
        exact part_in8 h hc wd b ho j h8 (by omega)
  exact part_none h hc wd b ho no (by omega)
end Go.Proofs.Ytbgbalfhbficaaa
