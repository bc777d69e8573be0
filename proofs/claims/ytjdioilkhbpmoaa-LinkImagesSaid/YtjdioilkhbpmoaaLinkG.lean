/- Objects as they lie in memory; what holds while they are put to their places. Conditions: as each theorem says. -/
import Derived.Test.YtjdioilkhbpmoaaLinkF
namespace Go.Proofs.Ytjdioilkhbpmoaa
open Go.RowKit LK
set_option linter.unusedVariables false
structure ObsR (w : World) (A : Option Addr) (n c : Nat) (os : List OV) : Prop where
  sl : Sl 3 encO w A n c os
  nil_ : A = none → n = 0 ∧ c = 0
  all : ∀ o ∈ os, ObR w o
theorem ObsR.up {w w' : World} {A : Option Addr} {n c : Nat} {os : List OV} (h : ObsR w A n c os) (hq : Q w w') : ObsR w' A n c os := ⟨h.sl.up hq, h.nil_, fun o ho => (h.all o ho).up hq⟩
theorem ObsR.at_ {w : World} {A : Option Addr} {n c : Nat} {os : List OV} (h : ObsR w A n c os) (i : Nat) (hi : i < n) :
    ∃ b o ob, A = some ⟨b, o, none⟩ ∧ b < w.heap.size ∧ os[i]? = some ob ∧ w.cell? ⟨b, o + i * 3, none⟩ = some (.slice ob.1.A ob.1.n ob.1.c) ∧ w.cell? ⟨b, o + i * 3 + 1, none⟩ = some (.slice ob.2.1.A ob.2.1.n ob.2.1.c) ∧ w.cell? ⟨b, o + i * 3 + 2, none⟩ = some (.slice ob.2.2.A ob.2.2.n ob.2.2.c) ∧ ObR w ob := by
  obtain ⟨b, o, ob, e, hb, hx, hc⟩ := h.sl.at_ (fun _ => rfl) (by decide) i hi
  exact ⟨b, o, ob, e, hb, hx, (by have h0 := hc 0 _ rfl; rw [Nat.add_zero] at h0; exact h0), hc 1 _ rfl, hc 2 _ rfl, h.all _ (List.mem_of_getElem? hx)⟩
/-! places -/
def offF (os : List OV) : Nat := (os.map fun o => room o.1.n).sum
def startsL (os : List OV) (k : Nat) : List Int := (List.range k).map fun j => ((offF (os.take j) : Nat) : Int)
def tabF (k at_ : Nat) : List OV → List (ByteArray × Int × Int)
  | [] => []
  | o :: r => o.2.1.xs.map (fun x => (x.1, (k : Int), (at_ : Int) + x.2)) ++ tabF (k + 1) (at_ + room o.1.n) r
def cntS (os : List OV) : Nat := (os.map fun o => o.2.1.xs.length).sum
def namesF (os : List OV) : List ByteArray := (tabF 0 0 os).map (·.1)
theorem offF_succ {os : List OV} {k : Nat} {o : OV} (h : os[k]? = some o) : offF (os.take (k + 1)) = offF (os.take k) + room o.1.n := by
  unfold offF
  rw [List.take_add_one, h, List.map_append, List.sum_append]
  simp
theorem cntS_succ {os : List OV} {k : Nat} {o : OV} (h : os[k]? = some o) : cntS (os.take (k + 1)) = cntS (os.take k) + o.2.1.xs.length := by
  unfold cntS
  rw [List.take_add_one, h, List.map_append, List.sum_append]
  simp
theorem startsL_succ (os : List OV) (k : Nat) : startsL os (k + 1) = startsL os k ++ [((offF (os.take k) : Nat) : Int)] := by
  unfold startsL
  rw [List.range_succ, List.map_append]
  rfl
theorem tabF_length : ∀ (os : List OV) (k at_ : Nat), (tabF k at_ os).length = cntS os
  | [], k, a => rfl
  | o :: r, k, a => by
    rw [tabF, List.length_append, tabF_length r, List.length_map]
    simp [cntS]
theorem tabF_get : ∀ (os : List OV) (k0 a0 k i : Nat) (o : OV) (nm : ByteArray) (at_ : Int), os[k]? = some o → o.2.1.xs[i]? = some (nm, at_) →
    (tabF k0 a0 os)[cntS (os.take k) + i]? = some (nm, ((k0 + k : Nat) : Int), ((a0 + offF (os.take k) : Nat) : Int) + at_)
  | [], k0, a0, k, i, o, nm, at_, h, _ => by simp at h
  | p :: r, k0, a0, 0, i, o, nm, at_, h, hx => by
    simp at h
    subst h
    have hi := (List.getElem?_eq_some_iff.1 hx).1
    rw [tabF, List.take_zero]
    simp only [cntS, offF, List.map_nil, List.sum_nil, Nat.zero_add, Nat.add_zero]
    rw [List.getElem?_append_left (by rw [List.length_map]; exact hi), List.getElem?_map, hx]
    rfl
  | p :: r, k0, a0, k + 1, i, o, nm, at_, h, hx => by
    have ih := tabF_get r (k0 + 1) (a0 + room p.1.n) k i o nm at_ (by simpa using h) hx
    have e1 : cntS ((p :: r).take (k + 1)) = p.2.1.xs.length + cntS (r.take k) := by simp [cntS]
    have e2 : offF ((p :: r).take (k + 1)) = room p.1.n + offF (r.take k) := by simp [offF]
    rw [tabF, e1, e2, List.getElem?_append_right (by rw [List.length_map]; omega), List.length_map, show p.2.1.xs.length + cntS (r.take k) + i - p.2.1.xs.length = cntS (r.take k) + i by omega, ih]
    congr 3
    · omega
    · omega
theorem offF_le {os : List OV} (h : ∀ o ∈ os, o.1.n ≤ 512) : ∀ k, offF (os.take k) ≤ 544 * k
  | 0 => by simp [offF]
  | k + 1 => by
    have ih := offF_le h k
    cases hk : os[k]? with
    | none =>
      have : os.take (k + 1) = os.take k := by rw [List.take_add_one, hk]; simp
      rw [this]; omega
    | some o =>
      rw [offF_succ hk]
      have := h o (List.mem_of_getElem? hk)
      unfold room
      omega
theorem cntS_le {os : List OV} (h : ∀ o ∈ os, o.2.1.xs.length ≤ 16) : ∀ k, cntS (os.take k) ≤ 16 * k
  | 0 => by simp [cntS]
  | k + 1 => by
    have ih := cntS_le h k
    cases hk : os[k]? with
    | none =>
      have : os.take (k + 1) = os.take k := by rw [List.take_add_one, hk]; simp
      rw [this]; omega
    | some o =>
      rw [cntS_succ hk]
      have := h o (List.mem_of_getElem? hk)
      omega
theorem valid_parts {o : OV} (hl : o.2.1.xs.length = o.2.1.n) (h : o.valid = 0) : o.1.n ≤ 512 ∧ o.2.1.n ≤ 16 ∧ (∀ x ∈ o.2.1.xs, 0 ≤ x.2 ∧ x.2 ≤ (o.1.n : Int) ∧ x.1.size ≤ 8) := by
  unfold OV.valid at h
  by_cases hb : 512 < o.1.n ∨ 16 < o.2.1.xs.length ∨ 16 < o.2.2.xs.length
  · rw [valid_big hb] at h; cases h
  · cases hs : soundB o.1.n o.2.1.xs o.2.2.xs
    · rw [valid_arg hb hs] at h; cases h
    · refine ⟨by omega, by omega, fun x hx => ?_⟩
      unfold soundB at hs
      rw [Bool.and_eq_true, List.all_eq_true] at hs
      have := hs.1 x hx
      simp [symOk, nameB] at this
      omega
/-! blocks that are known whole -/
theorem cell_blk {w : World} {g : Nat} {cs : Array Value} {t : TypeId} {fr : Nat × Nat} (h : w.heap[g]? = some (.cells cs t fr)) (j : Nat) : w.cell? ⟨g, j, none⟩ = cs[j]? := cell_of_row w g j cs t fr h
theorem free_blk {w : World} {g : Nat} {cs : Array Value} {t : TypeId} (h : w.heap[g]? = some (.cells cs t (0, 0))) (j : Nat) : w.frozen? ⟨g, j, none⟩ = false := by
  unfold World.frozen?
  rw [h]
  simp
theorem grown_cell {w : World} {g j : Nat} {u : Value} : w.grownBy (w.setCell ⟨g, j, none⟩ u) (some g) :=
  ⟨rfl, rfl, rfl, by simp, fun k _ hk => heap_setCell_other w ⟨g, j, none⟩ k u (fun e => hk (by rw [e]))⟩
theorem wpList_app1g {P : Program} {t e size bytes : Nat} {w : World} {base : Nat} {ops : Array Oper} {rest : List Oper} {o : Oper} {a : Act} {Q' : Exit → Act → World → Prop} {v : Value} {n : Nat} {xs : List Value}
    (hgd : o.guard = none) (E : El P t e size bytes) (s x : Operand) (ho : o.op = .call { callee := .builtin .append, args := #[s, x], argTypes := #[t, t] })
    (hs : a.eval s = v) (hown : w.ownsRow base e size v n xs) {C : Array Value} {k : Nat} (hk : k = w.heap.size) (hx : a.eval x = .slice (some ⟨k, 0, none⟩) 1 1) (hC : C.size = size) (h1 : ∀ u ∈ C.toList, u.oneCell' = true)
    (hb : (n + 1) * bytes ≤ 140737488355328) (hbase : base ≤ w.heap.size)
    (h : ∀ v' w', w'.ownsRow base e size v' (n + 1) (xs ++ C.toList) → w.grownBy w' v.ownBlock → wpList P ops Q' rest (a.put o.dst v') w') : wpList P ops Q' (o :: rest) a (w.alloc (.cells C e)) := by
  obtain ⟨i, z, hi, hz, hsz, hby, hzs⟩ := E.inf
  subst hk
  have hle : n + 1 ≤ (n + 1) * bytes := Nat.le_mul_of_pos_right _ E.bpos
  refine wpList_append_own _ hgd s x t ho base e i z size bytes E.und hi hz hsz hby hzs E.pos v n xs hs (hown.alloc _) ⟨w.heap.size, 0, none⟩ 1 1 C.toList hx (by simpa using hC) (fun j u hu => ?_) h1 (by simp only [maxLen]; omega) hb (by simp; omega) (fun v' w' h2 h3 _ => h v' w' h2 ((World.grownBy_alloc w _ _).trans h3))
  rw [addr_add, Nat.zero_add, World.cell?_alloc_new]
  simpa using hu
/-- what holds while objects are put to their places -/
structure LayR (w : World) (A : Option Addr) (n c : Nat) (wr : World) (L1 mb : Nat) (vs : Value) (st : List Int) (t : List (ByteArray × Int × Int)) : Prop where
  q : Q w wr
  b0 : wr.heap[w.heap.size]? = some (.cells #[.slice none 0 0, .slice none 0 0, .map none] 77 (0, 0))
  b1 : wr.heap[L1]? = some (.cells #[.slice A n c, vs, .map (some mb)] 77 (0, 0))
  l1 : w.heap.size < L1
  lm : w.heap.size ≤ mb
  row : wr.ownsRow w.heap.size 3 1 vs st.length (st.map (Value.int .i64))
  mp : MpR wr mb t
theorem own_blk {w : World} {B e s : Nat} {v : Value} {n : Nat} {xs : List Value} (h : w.ownsRow B e s v n xs) {g : Nat} (hg : v.ownBlock = some g) : ∃ cs, w.heap[g]? = some (.cells cs e (0, 0)) := by
  rcases h.2 with ⟨rfl, _⟩ | ⟨g', cap, cur, rfl, _, hh, _⟩
  · cases hg
  · cases hg; exact ⟨cur, hh⟩
theorem MpR.blk {w : World} {mb : Nat} {t : List (ByteArray × Int × Int)} (h : MpR w mb t) : ∃ es cl, w.heap[mb]? = some (.map es cl) := by
  obtain ⟨m, D, ⟨es, cl, hb, _⟩, _⟩ := h
  exact ⟨es, cl, hb⟩
section
variable {w : World} {A : Option Addr} {n c : Nat} {wr w' : World} {L1 mb : Nat} {vs : Value} {st : List Int} {t : List (ByteArray × Int × Int)}
theorem LayR.l1lt (h : LayR w A n c wr L1 mb vs st t) : L1 < wr.heap.size := (Array.getElem?_eq_some_iff.1 h.b1).1
theorem LayR.grow (h : LayR w A n c wr L1 mb vs st t) {row : Option Nat} (hg : wr.grownBy w' row) (hr : row = none ∨ row = some mb) {t' : List (ByteArray × Int × Int)} (hm : MpR w' mb t') : LayR w A n c w' L1 mb vs st t' := by
  obtain ⟨es, cl, hmb⟩ := h.mp.blk
  have hne : ∀ {g : Nat} {cs : Array Value} {ty : TypeId} {fr : Nat × Nat}, wr.heap[g]? = some (.cells cs ty fr) → some g ≠ row := fun {g cs ty fr} hgb e => by
    rcases hr with rfl | rfl
    · cases e
    · cases e
      rw [hmb] at hgb
      cases hgb
  refine ⟨?_, (hg.block _ (Array.getElem?_eq_some_iff.1 h.b0).1 (hne h.b0)).trans h.b0, (hg.block _ h.l1lt (hne h.b1)).trans h.b1, h.l1, h.lm, h.row.kept hg ?_, hm⟩
  · refine Below.trans h.q ((Below.refl w.heap.size wr).grown hg h.q.size (fun k hk => ?_))
    rcases hr with rfl | rfl
    · cases hk
    · cases hk; exact h.lm
  · cases hv : vs.ownBlock with
    | none => exact .inl rfl
    | some g =>
      obtain ⟨cs, hcs⟩ := own_blk h.row hv
      exact .inr (hne hcs)
theorem LayR.up (h : LayR w A n c wr L1 mb vs st t) (hq : Q wr w') : LayR w A n c w' L1 mb vs st t := h.grow (grown_of_q hq none) (.inl rfl) (h.mp.up hq)
theorem LayR.app_b1 (h : LayR w A n c wr L1 mb vs st t) {w1 : World} (hg : wr.grownBy w1 vs.ownBlock) : w1.heap[L1]? = some (.cells #[.slice A n c, vs, .map (some mb)] 77 (0, 0)) := by
  refine (hg.block _ h.l1lt (fun e => ?_)).trans h.b1
  obtain ⟨cs, hcs⟩ := own_blk h.row e.symm
  rw [h.b1] at hcs
  cases hcs
theorem LayR.app (h : LayR w A n c wr L1 mb vs st t) {w1 : World} {vs' : Value} {x : Int} (hg : wr.grownBy w1 vs.ownBlock) (ho : w1.ownsRow w.heap.size 3 1 vs' (st.length + 1) (st.map (Value.int .i64) ++ [.int .i64 x])) :
    LayR w A n c (w1.setCell ⟨L1, 1, none⟩ vs') L1 mb vs' (st ++ [x]) t := by
  have hne : ∀ {g : Nat} {ob : Obj}, wr.heap[g]? = some ob → (∀ cs, ob ≠ .cells cs 3 (0, 0)) → some g ≠ vs.ownBlock := fun {g ob} hgb hob e => by
    obtain ⟨cs, hcs⟩ := own_blk h.row e.symm
    rw [hcs] at hgb
    exact hob cs (Option.some.inj hgb).symm
  obtain ⟨es, cl, hmb⟩ := h.mp.blk
  have b0 := (hg.block _ (Array.getElem?_eq_some_iff.1 h.b0).1 (hne h.b0 (fun cs e => by cases e))).trans h.b0
  have b1 := (hg.block _ h.l1lt (hne h.b1 (fun cs e => by cases e))).trans h.b1
  have m1 : MpR w1 mb t := h.mp.kept hg (hne hmb (fun cs e => by cases e))
  obtain ⟨es1, cl1, hmb1⟩ := m1.blk
  have hq1 : Q w w1 := Below.trans h.q ((Below.refl w.heap.size wr).grown hg h.q.size (fun k hk => (h.row.lt k hk).1))
  have hl0 : w.heap.size ≠ L1 := by have := h.l1; omega
  refine ⟨hq1.set (Nat.le_of_lt h.l1) _, (heap_setCell_other w1 ⟨L1, 1, none⟩ _ _ hl0).trans b0, ?_, h.l1, h.lm, ?_, m1.kept grown_cell (fun e => ?_)⟩
  · exact heap_setCell_same w1 L1 1 _ _ vs' b1
  · have hk := ho.kept (w' := w1.setCell ⟨L1, 1, none⟩ vs') (row := some L1) grown_cell (by
      cases hv : vs'.ownBlock with
      | none => exact .inl rfl
      | some g =>
        obtain ⟨cs, hcs⟩ := own_blk ho hv
        refine .inr (fun e => ?_)
        cases e
        rw [b1] at hcs
        cases hcs)
    simpa using hk
  · cases e
    rw [hmb1] at b1
    cases b1
end
end Go.Proofs.Ytjdioilkhbpmoaa
