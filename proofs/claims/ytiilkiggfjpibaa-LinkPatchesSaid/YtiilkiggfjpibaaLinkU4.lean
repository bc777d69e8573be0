/- A queue: a slice of the call's own that may begin behind its row's first cell; what append and '[1:]' make of it. Which objects are needed, in plain Lean. The walk of Drop's closure: one name. What holds while Drop's queue is worked off. The walk of the program's Drop. What holds while the reference's Drop works off its names. The walk of the reference's Drop. Conditions: as each theorem says. -/
import Derived.Test.YtiilkiggfjpibaaLinkU3
import Derived.Test.YtiilkiggfjpibaaLinkU2
import Derived.Deep.Upon
import Derived.Deep.AppendLies
import Derived.Test.YtiilkiggfjpibaaBase
import Derived.Deep.LoopGhost
import Derived.Deep.RegionWith
import Derived.Deep.DeepCutAuto
namespace Go.Proofs.Ytiilkiggfjpibaa
open Go.RowKit LK
set_option linter.unusedVariables false
set_option linter.unusedSimpArgs false
/-- the slice with base address ao and room cap holds xs, in a block from B on -/
def Tl (w : World) (B : Nat) (ao : Option Addr) (cap : Nat) (xs : List Int) : Prop :=
  ∃ b off, Came w 1 ao b off xs.length cap (xs.map (Value.int .i64)) ∧ (0 < cap → B ≤ b) ∧ cap ≤ maxLen
theorem Tl.nil (w : World) (B : Nat) : Tl w B none 0 [] := ⟨0, 0, ⟨Nat.le_refl _, fun h => absurd h (by omega), fun h => absurd h (by omega), rfl, fun j u h => by simp at h, fun j h => by simp at h⟩, fun h => absurd h (by omega), by unfold maxLen; omega⟩
/-- steps that leave its row alone -/
theorem Tl.kept {w w' : World} {B : Nat} {ao : Option Addr} {cap : Nat} {xs : List Int} (h : Tl w B ao cap xs) {row : Option Nat} (hg : w.grownBy w' row) (hr : ∀ r, row = some r → r < B) : Tl w' B ao cap xs := by
  obtain ⟨b, off, hc, hB, hm⟩ := h
  refine ⟨b, off, ?_, hB, hm⟩
  rcases Nat.eq_zero_or_pos cap with h0 | h0
  · subst h0
    have hx : xs.length = 0 := by have := hc.le; omega
    obtain rfl := List.eq_nil_of_length_eq_zero hx
    exact ⟨hc.le, hc.addr, fun h => absurd h (by omega), hc.oldsLen, fun j u h => by simp at h, fun j h => by simp at h⟩
  · have hlt := hc.lt h0
    have hne : some b ≠ row := fun e => by have := hr b e.symm; have := hB h0; omega
    refine ⟨hc.le, hc.addr, fun _ => Nat.lt_of_lt_of_le hlt hg.size, hc.oldsLen, fun j u hu => ?_, fun j hj => ?_⟩
    · rw [hg.cell_far ⟨b, off + j, none⟩ hlt hne]
      exact hc.olds j u hu
    · rw [hg.cell_far ⟨b, _, none⟩ hlt hne, hg.frozen_far ⟨b, _, none⟩ hlt hne]
      exact hc.spare j hj
theorem Tl.up {w w' : World} {B : Nat} {ao : Option Addr} {cap : Nat} {xs : List Int} (h : Tl w B ao cap xs) (hq : Q w w') : Tl w' B ao cap xs := h.kept (grown_of_q hq none) (fun r e => by cases e)
/-- the first element, and the rest -/
theorem Tl.pop {w : World} {B : Nat} {ao : Option Addr} {cap : Nat} {x : Int} {xs : List Int} (h : Tl w B ao cap (x :: xs)) :
    ∃ b off, ao = some ⟨b, off, none⟩ ∧ b < w.heap.size ∧ w.cell? ⟨b, off, none⟩ = some (.int .i64 x) ∧ xs.length + 1 ≤ cap ∧ cap ≤ maxLen ∧ Tl w B (some ⟨b, off + 1, none⟩) (cap - 1) xs := by
  obtain ⟨b, off, hc, hB, hm⟩ := h
  have hle := hc.le
  rw [List.length_cons] at hle
  have h0 : 0 < cap := by omega
  refine ⟨b, off, hc.addr h0, hc.lt h0, ?_, hle, hm, b, off + 1, ⟨by omega, fun _ => rfl, fun _ => hc.lt h0, by simp, fun j u hu => ?_, fun j hj => ?_⟩, fun _ => hB h0, by omega⟩
  · have := hc.olds 0 (.int .i64 x) rfl
    rw [Nat.add_zero] at this
    exact this
  · have := hc.olds (j + 1) u (by rw [List.map_cons, List.getElem?_cons_succ]; exact hu)
    rw [show off + (j + 1) = off + 1 + j by omega] at this
    exact this
  · have := hc.spare j (by rw [List.length_cons]; omega)
    rw [List.length_cons, show off + (xs.length + 1) * 1 + j = off + 1 + xs.length * 1 + j by omega] at this
    exact this
/-- one element more -/
theorem Tl.append {P : Program} {t e ty : TypeId} {w : World} {B : Nat} {ao : Option Addr} {cap : Nat} {xs : List Int} (h : Tl w B ao cap xs) (E : El P t e 1 8) {bx : Nat} {k : Int} (hx : w.cell? ⟨bx, 0, none⟩ = some (.int .i64 k)) (hl : xs.length ≤ 1000) (hB : B ≤ w.heap.size) :
    ∃ A c w' row, (Builtin.append_ #[t, t] ty #[.slice ao xs.length cap, .slice (some ⟨bx, 0, none⟩) 1 1]).run P w = .ok (.slice A (xs ++ [k]).length c) w' ∧ Tl w' B A c (xs ++ [k]) ∧ w.grownBy w' row ∧ ∀ r, row = some r → B ≤ r := by
  obtain ⟨i, z, hi, hz, hsz, hby, hzs⟩ := E.inf
  obtain ⟨b, off, hc, hBb, hm⟩ := h
  have hs : Src P 1 t (.slice (some ⟨bx, 0, none⟩) 1 1) 1 [.int .i64 k] w := Src.ofSlice w E.und ⟨bx, 0, none⟩ 1 1 [.int .i64 k] rfl (fun j u hu => by
    rcases j with _ | j
    · simp at hu; subst hu; exact hx
    · simp at hu) (fun u hu => by simp at hu; subst hu; rfl)
  have hlen : (xs ++ [k]).length = xs.length + 1 := by simp
  by_cases hfit : xs.length + 1 ≤ cap
  · have h0 : 0 < cap := by omega
    have hsp := hc.spare 0 (by omega)
    rw [Nat.add_zero] at hsp
    have hrun := run_append_room_src (P := P) (w := w) t t ty e i E.und hi b off xs.length cap _ 1 [.int .i64 k] (by rw [hsz]; exact hs) hfit (fun j hj => by
      have : j = 0 := by simpa using hj
      subst this
      rw [hsz, Nat.add_zero]; exact hsp.1) (fun j hj => by
      have : j = 0 := by simpa using hj
      subst this
      rw [hsz, Nat.add_zero]; exact hsp.2)
    obtain rfl := hc.addr h0
    obtain ⟨u0, hu0⟩ := Option.isSome_iff_exists.1 hsp.1
    refine ⟨some ⟨b, off, none⟩, cap, w.setCell ⟨b, off + xs.length * 1, none⟩ (.int .i64 k), some b, ?_, ⟨b, off, ⟨by omega, fun _ => rfl, fun _ => ?_, by simp, fun j u hu => ?_, fun j hj => ?_⟩, hBb, hm⟩, grown_cell, fun r e => by cases e; exact hBb h0⟩
    · rw [hlen, hrun, hsz]
      rfl
    · have := (grown_cell (w := w) (g := b) (j := off + xs.length * 1) (u := .int .i64 k)).size
      exact Nat.lt_of_lt_of_le (hc.lt h0) this
    · rw [List.map_append] at hu
      by_cases hj : j < xs.length
      · rw [List.getElem?_append_left (by simpa using hj)] at hu
        rw [World.cell?_setCell_other _ _ _ _ (by intro e; simp at e <;> omega)]
        exact hc.olds j u hu
      · rw [List.getElem?_append_right (by simpa using hj)] at hu
        have hj2 : j = xs.length := by
          have := (List.getElem?_eq_some_iff.1 hu).1
          simp at this
          omega
        subst hj2
        simp at hu
        subst hu
        rw [Nat.mul_one]
        rw [Nat.mul_one] at hu0
        exact World.cell?_setCell_same _ _ _ hu0
    · rw [hlen] at hj ⊢
      have := hc.spare (j + 1) (by omega)
      rw [show off + xs.length * 1 + (j + 1) = off + (xs.length + 1) * 1 + j by omega] at this
      refine ⟨?_, ?_⟩
      · rw [World.cell?_setCell_other _ _ _ _ (by intro e; simp at e <;> omega)]
        exact this.1
      · exact (World.frozen?_setCells b [.int .i64 k] _ _ _).trans this.2
  · have hold : (Builtin.firstCells i.size xs.length (.slice ao xs.length cap)).run P w.drew = .ok (xs.map (Value.int .i64)).toArray w.drew := by
      rw [hsz]
      rcases Nat.eq_zero_or_pos cap with h0 | h0
      · have hx0 : xs.length = 0 := by have := hc.le; omega
        obtain rfl := List.eq_nil_of_length_eq_zero hx0
        cases ao with
        | none => exact run_firstCells_none w.drew 1 0 0 cap
        | some a' => exact run_firstCells_some w.drew 1 0 a' 0 cap [] (by simp) (by intro _ _ h'; simp at h')
      · rw [hc.addr h0]
        refine run_firstCells_some w.drew 1 xs.length ⟨b, off, none⟩ xs.length cap _ hc.oldsLen (fun j u hu => ?_)
        rw [addr_add]
        exact hc.olds j u hu
    have hrun := run_append_grow_src (P := P) (w := w) t t ty e i z E.und hi hz ao xs.length cap _ hold _ 1 [.int .i64 k] (by rw [hsz]; exact hs) (by omega) (by omega) (growslice_fits (by omega) (by rw [hby]; omega))
    have hge := grownCap_ge w (xs.length + 1) cap e
    have hcm := grownCap_le_maxLen w (xs.length + 1) cap e (by unfold maxLen; omega)
    refine ⟨some ⟨w.heap.size, 0, none⟩, grownCap w (xs.length + 1) cap e, w.drew.alloc (.cells ((xs.map (Value.int .i64) ++ [Value.int .i64 k]).toArray ++ Builtin.zeroCells z.cells (grownCap w (xs.length + 1) cap e - (xs.length + 1))) e), none, (by rw [hlen]; exact hrun), ⟨w.heap.size, 0, ⟨by rw [hlen]; exact hge, fun _ => rfl, fun _ => by simp, by simp, fun j u hu => ?_, fun j hj => ?_⟩, fun _ => hB, hcm⟩, ⟨rfl, rfl, rfl, by simp, fun r hr _ => heap_alloc_old w.drew _ hr⟩, fun r e => by cases e⟩
    · rw [Nat.zero_add]
      have e1 := World.cell?_alloc_new w.drew (((xs.map (Value.int .i64)) ++ [Value.int .i64 k]).toArray ++ Builtin.zeroCells z.cells (grownCap w (xs.length + 1) cap e - (xs.length + 1))) e j
      refine Eq.trans e1 ?_
      rw [List.map_append] at hu
      have hjl := (List.getElem?_eq_some_iff.1 hu).1
      rw [Array.getElem?_append_left (by simpa using hjl), List.getElem?_toArray]
      exact hu
    · have e1 := World.cell?_alloc_new w.drew (((xs.map (Value.int .i64)) ++ [Value.int .i64 k]).toArray ++ Builtin.zeroCells z.cells (grownCap w (xs.length + 1) cap e - (xs.length + 1))) e (0 + (xs ++ [k]).length * 1 + j)
      have e2 := World.frozen?_alloc_new w.drew (((xs.map (Value.int .i64)) ++ [Value.int .i64 k]).toArray ++ Builtin.zeroCells z.cells (grownCap w (xs.length + 1) cap e - (xs.length + 1))) e (0 + (xs ++ [k]).length * 1 + j)
      refine ⟨?_, e2⟩
      refine (congrArg Option.isSome e1).trans ?_
      rw [Array.getElem?_eq_getElem]
      · rfl
      · simp only [Array.size_append, List.size_toArray, List.length_append, List.length_map, List.length_singleton, size_zeroCells, hzs]
        rw [hlen] at hj
        omega
theorem wpList_tl {P : Program} {t e : TypeId} {w : World} {B : Nat} {ops : Array Oper} {rest : List Oper} {o : Oper} {a : Act} {Q' : Exit → Act → World → Prop} {ao : Option Addr} {cap : Nat} {xs : List Int} (hgd : o.guard = none) (s x : Operand)
    (ho : o.op = .call { callee := .builtin .append, args := #[s, x], argTypes := #[t, t] }) {m : Nat} (hs : a.eval s = .slice ao m cap) (hm : xs.length = m) (h : Tl w B ao cap xs) (E : El P t e 1 8) {bx : Nat} {k : Int} (hxv : a.eval x = .slice (some ⟨bx, 0, none⟩) 1 1) (hx : w.cell? ⟨bx, 0, none⟩ = some (.int .i64 k)) (hl : xs.length ≤ 1000) (hB : B ≤ w.heap.size)
    (K : ∀ A c w' row, Tl w' B A c (xs ++ [k]) → w.grownBy w' row → (∀ r, row = some r → B ≤ r) → wpList P ops Q' rest (a.put o.dst (.slice A (m + 1) c)) w') : wpList P ops Q' (o :: rest) a w := by
  subst hm
  refine wpList_plain hgd fun K' hK => ?_
  obtain ⟨A, c, w', row, hr, h2, h3, h4⟩ := Tl.append (ty := o.type) h E hx hl hB
  unfold Oper.wp execOp
  simp only [ho, resolve, invoke, builtin, Sem.run_bind, Sem.run_pure, Result.andThen_ok, List.map_toArray, List.map_cons, List.map_nil, hs, hxv, hr]
  rw [show (xs ++ [k]).length = xs.length + 1 by simp]
  exact hK _ _ (K A c w' row h2 h3 h4)
end Go.Proofs.Ytiilkiggfjpibaa

namespace Go.Proofs.Ytiilkiggfjpibaa
open Go.RowKit LK
set_option linter.unusedVariables false
set_option linter.unusedSimpArgs false
abbrev Tab := List (ByteArray × Int × Int)
/-- the names that object j wants -/
def wantsAt (os : List OV) (j : Nat) : List ByteArray := match os[j]? with | some o => o.2.2.xs.map (·.2.2) | none => []
def objAt (T : Tab) (nm : ByteArray) : Option Nat := (lookS T nm).map fun p => p.1.toNat
inductive Reach (os : List OV) (T : Tab) (rs : List ByteArray) : Nat → Prop
  | root {nm : ByteArray} {k : Nat} : nm ∈ rs → objAt T nm = some k → Reach os T rs k
  | want {j : Nat} {nm : ByteArray} {k : Nat} : Reach os T rs j → nm ∈ wantsAt os j → objAt T nm = some k → Reach os T rs k
/-- numbers that stand for false -/
def dropL (N : List Bool) : List Int := ((List.range N.length).filter fun j => N[j]? == some false).map Int.ofNat
def dropTo (N : List Bool) (k : Nat) : List Int := ((List.range k).filter fun j => N[j]? == some false).map Int.ofNat
theorem dropTo_succ (N : List Bool) (k : Nat) (b : Bool) (h : N[k]? = some b) : dropTo N (k + 1) = if b then dropTo N k else dropTo N k ++ [(k : Int)] := by
  unfold dropTo
  rw [List.range_succ, List.filter_append, List.map_append]
  simp only [List.filter_cons, List.filter_nil, h]
  cases b <;> simp
theorem dropTo_len (N : List Bool) (k : Nat) : (dropTo N k).length ≤ k := by
  unfold dropTo
  rw [List.length_map]
  exact Nat.le_trans (List.length_filter_le _ _) (by simp)
/-- a list of marks that marks just the reachable ones -/
def Marks (os : List OV) (T : Tab) (rs : List ByteArray) (N : List Bool) : Prop := N.length = os.length ∧ ∀ k, N[k]? = some true ↔ Reach os T rs k
theorem Marks.eq {os : List OV} {T : Tab} {rs : List ByteArray} {N M : List Bool} (h : Marks os T rs N) (k : Marks os T rs M) : N = M := by
  apply List.ext_getElem?
  intro i
  by_cases hi : i < os.length
  · have a1 := List.getElem?_eq_getElem (l := N) (i := i) (by rw [h.1]; exact hi)
    have a2 := List.getElem?_eq_getElem (l := M) (i := i) (by rw [k.1]; exact hi)
    have h1 := h.2 i
    have k1 := k.2 i
    rw [a1] at h1 ⊢
    rw [a2] at k1 ⊢
    have h2 := h1.trans k1.symm
    cases e1 : N[i]'(by rw [h.1]; exact hi) <;> cases e2 : M[i]'(by rw [k.1]; exact hi) <;> simp_all
  · rw [List.getElem?_eq_none (by rw [h.1]; omega), List.getElem?_eq_none (by rw [k.1]; omega)]
theorem lookS_mem {T : Tab} {nm : ByteArray} {p : Int × Int} (h : lookS T nm = some p) : ∃ x, (x, p) ∈ T := by
  unfold lookS at h
  obtain ⟨y, hy, rfl⟩ := Option.map_eq_some_iff.1 h
  exact ⟨y.1, List.mem_of_find?_eq_some hy⟩
theorem tabF_range : ∀ (os : List OV) (k0 a0 : Nat) (x : ByteArray) (p : Int × Int), (x, p) ∈ tabF k0 a0 os → (k0 : Int) ≤ p.1 ∧ p.1 < (k0 : Int) + (os.length : Int)
  | [], _, _, _, _, h => by cases h
  | o :: r, k0, a0, x, p, h => by
    rw [tabF, List.mem_append] at h
    rcases h with h | h
    · obtain ⟨y, _, e⟩ := List.mem_map.1 h
      cases e
      simp
      omega
    · have := tabF_range r (k0 + 1) _ x p h
      rw [List.length_cons]
      omega
theorem look_range {os : List OV} {nm : ByteArray} {p q : Int} (h : lookS (tabF 0 0 os) nm = some (p, q)) : 0 ≤ p ∧ p < (os.length : Int) := by
  obtain ⟨x, hx⟩ := lookS_mem h
  have := tabF_range os 0 0 x _ hx
  simpa using this
/-- the state behind one name -/
def nextN (T : Tab) (N : List Bool) (nm : ByteArray) : List Bool := match objAt T nm with | some k => N.set k true | none => N
def nextR (T : Tab) (N : List Bool) (rest : List Int) (nm : ByteArray) : List Int := match objAt T nm with | some k => if N[k]? = some true then rest else rest ++ [(k : Int)] | none => rest
theorem nextN_len (T : Tab) (N : List Bool) (nm : ByteArray) : (nextN T N nm).length = N.length := by
  unfold nextN
  split <;> simp
theorem nextN_mono {T : Tab} {N : List Bool} {nm : ByteArray} {k : Nat} (h : N[k]? = some true) : (nextN T N nm)[k]? = some true := by
  unfold nextN
  split
  · rename_i j _
    rw [List.getElem?_set]
    have := (List.getElem?_eq_some_iff.1 h).1
    split <;> simp_all
  · exact h
theorem nextN_hit {T : Tab} {N : List Bool} {nm : ByteArray} {k : Nat} (h : objAt T nm = some k) (hk : k < N.length) : (nextN T N nm)[k]? = some true := by
  unfold nextN
  rw [h]
  simp [List.getElem?_set, hk]
theorem nextN_inv {T : Tab} {N : List Bool} {nm : ByteArray} {k : Nat} (h : (nextN T N nm)[k]? = some true) : N[k]? = some true ∨ objAt T nm = some k := by
  unfold nextN at h
  split at h
  · rename_i j hj
    by_cases e : j = k
    · subst e; exact .inr hj
    · rw [List.getElem?_set_ne e] at h
      exact .inl h
  · exact .inl h
theorem set_true_same {N : List Bool} {k : Nat} (h : N[k]? = some true) : N.set k true = N := by
  obtain ⟨hk, e⟩ := List.getElem?_eq_some_iff.1 h
  rw [← e]
  exact List.set_getElem_self hk
theorem count_set {N : List Bool} {k : Nat} (h : N[k]? = some false) : (N.set k true).count false + 1 = N.count false := by
  induction N generalizing k with
  | nil => simp at h
  | cons b r ih =>
    rcases k with _ | k
    · simp at h
      subst h
      simp
    · rw [List.set_cons_succ, List.count_cons, List.count_cons]
      have := ih (k := k) (by simpa using h)
      omega
/-- the list of marks beside the numbers that wait -/
theorem next_count {T : Tab} {N : List Bool} {rest : List Int} {nm : ByteArray} (hr : ∀ k, objAt T nm = some k → k < N.length) : (nextR T N rest nm).length + (nextN T N nm).count false = rest.length + N.count false := by
  unfold nextR nextN
  split
  · rename_i k hk
    split
    · rename_i h
      rw [set_true_same h]
    · rename_i h
      have hlt := hr k hk
      have hf : N[k]? = some false := by
        rw [List.getElem?_eq_getElem hlt] at h ⊢
        cases e : N[k] <;> simp_all
      have := count_set hf
      simp only [List.length_append, List.length_singleton]
      omega
  · rfl
/-- every name of the list is done -/
def Done (T : Tab) (N : List Bool) (names : List ByteArray) : Prop := ∀ nm ∈ names, ∀ k, objAt T nm = some k → N[k]? = some true
theorem Done.next {T : Tab} {N : List Bool} {names : List ByteArray} (h : Done T N names) (nm : ByteArray) : Done T (nextN T N nm) names := fun x hx k hk => nextN_mono (h x hx k hk)
theorem Done.snoc {T : Tab} {N : List Bool} {names : List ByteArray} {nm : ByteArray} (h : Done T N names) (hr : ∀ k, objAt T nm = some k → k < N.length) : Done T (nextN T N nm) (names ++ [nm]) := by
  intro x hx k hk
  rcases List.mem_append.1 hx with hx | hx
  · exact nextN_mono (h x hx k hk)
  · simp at hx
    subst hx
    exact nextN_hit hk (hr k hk)
/-- marks that are closed -/
theorem marks_of {os : List OV} {T : Tab} {rs : List ByteArray} {N : List Bool} (hl : N.length = os.length) (hs : ∀ k, N[k]? = some true → Reach os T rs k) (hr : Done T N rs) (hc : ∀ j, N[j]? = some true → Done T N (wantsAt os j)) : Marks os T rs N := by
  refine ⟨hl, fun k => ⟨hs k, fun h => ?_⟩⟩
  induction h with
  | root h1 h2 => exact hr _ h1 _ h2
  | want _ h2 h3 ih => exact hc _ ih _ h2 _ h3
end Go.Proofs.Ytiilkiggfjpibaa

namespace Go.Proofs.Ytiilkiggfjpibaa
open Go.RowKit LK
set_option linter.unusedVariables false
set_option linter.unusedSimpArgs false
/-- Drop's memory: the layout's cell B, the marks' row z (in cell nb), the queue (in cell tb) -/
structure DM (w wr : World) (B z nb tb mb n : Nat) (T : Tab) (N : List Bool) (ao : Option Addr) (cap : Nat) (rest : List Int) : Prop where
  q : Q w wr
  mp : MpR wr mb T
  lay : wr.cell? ⟨B, 2, none⟩ = some (.map (some mb))
  nd : wr.cell? ⟨nb, 0, none⟩ = some (.slice (some ⟨z, 0, none⟩) n n)
  nw : wr.ownsRow w.heap.size 4 1 (.slice (some ⟨z, 0, none⟩) n n) n (N.map Value.bool)
  td : wr.heap[tb]? = some (.cells #[.slice ao rest.length cap] 26 (0, 0))
  tl : Tl wr (tb + 1) ao cap rest
  o : mb < B ∧ B < z ∧ z < nb ∧ nb < tb ∧ w.heap.size ≤ B
theorem DM.lt {w wr : World} {B z nb tb mb n : Nat} {T : Tab} {N : List Bool} {ao : Option Addr} {cap : Nat} {rest : List Int} (h : DM w wr B z nb tb mb n T N ao cap rest) : tb < wr.heap.size := (Array.getElem?_eq_some_iff.1 h.td).1
/-- nothing that was there has turned -/
theorem DM.up {w wr w' : World} {B z nb tb mb n : Nat} {T : Tab} {N : List Bool} {ao : Option Addr} {cap : Nat} {rest : List Int} (h : DM w wr B z nb tb mb n T N ao cap rest) (hq : Q wr w') : DM w w' B z nb tb mb n T N ao cap rest := by
  have hl := h.lt
  obtain ⟨o1, o2, o3, o4, o5⟩ := h.o
  exact ⟨h.q.trans hq, h.mp.up hq, (hq.facts.1 _ _ (by omega)).trans h.lay, (hq.facts.1 _ _ (by omega)).trans h.nd, own_q h.nw hq, (hq.below.block _ hl).trans h.td, h.tl.up hq, h.o⟩
/-- a mark is set -/
theorem DM.mark {w wr : World} {B z nb tb mb n : Nat} {T : Tab} {N : List Bool} {ao : Option Addr} {cap : Nat} {rest : List Int} (h : DM w wr B z nb tb mb n T N ao cap rest) (k : Nat) (b : Bool) : DM w (wr.setCell ⟨z, k, none⟩ (.bool b)) B z nb tb mb n T (N.set k b) ao cap rest := by
  obtain ⟨o1, o2, o3, o4, o5⟩ := h.o
  refine ⟨h.q.set (by simp <;> omega) _, h.mp.kept grown_cell (by simp <;> omega), ?_, ?_, ?_, ?_, h.tl.kept grown_cell (fun r e => by cases e; omega), h.o⟩
  · rw [World.cell?_setCell_other _ _ _ _ (by simp <;> omega)]; exact h.lay
  · rw [World.cell?_setCell_other _ _ _ _ (by simp <;> omega)]; exact h.nd
  · rw [List.map_set]; exact own_set h.nw k _
  · exact (heap_setCell_other wr ⟨z, k, none⟩ _ _ (by simp <;> omega)).trans h.td
/-- the queue grows -/
theorem DM.push {w wr w5 : World} {B z nb tb mb n : Nat} {T : Tab} {N : List Bool} {ao A : Option Addr} {cap c : Nat} {rest rest' : List Int} (h : DM w wr B z nb tb mb n T N ao cap rest) {row : Option Nat} (hg : wr.grownBy w5 row) (hr : ∀ r, row = some r → tb + 1 ≤ r) (ht : Tl w5 (tb + 1) A c rest') :
    DM w (w5.setCell ⟨tb, 0, none⟩ (.slice A rest'.length c)) B z nb tb mb n T N A c rest' := by
  obtain ⟨o1, o2, o3, o4, o5⟩ := h.o
  have hl := h.lt
  have hne : ∀ b, b ≤ tb → some b ≠ row := fun b hb e => by have := hr b e.symm; omega
  have htd : w5.heap[tb]? = some (.cells #[.slice ao rest.length cap] 26 (0, 0)) := (hg.block tb hl (hne tb (Nat.le_refl _))).trans h.td
  have hq5 : Q w w5 := q_grown h.q hg (fun r e => by have := hr r e; omega)
  refine ⟨hq5.set (by simp <;> omega) _, (h.mp.kept hg (hne mb (by omega))).kept grown_cell (by simp <;> omega), ?_, ?_, ?_, ?_, ht.kept grown_cell (fun r e => by cases e; omega), h.o⟩
  · rw [World.cell?_setCell_other _ _ _ _ (by simp <;> omega), hg.cell_far ⟨B, 2, none⟩ (show B < wr.heap.size by omega) (hne B (by omega))]; exact h.lay
  · rw [World.cell?_setCell_other _ _ _ _ (by simp <;> omega), hg.cell_far ⟨nb, 0, none⟩ (show nb < wr.heap.size by omega) (hne nb (by omega))]; exact h.nd
  · exact (h.nw.kept hg (.inr (hne z (by omega)))).kept grown_cell (.inr (by simp [Value.ownBlock]; omega))
  · exact (heap_setCell_same w5 tb 0 _ _ _ htd).trans rfl
set_option maxRecDepth 100000 in
set_option maxHeartbeats 4000000 in
theorem need_any (w wr : World) (B z nb tb mb n : Nat) (T : Tab) (N : List Bool) (ao : Option Addr) (cap : Nat) (rest : List Int) (nm : ByteArray) (h : DM w wr B z nb tb mb n T N ao cap rest) (hN : N.length = n) (hn8 : n ≤ 8) (hT : ∀ p q, lookS T nm = some (p, q) → 0 ≤ p ∧ p < (n : Int)) (hr : rest.length ≤ 1000) (hs : nm.size ≤ 9223372036854775807) :
    Calls Try.prog 65 #[.string nm, .pointer (some ⟨B, 0, none⟩), .pointer (some ⟨nb, 0, none⟩), .pointer (some ⟨tb, 0, none⟩)] wr fun e w' => e = .returned (.bool (objAt T nm).isSome) ∧ ∃ ao' cap', DM w w' B z nb tb mb n T (nextN T N nm) ao' cap' (nextR T N rest nm) := by
  have hl := h.lt
  obtain ⟨o1, o2, o3, o4, o5⟩ := h.o
  have k2 := h.lay
  have HM := hide h.mp
  have H := hide h
  have hBl : B < wr.heap.size := by omega
  cases hlk : lookS T nm with
  | none =>
    have HK := hide hlk
    have E := hide (show objAt T nm = none by unfold objAt; rw [hlk]; rfl)
    clear h hlk
    go_enter Try.func65, Try.ntmps65
    go_wp2_with (at_lookup; refine wpList_lookN rfl _ _ rfl rfl HM.out nm rfl hs HK.out ?_)
    go_ret
    refine ⟨by rw [E.out]; rfl, ao, cap, ?_⟩
    unfold nextN nextR
    rw [E.out]
    exact H.out.up ((Q.refl wr).alloc _)
  | some pq =>
    obtain ⟨p, q⟩ := pq
    obtain ⟨p0, p1⟩ := hT p q hlk
    obtain ⟨k, rfl⟩ : ∃ k : Nat, p = (k : Int) := ⟨p.toNat, by omega⟩
    have hkn : k < n := by omega
    have HK := hide hlk
    have E := hide (show objAt T nm = some k by unfold objAt; rw [hlk]; simp)
    obtain ⟨b, hb⟩ : ∃ b, N[k]? = some b := ⟨_, List.getElem?_eq_getElem (by omega)⟩
    have kn := h.nd
    obtain ⟨_, _, e0, _, hzs, _, _, hcl, hfz⟩ := own_at h.nw (by omega)
    cases e0
    have kz := hcl k (.bool b) (by rw [List.getElem?_map, hb]; rfl)
    have fz := hfz k
    have htd := h.td
    have hnl : nb < wr.heap.size := by omega
    have hki : (k : Int) < (n : Int) := p1
    have HB := hide hb
    have hq1 : Q wr (wr.alloc (.cells #[.int .i64 k, .int .i64 q] 106)) := (Q.refl wr).alloc _
    have HD1 := hide (h.up hq1)
    clear h hlk hb hcl hfz hq1
    cases b with
    | true =>
      clear htd
      go_enter Try.func65, Try.ntmps65
      go_wp2_with (at_lookup; refine wpList_lookF rfl _ _ rfl rfl HM.out nm rfl hs HK.out ?_)
      go_ret
      refine ⟨by rw [E.out]; rfl, ao, cap, ?_⟩
      unfold nextN nextR
      rw [E.out]
      dsimp only
      rw [if_pos HB.out, set_true_same HB.out]
      exact HD1.out
    | false =>
      have ktd := cell_blk htd 0
      simp only [List.getElem?_toArray, List.getElem?_cons_zero] at ktd
      have ftd := free_blk htd 0
      clear htd
      have HD2 := hide (((H.out.mark k true).up ((Q.refl _).alloc (.cells #[.int .i64 k, .int .i64 q] 106))).up ((Q.refl _).alloc (.cells #[.int .i64 k] 3)))
      have HX := hide (show (((wr.setCell ⟨z, k, none⟩ (.bool true)).alloc (.cells #[.int .i64 k, .int .i64 q] 106)).alloc (.cells #[.int .i64 k] 3)).cell? ⟨wr.heap.size + 1, 0, none⟩ = some (.int .i64 k) by
        have := World.cell?_alloc_new ((wr.setCell ⟨z, k, none⟩ (.bool true)).alloc (.cells #[.int .i64 k, .int .i64 q] 106)) #[.int .i64 k] 3 0
        simpa using this)
      have HS := hide (show tb + 1 ≤ (((wr.setCell ⟨z, k, none⟩ (.bool true)).alloc (.cells #[.int .i64 k, .int .i64 q] 106)).alloc (.cells #[.int .i64 k] 3)).heap.size from HD2.out.lt)
      go_enter Try.func65, Try.ntmps65
      go_wp2_with (first | (at_lookup; refine wpList_lookF rfl _ _ rfl rfl HM.out nm rfl hs HK.out ?_) | (at_builtin; go_loud (refine wpList_tl rfl _ _ rfl rfl rfl HD2.out.tl El_int rfl HX.out hr HS.out ?_; intro A c w5 row htl hg hrw; have ht5 := (hg.block tb HS.out (fun e => by have := hrw tb e.symm; omega)).trans HD2.out.td; have kt5 := cell_blk ht5 0; simp only [List.getElem?_toArray, List.getElem?_cons_zero] at kt5; have ft5 := free_blk ht5 0; have HF := hide (HD2.out.push hg hrw htl); clear htl hg hrw ht5)))
      go_ret
      refine ⟨by rw [E.out]; rfl, A, c, ?_⟩
      unfold nextN nextR
      rw [E.out]
      dsimp only
      rw [if_neg (by rw [HB.out]; simp)]
      have hF := HF.out
      rw [List.length_append] at hF
      exact hF
end Go.Proofs.Ytiilkiggfjpibaa

namespace Go.Proofs.Ytiilkiggfjpibaa
open Go.RowKit LK
set_option linter.unusedVariables false
set_option linter.unusedSimpArgs false
structure PI (os : List OV) (T : Tab) (rs : List ByteArray) (N : List Bool) (rest : List Int) (ko : Option Nat) : Prop where
  len : N.length = os.length
  cnt : rest.length + N.count false ≤ os.length
  sound : ∀ k, N[k]? = some true → Reach os T rs k
  mem : ∀ x ∈ rest, ∃ j : Nat, x = (j : Int) ∧ N[j]? = some true
  cov : ∀ j : Nat, N[j]? = some true → (j : Int) ∈ rest ∨ Done T N (wantsAt os j) ∨ some j = ko
theorem PI.start (os : List OV) (T : Tab) (rs : List ByteArray) : PI os T rs (List.replicate os.length false) [] none := by
  have hno : ∀ k, (List.replicate os.length false)[k]? = some true → False := fun k h => by
    have := List.mem_of_getElem? h
    simp at this
  exact ⟨by simp, by simp, fun k h => (hno k h).elim, fun x h => (by cases h), fun j h => (hno j h).elim⟩
theorem PI.next {os : List OV} {T : Tab} {rs : List ByteArray} {N : List Bool} {rest : List Int} {ko : Option Nat} (h : PI os T rs N rest ko) {nm : ByteArray} (hr : ∀ k, objAt T nm = some k → k < os.length) (hs : ∀ k, objAt T nm = some k → Reach os T rs k) : PI os T rs (nextN T N nm) (nextR T N rest nm) ko := by
  refine ⟨by rw [nextN_len]; exact h.len, ?_, ?_, ?_, ?_⟩
  · rw [next_count (fun k hk => by rw [h.len]; exact hr k hk)]
    exact h.cnt
  · intro k hk
    rcases nextN_inv hk with h1 | h1
    · exact h.sound k h1
    · exact hs k h1
  · intro x hx
    unfold nextR at hx
    split at hx
    · rename_i k hk
      split at hx
      · obtain ⟨j, e, hj⟩ := h.mem x hx
        exact ⟨j, e, nextN_mono hj⟩
      · rcases List.mem_append.1 hx with hx | hx
        · obtain ⟨j, e, hj⟩ := h.mem x hx
          exact ⟨j, e, nextN_mono hj⟩
        · simp at hx
          exact ⟨k, hx, nextN_hit hk (by rw [h.len]; exact hr k hk)⟩
    · obtain ⟨j, e, hj⟩ := h.mem x hx
      exact ⟨j, e, nextN_mono hj⟩
  · intro j hj
    have keep : N[j]? = some true → (j : Int) ∈ nextR T N rest nm ∨ Done T (nextN T N nm) (wantsAt os j) ∨ some j = ko := fun hj => by
      rcases h.cov j hj with h1 | h1 | h1
      · left
        unfold nextR
        split
        · split
          · exact h1
          · exact List.mem_append_left _ h1
        · exact h1
      · exact .inr (.inl (h1.next nm))
      · exact .inr (.inr h1)
    by_cases hN : N[j]? = some true
    · exact keep hN
    · rcases nextN_inv hj with h1 | h1
      · exact keep h1
      · left
        unfold nextR
        rw [h1]
        dsimp only
        rw [if_neg hN]
        simp
theorem PI.pop {os : List OV} {T : Tab} {rs : List ByteArray} {N : List Bool} {x : Int} {rest : List Int} (h : PI os T rs N (x :: rest) none) : ∃ j : Nat, x = (j : Int) ∧ j < os.length ∧ Reach os T rs j ∧ PI os T rs N rest (some j) := by
  obtain ⟨j, rfl, hj⟩ := h.mem x (by simp)
  have hlt : j < os.length := by have := (List.getElem?_eq_some_iff.1 hj).1; have := h.len; omega
  have hc := h.cnt
  rw [List.length_cons] at hc
  refine ⟨j, rfl, hlt, h.sound j hj, h.len, by omega, h.sound, fun y hy => h.mem y (by simp [hy]), fun i hi => ?_⟩
  rcases h.cov i hi with h1 | h1 | h1
  · rcases List.mem_cons.1 h1 with h1 | h1
    · right; right
      have : i = j := by omega
      rw [this]
    · exact .inl h1
  · exact .inr (.inl h1)
  · cases h1
theorem PI.close {os : List OV} {T : Tab} {rs : List ByteArray} {N : List Bool} {rest : List Int} {j : Nat} (h : PI os T rs N rest (some j)) (hd : Done T N (wantsAt os j)) : PI os T rs N rest none := by
  refine ⟨h.len, h.cnt, h.sound, h.mem, fun i hi => ?_⟩
  rcases h.cov i hi with h1 | h1 | h1
  · exact .inl h1
  · exact .inr (.inl h1)
  · cases h1
    exact .inr (.inl hd)
theorem PI.marks {os : List OV} {T : Tab} {rs : List ByteArray} {N : List Bool} (h : PI os T rs N [] none) (hd : Done T N rs) : Marks os T rs N := by
  refine marks_of h.len h.sound hd fun j hj => ?_
  rcases h.cov j hj with h1 | h1 | h1
  · cases h1
  · exact h1
  · cases h1
def DropPost (w : World) (os : List OV) (rs : List ByteArray) (e : Ending) (w' : World) : Prop :=
  Q w w' ∧ ((listedO os ≠ 0 ∧ e = .returned (.tuple #[.slice none 0 0, .int .i64 (listedO os : Nat)])) ∨
    (listedO os = 0 ∧ (∃ r ∈ rs, objAt (tabF 0 0 os) r = none) ∧ e = .returned (.tuple #[.slice none 0 0, .int .i64 4])) ∨
    (listedO os = 0 ∧ (∀ r ∈ rs, objAt (tabF 0 0 os) r ≠ none) ∧ ∃ N v, Marks os (tabF 0 0 os) rs N ∧ e = .returned (.tuple #[v, .int .i64 0]) ∧ w'.ownsRow w.heap.size 3 1 v (dropL N).length ((dropL N).map (Value.int .i64))))
theorem objAt_range {os : List OV} {nm : ByteArray} {k : Nat} (h : objAt (tabF 0 0 os) nm = some k) : k < os.length := by
  unfold objAt at h
  obtain ⟨⟨p, q⟩, hp, e⟩ := Option.map_eq_some_iff.1 h
  have := look_range hp
  dsimp only at e
  omega
theorem objAt_none {T : Tab} {nm : ByteArray} : objAt T nm = none ↔ lookS T nm = none := by
  unfold objAt
  exact Option.map_eq_none_iff
end Go.Proofs.Ytiilkiggfjpibaa

namespace Go.Proofs.Ytiilkiggfjpibaa
open Go.RowKit LK
set_option linter.unusedVariables false
set_option linter.unusedSimpArgs false
/-- while the roots are looked up -/
def L1 (w : World) (os : List OV) (T : Tab) (rs : List ByteArray) (B z nb tb mb n i : Nat) (wr : World) : Prop :=
  ∃ N ao cap rest, DM w wr B z nb tb mb n T N ao cap rest ∧ PI os T rs N rest none ∧ Done T N (rs.take i) ∧ ∀ r ∈ rs.take i, objAt T r ≠ none
theorem DM.start {w w1 w3 : World} {mb n : Nat} {T : Tab} {L0 L1 : Value} (hq1 : Q w w1) (hm : MpR w1 mb T) (hown : w3.ownsRow w.heap.size 4 1 (.slice (some ⟨w1.heap.size + 1, 0, none⟩) n n) n (List.replicate n (.bool false))) (hq3 : Q (w1.alloc (.cells #[L0, L1, .map (some mb)] 78)) w3) (hlt : w1.heap.size + 1 < w3.heap.size) :
    DM w ((w3.alloc (.cells #[.slice (some ⟨w1.heap.size + 1, 0, none⟩) n n] 111)).alloc (.cells #[.slice none 0 0] 26)) w1.heap.size (w1.heap.size + 1) w3.heap.size (w3.heap.size + 1) mb n T (List.replicate n false) none 0 [] := by
  have hqa : Q w1 (w1.alloc (.cells #[L0, L1, .map (some mb)] 78)) := (Q.refl w1).alloc _
  have hq5 : Q w3 ((w3.alloc (.cells #[.slice (some ⟨w1.heap.size + 1, 0, none⟩) n n] 111)).alloc (.cells #[.slice none 0 0] 26)) := ((Q.refl w3).alloc _).alloc _
  have hlay : (w1.alloc (.cells #[L0, L1, .map (some mb)] 78)).cell? ⟨w1.heap.size, 2, none⟩ = some (.map (some mb)) := cell_blkJ (j := 2) (heap_alloc_new w1 _) rfl
  have s1 : (w3.alloc (.cells #[.slice (some ⟨w1.heap.size + 1, 0, none⟩) n n] 111)).heap.size = w3.heap.size + 1 := by simp
  refine ⟨hq1.trans (hqa.trans (hq3.trans hq5)), hm.up (hqa.trans (hq3.trans hq5)), ?_, ?_, ?_, ?_, Tl.nil _ _, ⟨hm.lt, by omega, by omega, by omega, hq1.size⟩⟩
  · exact ((hq3.trans hq5).facts.1 _ _ (by simp)).trans hlay
  · exact cell_blkJ (j := 0) ((heap_alloc_old _ _ (by rw [s1]; omega)).trans (heap_alloc_new w3 _)) rfl
  · rw [List.map_replicate]
    exact own_q hown hq5
  · rw [← s1]
    exact heap_alloc_new _ _
theorem DM.popped {w wr : World} {B z nb tb mb n : Nat} {T : Tab} {N : List Bool} {ao : Option Addr} {cap : Nat} {x : Int} {rest : List Int} (h : DM w wr B z nb tb mb n T N ao cap (x :: rest)) {A : Option Addr} {c : Nat} (ht : Tl wr (tb + 1) A c rest) :
    DM w (wr.setCell ⟨tb, 0, none⟩ (.slice A rest.length c)) B z nb tb mb n T N A c rest :=
  h.push (grown_refl wr none) (fun r e => by cases e) ht
theorem Tl.nilA (w : World) (B : Nat) (ao : Option Addr) : Tl w B ao 0 [] := ⟨0, 0, ⟨Nat.le_refl _, fun h => absurd h (by omega), fun h => absurd h (by omega), rfl, fun j u h => by simp at h, fun j h => by simp at h⟩, fun h => absurd h (by omega), by unfold maxLen; omega⟩
theorem DM.popped1 {w wr : World} {B z nb tb mb n m1 : Nat} {T : Tab} {N : List Bool} {ao : Option Addr} {cap : Nat} {x : Int} {rest : List Int} (h : DM w wr B z nb tb mb n T N ao cap (x :: rest)) (hc : rest.length + 1 ≤ cap) (h1 : cap = 1) (hm : rest.length = m1 - 1) (A : Option Addr) :
    DM w (wr.setCell ⟨tb, 0, none⟩ (.slice A (m1 - 1) 0)) B z nb tb mb n T N A 0 rest := by
  have h0 : rest.length = 0 := by omega
  have hr : rest = [] := List.eq_nil_of_length_eq_zero h0
  rw [← hm]
  subst hr
  exact h.popped (Tl.nilA _ _ _)
/-- while the queue is worked off: at most g numbers are to come -/
def L2 (w : World) (os : List OV) (T : Tab) (rs : List ByteArray) (B z nb tb mb n g : Nat) (wr : World) : Prop :=
  ∃ N ao cap rest, DM w wr B z nb tb mb n T N ao cap rest ∧ PI os T rs N rest none ∧ Done T N rs ∧ rest.length + N.count false ≤ g
def L3 (w : World) (os : List OV) (T : Tab) (rs : List ByteArray) (B z nb tb mb n g j i : Nat) (wr : World) : Prop :=
  ∃ N ao cap rest, DM w wr B z nb tb mb n T N ao cap rest ∧ PI os T rs N rest (some j) ∧ Done T N rs ∧ Done T N ((wantsAt os j).take i) ∧ rest.length + N.count false + 1 ≤ g
set_option maxRecDepth 100000 in
set_option maxHeartbeats 8000000 in
theorem Drop_any (A : Option Addr) (n c : Nat) (os : List OV) (Ar : Option Addr) (m cr : Nat) (rs : List ByteArray) (w : World) (hO : ObsR w A n c os) (hR : Sl 1 encS w Ar m cr rs) (hrs : ∀ r ∈ rs, r.size ≤ 140737488351232) (hm : m ≤ 40) :
    Calls Try.prog 27 #[.slice A n c, .slice Ar m cr] w (DropPost w os rs) := by
  have hl := hO.sl.len
  have HP := hide (open_any A n c os w hO)
  have HL := hide hl
  have HO := hide hO
  have HR := hide hR
  have hrl := hR.len
  have HRL := hide hrl
  have HRS := hide hrs
  obtain ⟨T, hT⟩ : ∃ T, tabF 0 0 os = T := ⟨_, rfl⟩
  have HT := hide hT
  have HRG := hide (fun nm k (h : objAt T nm = some k) => objAt_range (hT ▸ h))
  have HRG2 := hide (fun nm p q (h : lookS T nm = some (p, q)) => look_range (hT ▸ h))
  unfold DropPost
  rw [hT]
  clear hO hl hR hrl hrs
  go_enter Try.func27, Try.ntmps27
  go_wp2_with fail
  refine HP.out.mono ?_
  rintro e w1 ⟨hq1, hcase⟩
  rcases hcase with ⟨hne, rfl⟩ | ⟨h0, As, cs, mb, rfl, hown, hmp⟩
  · have dz : ((listedO os : Int) != 0) = true := by simp; omega
    have HNE := hide hne
    clear hne hT
    go_wp2_with fail
    go_ret2
    exact ⟨hq1.alloc _, .inl ⟨HNE.out, rfl⟩⟩
  · have dz : ((listedO os : Int) != 0) = false := by rw [h0]; rfl
    obtain ⟨h8, hv⟩ := listed_zero2 h0
    rw [HL.out] at h8
    rw [hT] at hmp
    have hni : (n : Int) ≤ 8 := by omega
    have hni0 : (0 : Int) ≤ (n : Int) := by omega
    have HV := hide hv
    have H0 := hide h0
    have HMP := hide hmp
    have hmb := hmp.lt
    have HQ1 := hide hq1
    clear hv h0 hmp hown hT hq1
    go_wp2_with (at_make; go_loud (refine wpList_mk rfl _ _ rfl Try.underlying111 (show (Try.prog.info? 4).map (fun i => (i.zero, i.size, i.bytes)) = some (some (.bool false), 1, 1) by kernel_rfl) rfl w.heap.size (n := n) rfl rfl rfl rfl ?_ ?_ ?_ ?_; (focus omega); (focus omega); (focus (have := HQ1.out.size; simp <;> omega)); intro w3 hown3 hq3 hlt3; have hs2 : (w1.alloc (.cells #[.slice A n c, .slice As (n + 1) cs, .map (some mb)] 78)).heap.size = w1.heap.size + 1 := (by simp); rw [hs2] at hown3 hlt3; have HDM := hide (DM.start HQ1.out HMP.out hown3 hq3 hlt3); clear hs2 hown3 hq3))
    have HD0 := hide (show L1 w os T rs w1.heap.size (w1.heap.size + 1) w3.heap.size (w3.heap.size + 1) mb n 0 ((w3.alloc (.cells #[.slice (some ⟨w1.heap.size + 1, 0, none⟩) n n] 111)).alloc (.cells #[.slice none 0 0] 26)) from ⟨_, none, 0, [], HDM.out, (by have h := PI.start os T rs; rw [HL.out] at h; exact h), fun x hx => by simp at hx, fun x hx => by simp at hx⟩)
    clear HDM
    go_loopw [33] (fun vi wr => ∃ i, i ≤ m ∧ vi = .int .i64 i ∧ L1 w os T rs w1.heap.size (w1.heap.size + 1) w3.heap.size (w3.heap.size + 1) mb n i wr) (fun vi _ => m - (intOf vi).toNat)
    case atStart => exact ⟨0, by omega, by go_num, HD0.out⟩
    case round =>
      obtain ⟨i, hi, rfl, hL⟩ := hrel
      have HLI := hide hL
      clear hL
      obtain ⟨N, ao, cap, rest, hdm, hpi, hdn, hok⟩ := HLI.out
      have hlen := hpi.len
      have hcnt := hpi.cnt
      have hoL := HL.out
      have HDM := hide hdm
      have HPI := hide hpi
      have HDN := hide hdn
      have HOK := hide hok
      clear hdn hok hpi
      by_cases hlt : i < m
      · have hd1 : decide ((i : Int) < (m : Int)) = true := by simp; omega
        have hd0 : decide (i < m) = true := by simp; omega
        have hlti : (i : Int) < (m : Int) := by omega
        obtain ⟨b1, o1, x, rfl, hb1, g1, hc1⟩ := (HR.out.up hdm.q).at_ (fun _ => rfl) (by decide) i hlt
        have x1 := hc1 0 (.string x) rfl
        rw [Nat.mul_one, Nat.add_zero] at x1
        have hxs : x.size ≤ 9223372036854775807 := by have := HRS.out x (List.mem_of_getElem? g1); omega
        have HC := hide (need_any w wr _ _ _ _ mb n T N ao cap rest x hdm (by omega) h8 (fun p q h => by have := HRG2.out x p q h; rw [hoL] at this; exact this) (by omega) hxs)
        have G1 := hide g1
        have hTk : rs.take (i + 1) = rs.take i ++ [x] := by rw [List.take_add_one, g1]; rfl
        have HTK := hide hTk
        clear hdm g1 hc1 hlen hcnt hoL hTk
        cases ho : objAt T x with
        | none =>
          have HOB := hide ho
          have HNO := hide (show ∃ r ∈ rs, objAt T r = none from ⟨x, List.mem_of_getElem? G1.out, ho⟩)
          clear ho
          go_wp2_with fail
          refine HC.out.mono ?_
          rintro e w4 ⟨rfl, ao', cap', hdm'⟩
          rw [HOB.out]
          have HQ4 := hide hdm'.q
          clear hdm'
          go_wp2_with fail
          go_ret2
          exact ⟨HQ4.out, .inr (.inl ⟨H0.out, HNO.out, rfl⟩)⟩
        | some k =>
          have HOB := hide ho
          clear ho
          go_wp2_with fail
          refine HC.out.mono ?_
          rintro e w4 ⟨rfl, ao', cap', hdm'⟩
          rw [HOB.out]
          have HDM' := hide hdm'
          clear hdm'
          go_wp2_with fail
          go_roundw
          case rel => exact ⟨i + 1, by omega, by go_num, _, ao', cap', _, HDM'.out, HPI.out.next (fun k hk => HRG.out _ k hk) (fun k hk => Reach.root (List.mem_of_getElem? G1.out) hk), by rw [HTK.out]; exact HDN.out.snoc (fun k hk => by rw [HPI.out.len]; exact HRG.out _ k hk), fun r hr => by rw [HTK.out] at hr; rcases List.mem_append.1 hr with hr | hr; exact HOK.out r hr; simp at hr; subst hr; rw [HOB.out]; simp⟩
          case measure => simp [intOf] <;> omega
      · have hd1 : decide ((i : Int) < (m : Int)) = false := by simp; omega
        have hd0 : decide (i < m) = false := by simp; omega
        obtain rfl : i = m := by omega
        have hdone : Done T N rs := by have h := HDN.out; rw [List.take_of_length_le (by rw [HRL.out]; exact Nat.le_refl _)] at h; exact h
        have HOKA := hide (show ∀ r ∈ rs, objAt T r ≠ none by have h := HOK.out; rw [List.take_of_length_le (by rw [HRL.out]; exact Nat.le_refl _)] at h; exact h)
        have HDONE := hide hdone
        clear hdm hdone hlen
        have HL2 := hide (show L2 w os T rs w1.heap.size (w1.heap.size + 1) w3.heap.size (w3.heap.size + 1) mb n n wr from ⟨N, ao, cap, rest, HDM.out, HPI.out, HDONE.out, by have := HPI.out.cnt; rw [HL.out] at this; exact this⟩)
        clear HDM HPI HDN HOK HDONE HLI hcnt hoL
        clear N ao cap rest
        go_wp2_with fail
        go_loopg [] n (fun g wr => L2 w os T rs w1.heap.size (w1.heap.size + 1) w3.heap.size (w3.heap.size + 1) mb n g wr)
        case atStart => exact HL2.out
        case round =>
          clear HL2
          obtain ⟨N, ao, cap, rest, hdm, hpi, hdn, hcnt⟩ := hrel
          have HDM := hide hdm
          have HPI := hide hpi
          have HDN := hide hdn
          have ktb := cell_blk hdm.td 0
          simp only [List.getElem?_toArray, List.getElem?_cons_zero] at ktb
          have ftb := free_blk hdm.td 0
          have htl := hdm.lt
          cases rest with
          | nil =>
            have knb := hdm.nd
            have hnbl : w3.heap.size < wr.heap.size := by have := hdm.lt; omega
            have HMK := hide (hpi.marks hdn)
            have HNL := hide hpi.len
            clear hdm hpi hdn
            go_wp2_with fail
            clear knb hnbl ktb ftb hcnt htl
            obtain ⟨w6, rfl⟩ : ∃ w6 : World, w6 = wr := ⟨_, rfl⟩
            go_loopw [16, 67] (fun v16 vi wx => ∃ i4, i4 ≤ n ∧ vi = .int .i64 (i4 : Nat) ∧ wx.ownsRow w6.heap.size 3 1 v16 (dropTo N i4).length ((dropTo N i4).map (Value.int .i64)) ∧ Q w6 wx) (fun _ vi _ => n - (intOf vi).toNat)
            case atStart => exact ⟨0, by omega, by go_num, World.ownsRow_nil _ _ _ _, Q.refl _⟩
            case round =>
              obtain ⟨i4, hi4, rfl, hown, hq⟩ := hrel
              have hsz := hq.size
              have hdl := dropTo_len N i4
              have hnl := HNL.out
              rw [HL.out] at hnl
              by_cases hlt : i4 < n
              · have hd1 : decide ((i4 : Int) < (n : Int)) = true := by simp; omega
                have hd0 : decide (i4 < n) = true := by simp; omega
                have hlti : (i4 : Int) < (n : Int) := by omega
                obtain ⟨_, _, e0, _, hzs, _, _, hcl, _⟩ := own_at HDM.out.nw (by omega)
                cases e0
                obtain ⟨b, hb⟩ : ∃ b, N[i4]? = some b := ⟨_, List.getElem?_eq_getElem (by omega)⟩
                have hz6 := (hq.facts.1 _ _ hzs).trans (hcl i4 (.bool b) (by rw [List.getElem?_map, hb]; rfl))
                have hsu := dropTo_succ N i4 b hb
                have HSU := hide hsu
                have HOW := hide hown
                have HQ6 := hide hq
                clear hb hcl hsu hown hq
                cases b with
                | true =>
                  go_wp2_with fail
                  go_roundw
                  case rel => exact ⟨i4 + 1, by omega, by go_num, by rw [HSU.out]; exact HOW.out, HQ6.out⟩
                  case measure => simp [intOf] <;> omega
                | false =>
                  go_wp2_with (at_builtin; go_loud (refine wpList_app1 rfl El_int _ _ rfl rfl HOW.out (by simp) rfl rfl ?_ ?_ ?_ ?_; (focus (simp [Value.oneCell'])); (focus omega); (focus omega); intro v7 w7 hown7 hb7; have HO7 := hide hown7; have HB7 := hide (show Q w6 w7 from HQ6.out.below.trans hb7); clear hown7 hb7))
                  go_roundw
                  case rel => exact ⟨i4 + 1, by omega, by go_num, by rw [HSU.out]; have h := HO7.out; simpa using h, HB7.out⟩
                  case measure => simp [intOf] <;> omega
              · have hd1 : decide ((i4 : Int) < (n : Int)) = false := by simp; omega
                have hd0 : decide (i4 < n) = false := by simp; omega
                obtain rfl : i4 = n := by omega
                have HOW := hide (show wr.ownsRow w.heap.size 3 1 u16 (dropL N).length ((dropL N).map (Value.int .i64)) by have h := own_base2 hown HDM.out.q.size; rw [← hnl] at h; exact h)
                have HQ6 := hide (HDM.out.q.trans hq)
                clear hown hq hnl hdl
                go_wp2_with fail
                go_ret2
                exact ⟨HQ6.out, .inr (.inr ⟨H0.out, HOKA.out, N, _, HMK.out, rfl, HOW.out⟩)⟩
          | cons x rest =>
            obtain ⟨bq, oq, rfl, hbq, cq, hcap1, hcap2, htl2⟩ := hdm.tl.pop
            obtain ⟨j, rfl, hj, hreach, hpi2⟩ := hpi.pop
            have hpop := hdm.popped htl2
            obtain ⟨b1, o1, ob, rfl, hbb, g1, x1, x2, x3, hob⟩ := HO.out.at_ j (by rw [← HL.out]; exact hj)
            obtain ⟨⟨A0, n0, c0, bs⟩, ⟨A1, n1, c1, ss⟩, ⟨A2, n2, c2, ws⟩⟩ := ob
            dsimp only at x1 x2 x3
            have x3 := (hdm.q.facts.1 _ _ hbb).trans x3
            have ho5 := hdm.o.2.2.2.2
            have hbne : ¬ w3.heap.size + 1 = b1 := by omega
            have hbne2 : ¬ b1 = w3.heap.size + 1 := by omega
            have HOB := hide hob
            have HG1 := hide g1
            have HPOP := hpop
            have HPOP1 := hide (fun h1 => hdm.popped1 (m1 := rest.length + 1) hcap1 h1 rfl (some ⟨bq, oq, none⟩))
            have HPI2 := hide hpi2
            have HRE := hide hreach
            have hjn : j < n := by rw [← HL.out]; exact hj
            have hjni : (j : Int) < (n : Int) := by omega
            obtain ⟨m1, hm1⟩ : ∃ m1, rest.length + 1 = m1 := ⟨_, rfl⟩
            have hm2 : rest.length = m1 - 1 := by omega
            have hlen1 : (0 : Int) < (m1 : Int) := by omega
            have hlen2 : 0 < m1 := by omega
            have hlen3 : (1 : Int) ≤ (m1 : Int) := by omega
            have hlen5 : decide ((0 : Int) < (m1 : Int)) = true := by simp; omega
            have hlen6 : decide (0 < m1) = true := by simp; omega
            have hlen7 : m1 ≤ cap := by omega
            unfold maxLen at hcap2
            have HCNT := hide (show rest.length + N.count false + 1 ≤ gk by rw [List.length_cons] at hcnt; omega)
            have hn2 : n2 ≤ 9223372036854775807 := by have h1 := HOB.out.t.cap; have h2 := HOB.out.t.most; dsimp only at h1 h2; omega
            have hn2i : (n2 : Int) ≤ 9223372036854775807 := by omega
            have HW := hide (show wantsAt os j = ws.map (·.2.2) by unfold wantsAt; rw [HG1.out])
            have HWL := hide (show ws.length = n2 from HOB.out.t.len)
            clear hcnt
            rw [List.length_cons, hm1] at ktb
            rw [hm2] at HPOP
            rw [hm1] at HPOP1
            have HPOP := hide HPOP
            have HM2 := hide hm2
            clear hm1 hm2 hcap1 hdm hpi hdn htl2 hpop hpi2 hreach hob g1 x1 x2
            go_wp2_with fail
            all_goals (
              go_loopw [56] (fun vi wx => ∃ i2, i2 ≤ n2 ∧ vi = .int .i64 (i2 : Nat) ∧ L3 w os T rs w1.heap.size (w1.heap.size + 1) w3.heap.size (w3.heap.size + 1) mb n gk j i2 wx) (fun vi _ => n2 - (intOf vi).toNat)
              case atStart => first | exact ⟨0, by omega, by go_num, N, _, _, rest, HPOP.out, HPI2.out, HDN.out, fun x hx => by simp at hx, HCNT.out⟩ | exact ⟨0, by omega, by go_num, N, _, _, rest, HPOP1.out (by assumption), HPI2.out, HDN.out, fun x hx => by simp at hx, HCNT.out⟩
              case round =>
                clear HPOP HPOP1 HPI2 HDN HCNT HDM HPI ktb ftb
                obtain ⟨i2, hi2, rfl, N2, ao2, cap2, rest2, hdm2, hpi2, hdn2, hdw2, hcn2⟩ := hrel
                have HPI2 := hide hpi2
                have HDN2 := hide hdn2
                have HDW2 := hide hdw2
                have HCN2 := hide hcn2
                have hl2 := hpi2.len
                have hc2 := hpi2.cnt
                have hoL := HL.out
                clear hpi2 hdn2 hdw2 hcn2
                by_cases hlt : i2 < n2
                · have hd1 : decide ((i2 : Int) < (n2 : Int)) = true := by simp; omega
                  have hd0 : decide (i2 < n2) = true := by simp; omega
                  have hlti : (i2 : Int) < (n2 : Int) := by omega
                  obtain ⟨b4, o4, at_, kd, nm, e4, hb4, g4, y1, y2, y3⟩ := (HOB.out.t.up hdm2.q).wnt i2 hlt
                  dsimp only at e4 g4
                  subst e4
                  have hnm : nm.size ≤ 9223372036854775807 := by have := HOB.out.tok _ (List.mem_of_getElem? g4); dsimp only at this; omega
                  have HC := hide (need_any w (wr.alloc (.cells #[.int .i64 at_, .int .i64 kd, .string nm] 97)) _ _ _ _ mb n T N2 ao2 cap2 rest2 nm (hdm2.up ((Q.refl wr).alloc _)) (by omega) h8 (fun p q h => by have := HRG2.out nm p q h; rw [hoL] at this; exact this) (by omega) hnm)
                  have HTK := hide (show (wantsAt os j).take (i2 + 1) = (wantsAt os j).take i2 ++ [nm] by rw [HW.out, List.take_add_one, List.getElem?_map, g4]; rfl)
                  have HMEM := hide (show nm ∈ wantsAt os j by rw [HW.out]; exact List.mem_map.2 ⟨_, List.mem_of_getElem? g4, rfl⟩)
                  clear hdm2 g4 hl2 hc2 hoL
                  go_wp2_with fail
                  refine HC.out.mono ?_
                  rintro e w5 ⟨rfl, ao', cap', hdm'⟩
                  have HDM' := hide hdm'
                  clear hdm'
                  go_wp2_with fail
                  go_roundw
                  case rel => exact ⟨i2 + 1, by omega, by go_num, _, ao', cap', _, HDM'.out, HPI2.out.next (fun k hk => HRG.out _ k hk) (fun k hk => Reach.want HRE.out HMEM.out hk), HDN2.out.next nm, by rw [HTK.out]; exact HDW2.out.snoc (fun k hk => by rw [HPI2.out.len]; exact HRG.out _ k hk), by rw [next_count (fun k hk => by rw [HPI2.out.len]; exact HRG.out _ k hk)]; exact HCN2.out⟩
                  case measure => simp [intOf] <;> omega
                · have hd1 : decide ((i2 : Int) < (n2 : Int)) = false := by simp; omega
                  have hd0 : decide (i2 < n2) = false := by simp; omega
                  obtain rfl : i2 = n2 := by omega
                  have HDM2 := hide hdm2
                  have HDA := hide (show Done T N2 (wantsAt os j) by have h := HDW2.out; rw [List.take_of_length_le (by rw [HW.out, List.length_map, HWL.out]; exact Nat.le_refl _)] at h; exact h)
                  clear hdm2 hl2 hc2 hoL
                  go_wp2_with fail
                  go_roundg (rest2.length + N2.count false)
                  case measure => exact HCN2.out
                  case rel => exact ⟨N2, ao2, cap2, rest2, HDM2.out, HPI2.out.close HDA.out, HDN2.out, Nat.le_refl _⟩)
end Go.Proofs.Ytiilkiggfjpibaa

namespace Go.Proofs.Ytiilkiggfjpibaa
open Go.RowKit LK
set_option linter.unusedVariables false
set_option linter.unusedSimpArgs false
structure RI (os : List OV) (T : Tab) (rs : List ByteArray) (N : List Bool) (names : List ByteArray) (jo : Option Nat) : Prop where
  len : N.length = os.length
  sound : ∀ k, N[k]? = some true → Reach os T rs k
  root : ∀ r ∈ rs, r ∈ names
  mem : ∀ x ∈ names, x ∈ rs ∨ ∃ j, N[j]? = some true ∧ x ∈ wantsAt os j
  sub : ∀ j : Nat, N[j]? = some true → some j = jo ∨ ∀ x ∈ wantsAt os j, x ∈ names
theorem set_mono {N : List Bool} {i j : Nat} (h : N[j]? = some true) : (N.set i true)[j]? = some true := by
  rw [List.getElem?_set]
  have := (List.getElem?_eq_some_iff.1 h).1
  split <;> simp_all
theorem set_inv {N : List Bool} {i j : Nat} (h : (N.set i true)[j]? = some true) : j = i ∨ N[j]? = some true := by
  by_cases e : i = j
  · exact .inl e.symm
  · rw [List.getElem?_set_ne e] at h
    exact .inr h
theorem RI.start (os : List OV) (T : Tab) (rs : List ByteArray) : RI os T rs (List.replicate os.length false) rs none := by
  have hno : ∀ k, (List.replicate os.length false)[k]? = some true → False := fun k h => by
    have := List.mem_of_getElem? h
    simp at this
  exact ⟨by simp, fun k h => (hno k h).elim, fun r h => h, fun x h => .inl h, fun j h => (hno j h).elim⟩
theorem RI.mark {os : List OV} {T : Tab} {rs : List ByteArray} {N : List Bool} {names : List ByteArray} (h : RI os T rs N names none) {i : Nat} {nm : ByteArray} (hi : i < os.length) (hm : nm ∈ names) (ho : objAt T nm = some i) : RI os T rs (N.set i true) names (some i) := by
  have hr : Reach os T rs i := by
    rcases h.mem nm hm with h1 | ⟨j, hj, h1⟩
    · exact .root h1 ho
    · exact .want (h.sound j hj) h1 ho
  refine ⟨by simp [h.len], fun k hk => ?_, h.root, fun x hx => ?_, fun j hj => ?_⟩
  · rcases set_inv hk with rfl | hk
    · exact hr
    · exact h.sound k hk
  · rcases h.mem x hx with h1 | ⟨j, hj, h1⟩
    · exact .inl h1
    · exact .inr ⟨j, set_mono hj, h1⟩
  · rcases set_inv hj with rfl | hj
    · exact .inl rfl
    · rcases h.sub j hj with h1 | h1
      · cases h1
      · exact .inr h1
theorem RI.snoc {os : List OV} {T : Tab} {rs : List ByteArray} {N : List Bool} {names : List ByteArray} {i : Nat} (h : RI os T rs N names (some i)) {x : ByteArray} (hx : x ∈ wantsAt os i) (hN : N[i]? = some true) : RI os T rs N (names ++ [x]) (some i) := by
  refine ⟨h.len, h.sound, fun r hr => List.mem_append_left _ (h.root r hr), fun y hy => ?_, fun j hj => ?_⟩
  · rcases List.mem_append.1 hy with hy | hy
    · exact h.mem y hy
    · simp at hy
      subst hy
      exact .inr ⟨i, hN, hx⟩
  · rcases h.sub j hj with h1 | h1
    · exact .inl h1
    · exact .inr fun y hy => List.mem_append_left _ (h1 y hy)
theorem RI.close {os : List OV} {T : Tab} {rs : List ByteArray} {N : List Bool} {names : List ByteArray} {i : Nat} (h : RI os T rs N names (some i)) (hd : ∀ x ∈ wantsAt os i, x ∈ names) : RI os T rs N names none := by
  refine ⟨h.len, h.sound, h.root, h.mem, fun j hj => ?_⟩
  rcases h.sub j hj with h1 | h1
  · cases h1
    exact .inr hd
  · exact .inr h1
theorem RI.marks {os : List OV} {T : Tab} {rs : List ByteArray} {N : List Bool} {names : List ByteArray} (h : RI os T rs N names none) (hd : Done T N names) : Marks os T rs N := by
  refine marks_of h.len h.sound (fun x hx => hd x (h.root x hx)) fun j hj => ?_
  rcases h.sub j hj with h1 | h1
  · cases h1
  · exact fun x hx => hd x (h1 x hx)
theorem Done.set {T : Tab} {N : List Bool} {names : List ByteArray} (h : Done T N names) (i : Nat) : Done T (N.set i true) names := fun x hx k hk => set_mono (h x hx k hk)
def hasB (o : OV) (s : ByteArray) : Bool := o.2.1.xs.any fun y => y.1.toList == s.toList
theorem tabF_sym : ∀ (os : List OV) (k0 a0 : Nat) (x : ByteArray) (p : Int × Int), (x, p) ∈ tabF k0 a0 os → ∃ (i : Nat) (o : OV), p.1 = ((k0 + i : Nat) : Int) ∧ os[i]? = some o ∧ x ∈ symN o
  | [], _, _, _, _, h => by cases h
  | o :: r, k0, a0, x, p, h => by
    rw [tabF, List.mem_append] at h
    rcases h with h | h
    · obtain ⟨y, hy, e⟩ := List.mem_map.1 h
      cases e
      exact ⟨0, o, rfl, rfl, List.mem_map.2 ⟨y, hy, rfl⟩⟩
    · obtain ⟨i, o', e, ho, hx⟩ := tabF_sym r (k0 + 1) _ x p h
      exact ⟨i + 1, o', by rw [e]; congr 1; omega, ho, hx⟩
theorem obj_has {os : List OV} {nm : ByteArray} {i : Nat} (h : objAt (tabF 0 0 os) nm = some i) : ∃ o x, os[i]? = some o ∧ x ∈ symN o ∧ (x.toList == nm.toList) = true := by
  unfold objAt lookS at h
  rw [Option.map_map] at h
  obtain ⟨y, hy, e⟩ := Option.map_eq_some_iff.1 h
  obtain ⟨i', o, e2, ho, hx⟩ := tabF_sym os 0 0 y.1 y.2 (List.mem_of_find?_eq_some hy)
  have hp := List.find?_some hy
  dsimp only [Function.comp] at e
  have : i' = i := by omega
  subst this
  exact ⟨o, y.1, ho, hx, hp⟩
theorem mem_tabF : ∀ (os : List OV) (k0 a0 i : Nat) (o : OV) (x : ByteArray), os[i]? = some o → x ∈ symN o → ∃ p, (x, p) ∈ tabF k0 a0 os
  | [], _, _, i, _, _, h, _ => by simp at h
  | o :: r, k0, a0, 0, o', x, h, hx => by
    simp at h
    subst h
    obtain ⟨y, hy, rfl⟩ := List.mem_map.1 hx
    exact ⟨_, by rw [tabF]; exact List.mem_append_left _ (List.mem_map.2 ⟨y, hy, rfl⟩)⟩
  | o :: r, k0, a0, i + 1, o', x, h, hx => by
    obtain ⟨p, hp⟩ := mem_tabF r (k0 + 1) (a0 + room o.1.n) i o' x (by simpa using h) hx
    exact ⟨p, by rw [tabF]; exact List.mem_append_right _ hp⟩
/-- an object has a name: the table leads to it -/
theorem has_obj {os : List OV} {nm : ByteArray} {i : Nat} {o : OV} (hd : dupB [] (namesF os) = false) (ho : os[i]? = some o) (h : hasB o nm = true) : objAt (tabF 0 0 os) nm = some i := by
  unfold hasB at h
  obtain ⟨y, hy, he⟩ := List.any_eq_true.1 h
  have hys : y.1 ∈ symN o := List.mem_map.2 ⟨y, hy, rfl⟩
  obtain ⟨p, hp⟩ := mem_tabF os 0 0 i o y.1 ho hys
  cases hk : objAt (tabF 0 0 os) nm with
  | none =>
    rw [objAt_none] at hk
    unfold lookS at hk
    rw [Option.map_eq_none_iff, List.find?_eq_none] at hk
    exact absurd he (hk _ hp)
  | some k =>
    obtain ⟨o2, x, ho2, hx, hxe⟩ := obj_has hk
    have hxy : (x.toList == y.1.toList) = true := by
      have e1 : x.toList = nm.toList := by simpa using hxe
      have e2 : y.1.toList = nm.toList := by simpa using he
      rw [e1, e2]
      simp
    rcases Nat.lt_trichotomy k i with hlt | rfl | hlt
    · have := nd_found ho hlt ho2 hys (List.any_eq_true.2 ⟨x, hx, hxy⟩)
      rw [this] at hd; cases hd
    · rfl
    · have := nd_found ho2 hlt ho hx (List.any_eq_true.2 ⟨y.1, hys, by have e := (beq_iff_eq.1 hxy).symm; rw [e]; simp⟩)
      rw [this] at hd; cases hd
theorem obj_hasB {os : List OV} {nm : ByteArray} {i : Nat} {o : OV} (ho : os[i]? = some o) (h : objAt (tabF 0 0 os) nm = some i) : hasB o nm = true := by
  obtain ⟨o2, x, ho2, hx, hxe⟩ := obj_has h
  rw [ho] at ho2
  cases ho2
  obtain ⟨y, hy, rfl⟩ := List.mem_map.1 hx
  exact List.any_eq_true.2 ⟨y, hy, hxe⟩
theorem listed_nodup {os : List OV} (h : listedO os = 0) : dupB [] (namesF os) = false := by
  unfold listedO at h
  split at h
  · omega
  · split at h
    · rename_i h1; exact absurd h h1
    · split at h
      · cases h
      · rename_i h2; simpa using h2
theorem addr_obj (os : List OV) (s : ByteArray) : (addrR os s).2 = (objAt (tabF 0 0 os) s).isSome := by
  unfold addrR objAt
  cases lookS (tabF 0 0 os) s <;> rfl
end Go.Proofs.Ytiilkiggfjpibaa

namespace Go.Proofs.Ytiilkiggfjpibaa
open Go.RowKit LK
set_option linter.unusedVariables false
set_option linter.unusedSimpArgs false
theorem El_text : El Try.prog 57 9 1 16 := El.of (z := .string ByteArray.empty) Try.underlying57 (by kernel_rfl) rfl (by decide) (by decide)
theorem own_ne {w : World} {B1 B2 e1 e2 s1 s2 n1 n2 : Nat} {v1 v2 : Value} {xs1 xs2 : List Value} (h1 : w.ownsRow B1 e1 s1 v1 n1 xs1) (h2 : w.ownsRow B2 e2 s2 v2 n2 xs2) (hne : e1 ≠ e2) : v1.ownBlock = none ∨ v1.ownBlock ≠ v2.ownBlock := by
  cases h : v1.ownBlock with
  | none => exact .inl rfl
  | some g =>
    refine .inr fun e => ?_
    obtain ⟨c1, a1⟩ := own_blk h1 h
    obtain ⟨c2, a2⟩ := own_blk h2 e.symm
    rw [a1] at a2
    cases a2
    exact hne rfl
/-- the reference's memory: the marks' row z, the names' row -/
structure RM (w wr : World) (z n : Nat) (N : List Bool) (v : Value) (names : List ByteArray) : Prop where
  q : Q w wr
  nw : wr.ownsRow w.heap.size 4 1 (.slice (some ⟨z, 0, none⟩) n n) n (N.map Value.bool)
  nm : wr.ownsRow w.heap.size 9 1 v names.length (names.map Value.string)
theorem RM.up {w wr w' : World} {z n : Nat} {N : List Bool} {v : Value} {names : List ByteArray} (h : RM w wr z n N v names) (hq : Q wr w') : RM w w' z n N v names := ⟨h.q.trans hq, own_q h.nw hq, own_q h.nm hq⟩
theorem RM.mark {w wr : World} {z n : Nat} {N : List Bool} {v : Value} {names : List ByteArray} (h : RM w wr z n N v names) (k : Nat) : RM w (wr.setCell ⟨z, k, none⟩ (.bool true)) z n (N.set k true) v names := by
  refine ⟨h.q.set (h.nw.lt z rfl).1 _, by rw [List.map_set]; exact own_set h.nw k _, h.nm.kept grown_cell ?_⟩
  exact own_ne h.nm h.nw (by decide)
theorem RM.app {w wr w' : World} {z n : Nat} {N : List Bool} {v v' : Value} {names names' : List ByteArray} (h : RM w wr z n N v names) (hg : wr.grownBy w' v.ownBlock) (ho : w'.ownsRow w.heap.size 9 1 v' names'.length (names'.map Value.string)) : RM w w' z n N v' names' :=
  ⟨q_grown h.q hg (fun k e => (h.nm.lt k e).1), h.nw.kept hg (own_ne h.nw h.nm (by decide)), ho⟩
theorem own_none {w : World} {B : Nat} (hB : B ≤ w.heap.size) : (w.alloc (.cells #[] 9)).ownsRow B 9 1 (.slice (some ⟨w.heap.size, 0, none⟩) 0 0) 0 [] :=
  ⟨rfl, .inr ⟨w.heap.size, 0, #[], rfl, hB, heap_alloc_new w _, Nat.le_refl _, by unfold maxLen; omega, rfl, rfl⟩⟩
theorem encS_flat : ∀ l : List ByteArray, l.flatMap encS = l.map Value.string
  | [] => rfl
  | x :: r => by rw [List.flatMap_cons, encS_flat r]; rfl
/-- at the name p of the list -/
structure R2 (w wr : World) (os : List OV) (T : Tab) (rs : List ByteArray) (z n : Nat) (N : List Bool) (v : Value) (names : List ByteArray) (p : Nat) : Prop where
  rm : RM w wr z n N v names
  ri : RI os T rs N names none
  dn : Done T N (names.take p)
  bd : names.length + 16 * N.count false ≤ 168
theorem wants_le {o : OV} (h : o.valid = 0) : o.2.2.xs.length ≤ 16 := by
  unfold OV.valid at h
  by_cases hb : 512 < o.1.n ∨ 16 < o.2.1.xs.length ∨ 16 < o.2.2.xs.length
  · rw [valid_big hb] at h; cases h
  · omega
/-- .. and at the object i -/
structure R3 (w wr : World) (os : List OV) (T : Tab) (rs : List ByteArray) (z n : Nat) (N : List Bool) (v : Value) (names : List ByteArray) (p : Nat) (nm : ByteArray) (i : Nat) : Prop where
  rm : RM w wr z n N v names
  ri : RI os T rs N names none
  dn : Done T N (names.take p)
  bd : names.length + 16 * N.count false ≤ 168
  at_ : names[p]? = some nm
  upto : ∀ k, objAt T nm = some k → k < i → N[k]? = some true
/-- .. and at its want k -/
structure R4 (w wr : World) (os : List OV) (T : Tab) (rs : List ByteArray) (z n : Nat) (N : List Bool) (v : Value) (names : List ByteArray) (p : Nat) (nm : ByteArray) (i k : Nat) : Prop where
  rm : RM w wr z n N v names
  ri : RI os T rs N names (some i)
  dn : Done T N (names.take p)
  bd : names.length + 16 * N.count false + 16 ≤ 168 + k
  at_ : names[p]? = some nm
  upto : ∀ k, objAt T nm = some k → k < i + 1 → N[k]? = some true
  sub : ∀ x ∈ (wantsAt os i).take k, x ∈ names
  on : N[i]? = some true
theorem R3.up {w wr w' : World} {os : List OV} {T : Tab} {rs : List ByteArray} {z n : Nat} {N : List Bool} {v : Value} {names : List ByteArray} {p : Nat} {nm : ByteArray} {i : Nat} (h : R3 w wr os T rs z n N v names p nm i) (hq : Q wr w') : R3 w w' os T rs z n N v names p nm i := ⟨h.rm.up hq, h.ri, h.dn, h.bd, h.at_, h.upto⟩
theorem R3.step {w wr : World} {os : List OV} {T : Tab} {rs : List ByteArray} {z n : Nat} {N : List Bool} {v : Value} {names : List ByteArray} {p : Nat} {nm : ByteArray} {i : Nat} (h : R3 w wr os T rs z n N v names p nm i) (hi : objAt T nm = some i → N[i]? = some true) : R3 w wr os T rs z n N v names p nm (i + 1) := by
  refine ⟨h.rm, h.ri, h.dn, h.bd, h.at_, fun k hk hlt => ?_⟩
  by_cases e : k = i
  · subst e; exact hi hk
  · exact h.upto k hk (by omega)
theorem R3.mark {w wr : World} {os : List OV} {T : Tab} {rs : List ByteArray} {z n : Nat} {N : List Bool} {v : Value} {names : List ByteArray} {p : Nat} {nm : ByteArray} {i : Nat} (h : R3 w wr os T rs z n N v names p nm i) (hi : i < os.length) (hN : N[i]? = some false) (ho : objAt T nm = some i) :
    R4 w (wr.setCell ⟨z, i, none⟩ (.bool true)) os T rs z n (N.set i true) v names p nm i 0 := by
  have hc := count_set hN
  have hb := h.bd
  have hl := h.ri.len
  refine ⟨h.rm.mark i, h.ri.mark hi (List.mem_of_getElem? h.at_) ho, h.dn.set i, by omega, h.at_, fun k hk hlt => ?_, fun x hx => by simp at hx, by simp [List.getElem?_set, hl, hi]⟩
  by_cases e : k = i
  · subst e; simp [List.getElem?_set, hl, hi]
  · exact set_mono (h.upto k hk (by omega))
theorem R4.app {w wr w' : World} {os : List OV} {T : Tab} {rs : List ByteArray} {z n : Nat} {N : List Bool} {v v' : Value} {names : List ByteArray} {p : Nat} {nm x : ByteArray} {i k : Nat} (h : R4 w wr os T rs z n N v names p nm i k) (hp : p < names.length) (hx : (wantsAt os i)[k]? = some x) (hg : wr.grownBy w' v.ownBlock) (ho : w'.ownsRow w.heap.size 9 1 v' (names.length + 1) (names.map Value.string ++ [Value.string x])) :
    R4 w w' os T rs z n N v' (names ++ [x]) p nm i (k + 1) := by
  have hb := h.bd
  refine ⟨h.rm.app hg (by rw [List.map_append, List.length_append]; exact ho), h.ri.snoc (List.mem_of_getElem? hx) h.on, ?_, by rw [List.length_append]; simp; omega, ?_, h.upto, fun y hy => ?_, h.on⟩
  · rw [List.take_append_of_le_length (by omega)]; exact h.dn
  · rw [List.getElem?_append_left hp]; exact h.at_
  · rw [List.take_add_one, hx] at hy
    rcases List.mem_append.1 hy with hy | hy
    · exact List.mem_append_left _ (h.sub y hy)
    · exact List.mem_append_right _ (by simpa using hy)
theorem R4.done {w wr : World} {os : List OV} {T : Tab} {rs : List ByteArray} {z n : Nat} {N : List Bool} {v : Value} {names : List ByteArray} {p : Nat} {nm : ByteArray} {i k : Nat} (h : R4 w wr os T rs z n N v names p nm i k) (hk : (wantsAt os i).length = k) (hk2 : k ≤ 16) : R3 w wr os T rs z n N v names p nm (i + 1) := by
  have hb := h.bd
  refine ⟨h.rm, h.ri.close (fun x hx => h.sub x (by rw [List.take_of_length_le (by omega)]; exact hx)), h.dn, by omega, h.at_, h.upto⟩
theorem R3.done {w wr : World} {os : List OV} {T : Tab} {rs : List ByteArray} {z n : Nat} {N : List Bool} {v : Value} {names : List ByteArray} {p : Nat} {nm : ByteArray} (h : R3 w wr os T rs z n N v names p nm n) (hr : ∀ k, objAt T nm = some k → k < n) : R2 w wr os T rs z n N v names (p + 1) := by
  refine ⟨h.rm, h.ri, ?_, h.bd⟩
  rw [List.take_add_one, h.at_]
  intro x hx k hk
  rcases List.mem_append.1 hx with hx | hx
  · exact h.dn x hx k hk
  · simp at hx
    subst hx
    exact h.upto k hk (hr k hk)
set_option maxRecDepth 100000 in
set_option maxHeartbeats 8000000 in
theorem rDrop_any (A : Option Addr) (n c : Nat) (os : List OV) (Ar : Option Addr) (m cr : Nat) (rs : List ByteArray) (w : World) (hO : ObsR w A n c os) (hR : Sl 1 encS w Ar m cr rs) (hrs : ∀ r ∈ rs, r.size ≤ 140737488351232) (hm : m ≤ 40) (hRn : Ar = none → m = 0 ∧ cr = 0) :
    Calls Try.prog 28 #[.slice A n c, .slice Ar m cr] w (DropPost w os rs) := by
  have hl := hO.sl.len
  have HP := hide (rlisted_any A n c os w hO)
  have HL := hide hl
  have HO := hide hO
  have HR := hide hR
  have hrl := hR.len
  have HRL := hide hrl
  have HRS := hide hrs
  have HRN := hide hRn
  obtain ⟨T, hT⟩ : ∃ T, tabF 0 0 os = T := ⟨_, rfl⟩
  have HT := hide hT
  unfold DropPost
  rw [hT]
  clear hO hl hR hrl hrs hT hRn
  go_enter Try.func28, Try.ntmps28
  go_wp2_with fail
  refine HP.out.mono ?_
  rintro e w1 ⟨rfl, hq1⟩
  by_cases h0 : listedO os = 0
  · have dz : ((listedO os : Int) != 0) = false := by rw [h0]; rfl
    obtain ⟨h8, hv⟩ := listed_zero2 h0
    rw [HL.out] at h8
    have hni : (n : Int) ≤ 8 := by omega
    have hni0 : (0 : Int) ≤ (n : Int) := by omega
    have hmi : (m : Int) ≤ 40 := by omega
    have HV := hide hv
    have H0 := hide h0
    have HND := hide (listed_nodup h0)
    have HQ1 := hide hq1
    have HAD := hide (fun wx (hq : Q w wx) s => address_any A n c os s wx (HO.out.up hq) h8 hv)
    clear hv h0 hq1
    go_wp2_with fail
    go_loopw [7] (fun vi wr => ∃ i, i ≤ m ∧ vi = .int .i64 (i : Nat) ∧ Q w wr ∧ ∀ r ∈ rs.take i, objAt T r ≠ none) (fun vi _ => m - (intOf vi).toNat)
    case atStart => exact ⟨0, by omega, by go_num, HQ1.out, fun r hr => by simp at hr⟩
    case round =>
      obtain ⟨i, hi, rfl, hq, hok⟩ := hrel
      have HQ := hide hq
      have HOK := hide hok
      clear hok
      by_cases hlt : i < m
      · have hd1 : decide ((i : Int) < (m : Int)) = true := by simp; omega
        have hd0 : decide (i < m) = true := by simp; omega
        have hlti : (i : Int) < (m : Int) := by omega
        obtain ⟨b1, o1, x, rfl, hb1, g1, hc1⟩ := (HR.out.up hq).at_ (fun _ => rfl) (by decide) i hlt
        have x1 := hc1 0 (.string x) rfl
        rw [Nat.mul_one, Nat.add_zero] at x1
        have HC := hide (HAD.out wr hq x)
        have G1 := hide g1
        have HTK := hide (show rs.take (i + 1) = rs.take i ++ [x] by rw [List.take_add_one, g1]; rfl)
        clear hq g1 hc1
        obtain ⟨⟨ax, bx⟩, hab⟩ : ∃ r, addrR os x = r := ⟨_, rfl⟩
        have hbx := addr_obj os x
        rw [hab, HT.out] at hbx
        rw [hab] at HC
        have HBX := hide hbx
        clear hab hbx
        cases bx with
        | false =>
          have HNO := hide (show ∃ r ∈ rs, objAt T r = none from ⟨x, List.mem_of_getElem? G1.out, by have := HBX.out; simpa using this.symm⟩)
          go_wp2_with fail
          refine HC.out.mono ?_
          rintro e w4 ⟨rfl, hq4⟩
          have HQ4 := hide (HQ.out.trans hq4)
          clear hq4
          go_wp2_with fail
          go_ret2
          exact ⟨HQ4.out, .inr (.inl ⟨H0.out, HNO.out, rfl⟩)⟩
        | true =>
          go_wp2_with fail
          refine HC.out.mono ?_
          rintro e w4 ⟨rfl, hq4⟩
          have HQ4 := hide (HQ.out.trans hq4)
          clear hq4
          go_wp2_with fail
          go_roundw
          case rel => exact ⟨i + 1, by omega, by go_num, HQ4.out, fun r hr => by rw [HTK.out] at hr; rcases List.mem_append.1 hr with hr | hr; exact HOK.out r hr; simp at hr; subst hr; have := HBX.out; intro e; rw [e] at this; cases this⟩
          case measure => simp [intOf] <;> omega
      · have hd1 : decide ((i : Int) < (m : Int)) = false := by simp; omega
        have hd0 : decide (i < m) = false := by simp; omega
        obtain rfl : i = m := by omega
        have HOKA := hide (show ∀ r ∈ rs, objAt T r ≠ none by have h := HOK.out; rw [List.take_of_length_le (by rw [HRL.out]; exact Nat.le_refl _)] at h; exact h)
        clear hq HOK
        have HE := hide (own_none (w := wr) (HQ.out.size))
        have hwr := HQ.out.size
        have HRD := hide (show Rd (wr.alloc (.cells #[] 9)) (wr.alloc (.cells #[] 9)).heap.size Ar (rs.map Value.string) by have h := (HR.out.up (HQ.out.alloc (.cells #[] 9))).rd; rw [encS_flat] at h; exact h)
        go_wp2_with (first | (at_builtin; refine wpList_appsg rfl El_text _ _ rfl rfl HE.out rfl HRN.out ?_ HRD.out ?_ ?_ ?_ ?_; (focus (rw [List.length_map, HRL.out, Nat.mul_one])); (focus (intro u hu; obtain ⟨x, _, rfl⟩ := List.mem_map.1 hu; rfl)); (focus omega); (focus (simp; omega)); intro v7 w7 hown7 hg7; have HO7 := hide hown7; have HQ7 := hide (q_grown (HQ.out.alloc (.cells #[] 9)) hg7 (fun k e => by have := (HE.out.lt k e).1; exact this)); clear hown7 hg7) | (at_make; refine wpList_mk rfl _ _ rfl Try.underlying111 (show (Try.prog.info? 4).map (fun i => (i.zero, i.size, i.bytes)) = some (some (.bool false), 1, 1) by kernel_rfl) rfl w.heap.size (n := n) rfl rfl rfl rfl ?_ ?_ ?_ ?_; (focus omega); (focus omega); (focus (exact HQ7.out.size)); intro w8 hown8 hq8 hlt8; have HRM := hide (show RM w w8 w7.heap.size n (List.replicate n false) v7 rs from ⟨HQ7.out.trans hq8, by rw [List.map_replicate]; exact hown8, by have h := own_q HO7.out hq8; rw [Nat.zero_add, List.nil_append, ← HRL.out] at h; exact h⟩); clear hown8 hq8))
        have HR2 := hide (show R2 w w8 os T rs w7.heap.size n (List.replicate n false) v7 rs 0 from ⟨HRM.out, by have h := RI.start os T rs; rw [HL.out] at h; exact h, fun x hx => by simp at hx, by simp; have := HRL.out; omega⟩)
        clear HRM HE HRD HO7 HQ7 HQ hwr
        go_loopw [10, 12] (fun v10 vi wr => ∃ (p : Nat) (N : List Bool) (names : List ByteArray), p ≤ names.length ∧ vi = .int .i64 (p : Nat) ∧ R2 w wr os T rs w7.heap.size n N v10 names p) (fun _ vi _ => 168 - (intOf vi).toNat)
        case atStart => exact ⟨0, _, rs, by omega, by go_num, HR2.out⟩
        case round =>
          clear HR2
          obtain ⟨p, N, names, hp, rfl, h2⟩ := hrel
          obtain ⟨A10, c10, e10, hc10, hc10m, _⟩ := own_form h2.rm.nm
          subst e10
          unfold maxLen at hc10m
          have hbd := h2.bd
          have hpi : (p : Int) ≤ 168 := by omega
          have H2 := hide h2
          by_cases hlt : p < names.length
          · have hd1 : decide ((p : Int) < (names.length : Int)) = true := by simp; omega
            have hd0 : decide (p < names.length) = true := by simp; omega
            have hlti : (p : Int) < (names.length : Int) := by omega
            obtain ⟨nm, hnm⟩ : ∃ nm, names[p]? = some nm := ⟨_, List.getElem?_eq_getElem hlt⟩
            have H3 := hide (show R3 w wr os T rs w7.heap.size n N (.slice A10 names.length c10) names p nm 0 from ⟨h2.rm, h2.ri, h2.dn, h2.bd, hnm, fun k _ h => by omega⟩)
            have hpl : p < 168 := by omega
            clear h2 hnm hbd H2
            go_wp2_with fail
            go_loopw [10, 13] (fun v10 vi wr => ∃ (i : Nat) (N : List Bool) (names : List ByteArray), i ≤ n ∧ vi = .int .i64 (i : Nat) ∧ R3 w wr os T rs w7.heap.size n N v10 names p nm i) (fun _ vi _ => n - (intOf vi).toNat)
            case atStart => exact ⟨0, N, names, by omega, by go_num, H3.out⟩
            case round =>
              clear H3 hlt hlti hd1 hd0 hp hc10 hc10m
              obtain ⟨i, N, names, hi, rfl, h3⟩ := hrel
              have hbd := h3.bd
              have hpn : p < names.length := (List.getElem?_eq_some_iff.1 h3.at_).1
              obtain ⟨g10, c10, e10, hg10, hg10l, hc10, hc10m, hcn, _⟩ := own_at h3.rm.nm (by omega)
              subst e10
              unfold maxLen at hc10m
              by_cases hlt : i < n
              · have hd1 : decide ((i : Int) < (n : Int)) = true := by simp; omega
                have hd0 : decide (i < n) = true := by simp; omega
                have hlti : (i : Int) < (n : Int) := by omega
                have hpni : (p : Int) < (names.length : Int) := by omega
                obtain ⟨_, _, e0, _, hzs, _, _, hcl, hfz⟩ := own_at h3.rm.nw (by omega)
                cases e0
                have hln := h3.ri.len
                rw [HL.out] at hln
                obtain ⟨b, hb⟩ : ∃ b, N[i]? = some b := ⟨_, List.getElem?_eq_getElem (by omega)⟩
                have hzc := hcl i (.bool b) (by rw [List.getElem?_map, hb]; rfl)
                have hnc := hcn p (.string nm) (by rw [List.getElem?_map, h3.at_]; rfl)
                obtain ⟨b1, o1, ob, rfl, hbw, g1, x1, x2, x3, hob⟩ := HO.out.at_ i hlt
                obtain ⟨⟨A0, n0, c0, bs⟩, ⟨A1, n1, c1, ss⟩, ⟨A2, n2, c2, ws⟩⟩ := ob
                dsimp only at x1 x2 x3
                have HBW := hide hbw
                have X3 := hide x3
                have HOBW := hide hob
                have x1 := (h3.rm.q.facts.1 _ _ hbw).trans x1
                have x2 := (h3.rm.q.facts.1 _ _ hbw).trans x2
                have x3 := (h3.rm.q.facts.1 _ _ hbw).trans x3
                have hbb : b1 < wr.heap.size := by have := h3.rm.q.size; omega
                have hob := hob.up h3.rm.q
                clear hbw
                obtain ⟨v0, v1, v2⟩ := valid_parts hob.s.len (HV.out _ (List.mem_of_getElem? g1))
                dsimp only at v1
                have H3 := hide h3
                have HB := hide hb
                have HOB := hide hob
                have G1 := hide g1
                clear h3 hb hcl hfz hcn hob g1
                cases b with
                | true =>
                  go_wp2_with fail
                  have hxc := ext_cell
                  refine wp_region_ext (by kernel_rfl) (by kernel_rfl) ?_
                  repeat (go_big_quiet_step ((fail)))
                  clear hxc
                  refine wpQuiet_nil ?_
                  intro wz hwwz
                  have hqwz := q_of_ext hwwz
                  clear hwwz
                  obtain ⟨hcwz, hfwz, hzwz⟩ := hqwz.facts
                  try simp at hzwz
                  try have hs0wz : w.heap.size < wz.heap.size := by omega
                  try have hs1wz : w.heap.size + 1 < wz.heap.size := by omega
                  clear hcwz hfwz
                  go_wp2_with fail
                  go_roundw
                  case rel => exact ⟨i + 1, N, names, by omega, by go_num, (H3.out.up hqwz).step (fun _ => HB.out)⟩
                  case measure => simp [intOf] <;> omega
                | false =>
                  obtain ⟨hs, hhs⟩ : ∃ hs, hasB (⟨A0, n0, c0, bs⟩, ⟨A1, n1, c1, ss⟩, ⟨A2, n2, c2, ws⟩) nm = hs := ⟨_, rfl⟩
                  have HHC := hide (fun k => show Calls Try.prog 66 #[.agg #[.slice A0 n0 c0, .slice A1 n1 c1, .slice A2 n2 c2], .string nm] (ext wr k) fun e w' => e = .returned (.bool hs) ∧ Q (ext wr k) w' from hhs ▸ hasSymbol_any A0 n0 c0 A1 n1 c1 ss (.slice A2 n2 c2) nm (ext wr k) (HOB.out.s.up (q_ext wr k)) (by omega))
                  have HHS := hide hhs
                  clear hhs
                  cases hs with
                  | false =>
                    go_wp2_with fail
                    have hxc := ext_cell
                    refine wp_region_ext (by kernel_rfl) (by kernel_rfl) ?_
                    repeat (go_big_quiet_step ((first | (go_at_call 66; exact ext_call (HHC.out _)))))
                    clear hxc
                    refine wpQuiet_nil ?_
                    intro wz hwwz
                    have hqwz := q_of_ext hwwz
                    clear hwwz
                    obtain ⟨hcwz, hfwz, hzwz⟩ := hqwz.facts
                    try simp at hzwz
                    try have hs0wz : w.heap.size < wz.heap.size := by omega
                    try have hs1wz : w.heap.size + 1 < wz.heap.size := by omega
                    clear hcwz hfwz
                    go_wp2_with fail
                    go_roundw
                    case rel => exact ⟨i + 1, N, names, by omega, by go_num, (H3.out.up hqwz).step (fun ho => by have h := HHS.out; rw [obj_hasB G1.out (HT.out ▸ ho)] at h; cases h)⟩
                    case measure => simp [intOf] <;> omega
                  | true =>
                    go_wp2_with fail
                    have hxc := ext_cell
                    refine wp_region_ext (by kernel_rfl) (by kernel_rfl) ?_
                    repeat (go_big_quiet_step ((first | (go_at_call 66; exact ext_call (HHC.out _)))))
                    clear hxc
                    refine wpQuiet_nil ?_
                    intro wz hwwz
                    have hqwz := q_of_ext hwwz
                    clear hwwz
                    obtain ⟨hcwz, hfwz, hzwz⟩ := hqwz.facts
                    try simp at hzwz
                    try have hs0wz : w.heap.size < wz.heap.size := by omega
                    try have hs1wz : w.heap.size + 1 < wz.heap.size := by omega
                    have hzl := hqwz.size
                    have hz2 := (hqwz.facts.1 _ _ hzs).trans hzc
                    have H3z := H3.out.up hqwz
                    have fz2 := (own_at H3z.rm.nw (by omega)).elim fun g h => h.elim fun c h => by obtain ⟨e0, _, _, _, _, _, h2⟩ := h; cases e0; exact h2 i
                    have HOBz := hide (HOB.out.up hqwz)
                    have x1z := (hqwz.facts.1 _ _ hbb).trans x1
                    have x2z := (hqwz.facts.1 _ _ hbb).trans x2
                    have x3z := (hqwz.facts.1 _ _ hbb).trans x3
                    have hbbz : b1 < wz.heap.size := by omega
                    have ho := has_obj HND.out G1.out HHS.out
                    have H4 := hide (H3z.mark (by rw [HL.out]; exact hlt) HB.out (HT.out ▸ ho))
                    clear H3z ho hcwz hfwz hqwz
                    go_wp2_with fail
                    clear x1z x2z x3z hbbz hz2 fz2 hzl x1 x2 x3 hzc hnc hzs hbb
                    have hn2 : n2 ≤ 16 := by have := wants_le (HV.out _ (List.mem_of_getElem? G1.out)); have h := HOBW.out.t.len; dsimp only at this h; omega
                    have HW := hide (show wantsAt os i = ws.map (·.2.2) by unfold wantsAt; rw [G1.out])
                    have HWL := hide (show ws.length = n2 from HOBW.out.t.len)
                    go_loopw [10, 14] (fun v10 vi wr => ∃ (k : Nat) (names : List ByteArray), k ≤ n2 ∧ vi = .int .i64 (k : Nat) ∧ R4 w wr os T rs w7.heap.size n (N.set i true) v10 names p nm i k) (fun _ vi _ => n2 - (intOf vi).toNat)
                    case atStart => exact ⟨0, names, by omega, by go_num, H4.out⟩
                    case round =>
                      clear H4 HHC H3 HOB HOBz
                      obtain ⟨k, names, hk, rfl, h4⟩ := hrel
                      have hbd4 := h4.bd
                      have hpn4 : p < names.length := (List.getElem?_eq_some_iff.1 h4.at_).1
                      obtain ⟨A4, c4, e4, hc4, hc4m, _⟩ := own_form h4.rm.nm
                      subst e4
                      unfold maxLen at hc4m
                      have x3 := (h4.rm.q.facts.1 _ _ HBW.out).trans X3.out
                      have hsz4 := h4.rm.q.size
                      have hbb : b1 < wr.heap.size := by have := HBW.out; omega
                      by_cases hlk : k < n2
                      · have hk1 : decide ((k : Int) < (n2 : Int)) = true := by simp; omega
                        have hk0 : decide (k < n2) = true := by simp; omega
                        have hki : (k : Int) < (n2 : Int) := by omega
                        obtain ⟨b5, o5, at_, kd, x, e5, hb5, g5, y1, y2, y3⟩ := (HOBW.out.t.up h4.rm.q).wnt k hlk
                        dsimp only at e5 g5
                        subst e5
                        have HX := hide (show (wantsAt os i)[k]? = some x by rw [HW.out, List.getElem?_map, g5]; rfl)
                        have H4 := hide h4
                        clear h4 g5
                        go_wp2_with (at_builtin; refine wpList_app1g rfl El_text _ _ rfl rfl H4.out.rm.nm (by simp) rfl rfl ?_ ?_ ?_ ?_; (focus (simp [Value.oneCell'])); (focus omega); (focus omega); intro v9 w9 hown9 hg9; have H5 := hide (H4.out.app hpn4 HX.out hg9 hown9); clear hown9 hg9)
                        go_roundw
                        case rel => exact ⟨k + 1, names ++ [x], by omega, by go_num, H5.out⟩
                        case measure => simp [intOf] <;> omega
                      · have hk1 : decide ((k : Int) < (n2 : Int)) = false := by simp; omega
                        have hk0 : decide (k < n2) = false := by simp; omega
                        obtain rfl : k = n2 := by omega
                        have H5 := hide (h4.done (by rw [HW.out, List.length_map, HWL.out]) hn2)
                        clear h4
                        go_wp2_with fail
                        go_roundw
                        case rel => exact ⟨i + 1, _, names, by omega, by go_num, H5.out⟩
                        case measure => simp [intOf] <;> omega
              · have hd1 : decide ((i : Int) < (n : Int)) = false := by simp; omega
                have hd0 : decide (i < n) = false := by simp; omega
                obtain rfl : i = n := by omega
                have H3 := hide h3
                clear h3 hcn
                go_wp2_with fail
                go_roundw
                case rel => exact ⟨p + 1, N, names, by omega, by go_num, H3.out.done (fun k hk => by have := objAt_range (HT.out ▸ hk); rw [HL.out] at this; exact this)⟩
                case measure => simp [intOf] <;> omega
          · have hd1 : decide ((p : Int) < (names.length : Int)) = false := by simp; omega
            have hd0 : decide (p < names.length) = false := by simp; omega
            have HMK := hide (show Marks os T rs N from h2.ri.marks (by have h := h2.dn; rw [List.take_of_length_le (by omega)] at h; exact h))
            clear h2 hbd
            go_wp2_with fail
            obtain ⟨w6, rfl⟩ : ∃ w6 : World, w6 = wr := ⟨_, rfl⟩
            go_loopw [15, 16] (fun v15 vi wx => ∃ i4, i4 ≤ n ∧ vi = .int .i64 (i4 : Nat) ∧ wx.ownsRow w6.heap.size 3 1 v15 (dropTo N i4).length ((dropTo N i4).map (Value.int .i64)) ∧ Q w6 wx) (fun _ vi _ => n - (intOf vi).toNat)
            case atStart => exact ⟨0, by omega, by go_num, World.ownsRow_nil _ _ _ _, Q.refl _⟩
            case round =>
              obtain ⟨i4, hi4, rfl, hown, hq⟩ := hrel
              have hsz := hq.size
              have hdl := dropTo_len N i4
              have hnl := H2.out.ri.len
              rw [HL.out] at hnl
              obtain ⟨A15, c15, e15, hc15, hc15m, _⟩ := own_form hown
              subst e15
              by_cases hlt : i4 < n
              · have hd1 : decide ((i4 : Int) < (n : Int)) = true := by simp; omega
                have hd0 : decide (i4 < n) = true := by simp; omega
                have hlti : (i4 : Int) < (n : Int) := by omega
                obtain ⟨_, _, e0, _, hzs, _, _, hcl, _⟩ := own_at H2.out.rm.nw (by omega)
                cases e0
                obtain ⟨b, hb⟩ : ∃ b, N[i4]? = some b := ⟨_, List.getElem?_eq_getElem (by omega)⟩
                have hz6 := (hq.facts.1 _ _ hzs).trans (hcl i4 (.bool b) (by rw [List.getElem?_map, hb]; rfl))
                have HSU := hide (dropTo_succ N i4 b hb)
                have HOW := hide hown
                have HQ6 := hide hq
                have hzx : w7.heap.size < wr.heap.size := by omega
                clear hb hcl hown hq
                cases b with
                | true =>
                  go_wp2_with fail
                  go_roundw
                  case rel => exact ⟨i4 + 1, by omega, by go_num, by rw [HSU.out]; exact HOW.out, HQ6.out⟩
                  case measure => simp [intOf] <;> omega
                | false =>
                  go_wp2_with (at_builtin; refine wpList_app1 rfl El_int _ _ rfl rfl HOW.out (by simp) rfl rfl ?_ ?_ ?_ ?_; (focus (simp [Value.oneCell'])); (focus omega); (focus omega); intro v7' w7' hown7 hb7; have HO7 := hide hown7; have HB7 := hide (show Q w6 w7' from HQ6.out.below.trans hb7); clear hown7 hb7)
                  go_roundw
                  case rel => exact ⟨i4 + 1, by omega, by go_num, by rw [HSU.out]; have h := HO7.out; simpa using h, HB7.out⟩
                  case measure => simp [intOf] <;> omega
              · have hd1 : decide ((i4 : Int) < (n : Int)) = false := by simp; omega
                have hd0 : decide (i4 < n) = false := by simp; omega
                obtain rfl : i4 = n := by omega
                have HOW := hide (show wr.ownsRow w.heap.size 3 1 (.slice A15 (dropTo N i4).length c15) (dropL N).length ((dropL N).map (Value.int .i64)) by have h := own_base2 hown H2.out.rm.q.size; rw [← hnl] at h ⊢; exact h)
                have HQ6 := hide (H2.out.rm.q.trans hq)
                clear hown hq hnl hdl
                go_wp2_with fail
                go_ret2
                exact ⟨HQ6.out, .inr (.inr ⟨H0.out, HOKA.out, N, _, HMK.out, rfl, HOW.out⟩)⟩
  · have dz : ((listedO os : Int) != 0) = true := by simp; omega
    have HNE := hide h0
    have HQ1 := hide hq1
    clear h0 hq1
    go_wp2_with fail
    go_ret2
    exact ⟨HQ1.out, .inl ⟨HNE.out, rfl⟩⟩
end Go.Proofs.Ytiilkiggfjpibaa
