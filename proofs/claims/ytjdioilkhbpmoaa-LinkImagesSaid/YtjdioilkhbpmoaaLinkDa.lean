/- A queue: a slice of the call's own that may begin behind its row's first cell; what append and '[1:]' make of it. Conditions: as each theorem says. -/
import Derived.Test.YtjdioilkhbpmoaaLinkKn
import Derived.Test.YtjdioilkhbpmoaaLinkM
import Derived.Test.YtjdioilkhbpmoaaLinkLo
import Derived.Deep.Upon
import Derived.Deep.AppendLies
namespace Go.Proofs.Ytjdioilkhbpmoaa
open Go.RowKit LK
set_option linter.unusedVariables false
/-- the slice with base address ao and room cap holds xs, in a block from B on -/
def Tl (w : World) (B : Nat) (ao : Option Addr) (cap : Nat) (xs : List Int) : Prop :=
  ∃ b off, Came w 1 ao b off xs.length cap (xs.map (Value.int .i64)) ∧ (0 < cap → B ≤ b) ∧ cap ≤ maxLen
theorem Tl.nil (w : World) (B : Nat) : Tl w B none 0 [] := ⟨0, 0, ⟨Nat.le_refl _, fun h => absurd h (by omega), fun h => absurd h (by omega), rfl, fun j u h => by simp at h, fun j h => by simp at h⟩, fun h => absurd h (by omega), by unfold maxLen; omega⟩
/-- steps that leave its row alone -/
theorem Tl.kept {w w' : World} {B : Nat} {ao : Option Addr} {cap : Nat} {xs : List Int} (h : Tl w B ao cap xs) {row : Option Nat} (hg : w.grownBy w' row) (hr : ∀ r, row = some r → r < B) : Tl w' B ao cap xs := by
  obtain ⟨b, off, hc, hB, hm⟩ := h
  refine ⟨b, off, ?_, hB, hm⟩
  rcases Nat.eq_zero_or_pos cap with h0 | h0
  · subst h0
    have hx : xs.length = 0 := by have := hc.le; omega
    obtain rfl := List.eq_nil_of_length_eq_zero hx
    exact ⟨hc.le, hc.addr, fun h => absurd h (by omega), hc.oldsLen, fun j u h => by simp at h, fun j h => by simp at h⟩
  · have hlt := hc.lt h0
    have hne : some b ≠ row := fun e => by have := hr b e.symm; have := hB h0; omega
    refine ⟨hc.le, hc.addr, fun _ => Nat.lt_of_lt_of_le hlt hg.size, hc.oldsLen, fun j u hu => ?_, fun j hj => ?_⟩
    · rw [hg.cell_far ⟨b, off + j, none⟩ hlt hne]
      exact hc.olds j u hu
    · rw [hg.cell_far ⟨b, _, none⟩ hlt hne, hg.frozen_far ⟨b, _, none⟩ hlt hne]
      exact hc.spare j hj
theorem Tl.up {w w' : World} {B : Nat} {ao : Option Addr} {cap : Nat} {xs : List Int} (h : Tl w B ao cap xs) (hq : Q w w') : Tl w' B ao cap xs := h.kept (grown_of_q hq none) (fun r e => by cases e)
/-- the first element, and the rest -/
theorem Tl.pop {w : World} {B : Nat} {ao : Option Addr} {cap : Nat} {x : Int} {xs : List Int} (h : Tl w B ao cap (x :: xs)) :
    ∃ b off, ao = some ⟨b, off, none⟩ ∧ b < w.heap.size ∧ w.cell? ⟨b, off, none⟩ = some (.int .i64 x) ∧ xs.length + 1 ≤ cap ∧ cap ≤ maxLen ∧ Tl w B (some ⟨b, off + 1, none⟩) (cap - 1) xs := by
  obtain ⟨b, off, hc, hB, hm⟩ := h
  have hle := hc.le
  rw [List.length_cons] at hle
  have h0 : 0 < cap := by omega
  refine ⟨b, off, hc.addr h0, hc.lt h0, ?_, hle, hm, b, off + 1, ⟨by omega, fun _ => rfl, fun _ => hc.lt h0, by simp, fun j u hu => ?_, fun j hj => ?_⟩, fun _ => hB h0, by omega⟩
  · have := hc.olds 0 (.int .i64 x) rfl
    rw [Nat.add_zero] at this
    exact this
  · have := hc.olds (j + 1) u (by rw [List.map_cons, List.getElem?_cons_succ]; exact hu)
    rw [show off + (j + 1) = off + 1 + j by omega] at this
    exact this
  · have := hc.spare j (by rw [List.length_cons]; omega)
    rw [List.length_cons, show off + (xs.length + 1) * 1 + j = off + 1 + xs.length * 1 + j by omega] at this
    exact this
/-- one element more -/
theorem Tl.append {P : Program} {t e ty : TypeId} {w : World} {B : Nat} {ao : Option Addr} {cap : Nat} {xs : List Int} (h : Tl w B ao cap xs) (E : El P t e 1 8) {bx : Nat} {k : Int} (hx : w.cell? ⟨bx, 0, none⟩ = some (.int .i64 k)) (hl : xs.length ≤ 1000) (hB : B ≤ w.heap.size) :
    ∃ A c w' row, (Builtin.append_ #[t, t] ty #[.slice ao xs.length cap, .slice (some ⟨bx, 0, none⟩) 1 1]).run P w = .ok (.slice A (xs ++ [k]).length c) w' ∧ Tl w' B A c (xs ++ [k]) ∧ w.grownBy w' row ∧ ∀ r, row = some r → B ≤ r := by
  obtain ⟨i, z, hi, hz, hsz, hby, hzs⟩ := E.inf
  obtain ⟨b, off, hc, hBb, hm⟩ := h
  have hs : Src P 1 t (.slice (some ⟨bx, 0, none⟩) 1 1) 1 [.int .i64 k] w := Src.ofSlice w E.und ⟨bx, 0, none⟩ 1 1 [.int .i64 k] rfl (fun j u hu => by
    rcases j with _ | j
    · simp at hu; subst hu; exact hx
    · simp at hu) (fun u hu => by simp at hu; subst hu; rfl)
  have hlen : (xs ++ [k]).length = xs.length + 1 := by simp
  by_cases hfit : xs.length + 1 ≤ cap
  · have h0 : 0 < cap := by omega
    have hsp := hc.spare 0 (by omega)
    rw [Nat.add_zero] at hsp
    have hrun := run_append_room_src (P := P) (w := w) t t ty e i E.und hi b off xs.length cap _ 1 [.int .i64 k] (by rw [hsz]; exact hs) hfit (fun j hj => by
      have : j = 0 := by simpa using hj
      subst this
      rw [hsz, Nat.add_zero]; exact hsp.1) (fun j hj => by
      have : j = 0 := by simpa using hj
      subst this
      rw [hsz, Nat.add_zero]; exact hsp.2)
    obtain rfl := hc.addr h0
    obtain ⟨u0, hu0⟩ := Option.isSome_iff_exists.1 hsp.1
    refine ⟨some ⟨b, off, none⟩, cap, w.setCell ⟨b, off + xs.length * 1, none⟩ (.int .i64 k), some b, ?_, ⟨b, off, ⟨by omega, fun _ => rfl, fun _ => ?_, by simp, fun j u hu => ?_, fun j hj => ?_⟩, hBb, hm⟩, grown_cell, fun r e => by cases e; exact hBb h0⟩
    · rw [hlen, hrun, hsz]
      rfl
    · have := (grown_cell (w := w) (g := b) (j := off + xs.length * 1) (u := .int .i64 k)).size
      exact Nat.lt_of_lt_of_le (hc.lt h0) this
    · rw [List.map_append] at hu
      by_cases hj : j < xs.length
      · rw [List.getElem?_append_left (by simpa using hj)] at hu
        rw [World.cell?_setCell_other _ _ _ _ (by intro e; simp at e <;> omega)]
        exact hc.olds j u hu
      · rw [List.getElem?_append_right (by simpa using hj)] at hu
        have hj2 : j = xs.length := by
          have := (List.getElem?_eq_some_iff.1 hu).1
          simp at this
          omega
        subst hj2
        simp at hu
        subst hu
        rw [Nat.mul_one]
        rw [Nat.mul_one] at hu0
        exact World.cell?_setCell_same _ _ _ hu0
    · rw [hlen] at hj ⊢
      have := hc.spare (j + 1) (by omega)
      rw [show off + xs.length * 1 + (j + 1) = off + (xs.length + 1) * 1 + j by omega] at this
      refine ⟨?_, ?_⟩
      · rw [World.cell?_setCell_other _ _ _ _ (by intro e; simp at e <;> omega)]
        exact this.1
      · exact (World.frozen?_setCells b [.int .i64 k] _ _ _).trans this.2
  · have hold : (Builtin.firstCells i.size xs.length (.slice ao xs.length cap)).run P w.drew = .ok (xs.map (Value.int .i64)).toArray w.drew := by
      rw [hsz]
      rcases Nat.eq_zero_or_pos cap with h0 | h0
      · have hx0 : xs.length = 0 := by have := hc.le; omega
        obtain rfl := List.eq_nil_of_length_eq_zero hx0
        cases ao with
        | none => exact run_firstCells_none w.drew 1 0 0 cap
        | some a' => exact run_firstCells_some w.drew 1 0 a' 0 cap [] (by simp) (by intro _ _ h'; simp at h')
      · rw [hc.addr h0]
        refine run_firstCells_some w.drew 1 xs.length ⟨b, off, none⟩ xs.length cap _ hc.oldsLen (fun j u hu => ?_)
        rw [addr_add]
        exact hc.olds j u hu
    have hrun := run_append_grow_src (P := P) (w := w) t t ty e i z E.und hi hz ao xs.length cap _ hold _ 1 [.int .i64 k] (by rw [hsz]; exact hs) (by omega) (by omega) (growslice_fits (by omega) (by rw [hby]; omega))
    have hge := grownCap_ge w (xs.length + 1) cap e
    have hcm := grownCap_le_maxLen w (xs.length + 1) cap e (by unfold maxLen; omega)
    refine ⟨some ⟨w.heap.size, 0, none⟩, grownCap w (xs.length + 1) cap e, w.drew.alloc (.cells ((xs.map (Value.int .i64) ++ [Value.int .i64 k]).toArray ++ Builtin.zeroCells z.cells (grownCap w (xs.length + 1) cap e - (xs.length + 1))) e), none, (by rw [hlen]; exact hrun), ⟨w.heap.size, 0, ⟨by rw [hlen]; exact hge, fun _ => rfl, fun _ => by simp, by simp, fun j u hu => ?_, fun j hj => ?_⟩, fun _ => hB, hcm⟩, ⟨rfl, rfl, rfl, by simp, fun r hr _ => heap_alloc_old w.drew _ hr⟩, fun r e => by cases e⟩
    · rw [Nat.zero_add]
      have e1 := World.cell?_alloc_new w.drew (((xs.map (Value.int .i64)) ++ [Value.int .i64 k]).toArray ++ Builtin.zeroCells z.cells (grownCap w (xs.length + 1) cap e - (xs.length + 1))) e j
      refine Eq.trans e1 ?_
      rw [List.map_append] at hu
      have hjl := (List.getElem?_eq_some_iff.1 hu).1
      rw [Array.getElem?_append_left (by simpa using hjl), List.getElem?_toArray]
      exact hu
    · have e1 := World.cell?_alloc_new w.drew (((xs.map (Value.int .i64)) ++ [Value.int .i64 k]).toArray ++ Builtin.zeroCells z.cells (grownCap w (xs.length + 1) cap e - (xs.length + 1))) e (0 + (xs ++ [k]).length * 1 + j)
      have e2 := World.frozen?_alloc_new w.drew (((xs.map (Value.int .i64)) ++ [Value.int .i64 k]).toArray ++ Builtin.zeroCells z.cells (grownCap w (xs.length + 1) cap e - (xs.length + 1))) e (0 + (xs ++ [k]).length * 1 + j)
      refine ⟨?_, e2⟩
      refine (congrArg Option.isSome e1).trans ?_
      rw [Array.getElem?_eq_getElem]
      · rfl
      · simp only [Array.size_append, List.size_toArray, List.length_append, List.length_map, List.length_singleton, size_zeroCells, hzs]
        rw [hlen] at hj
        omega
theorem wpList_tl {P : Program} {t e : TypeId} {w : World} {B : Nat} {ops : Array Oper} {rest : List Oper} {o : Oper} {a : Act} {Q' : Exit → Act → World → Prop} {ao : Option Addr} {cap : Nat} {xs : List Int} (hgd : o.guard = none) (s x : Operand)
    (ho : o.op = .call { callee := .builtin .append, args := #[s, x], argTypes := #[t, t] }) {m : Nat} (hs : a.eval s = .slice ao m cap) (hm : xs.length = m) (h : Tl w B ao cap xs) (E : El P t e 1 8) {bx : Nat} {k : Int} (hxv : a.eval x = .slice (some ⟨bx, 0, none⟩) 1 1) (hx : w.cell? ⟨bx, 0, none⟩ = some (.int .i64 k)) (hl : xs.length ≤ 1000) (hB : B ≤ w.heap.size)
    (K : ∀ A c w' row, Tl w' B A c (xs ++ [k]) → w.grownBy w' row → (∀ r, row = some r → B ≤ r) → wpList P ops Q' rest (a.put o.dst (.slice A (m + 1) c)) w') : wpList P ops Q' (o :: rest) a w := by
  subst hm
  refine wpList_plain hgd fun K' hK => ?_
  obtain ⟨A, c, w', row, hr, h2, h3, h4⟩ := Tl.append (ty := o.type) h E hx hl hB
  unfold Oper.wp execOp
  simp only [ho, resolve, invoke, builtin, Sem.run_bind, Sem.run_pure, Result.andThen_ok, List.map_toArray, List.map_cons, List.map_nil, hs, hxv, hr]
  rw [show (xs ++ [k]).length = xs.length + 1 by simp]
  exact hK _ _ (K A c w' row h2 h3 h4)
end Go.Proofs.Ytjdioilkhbpmoaa
