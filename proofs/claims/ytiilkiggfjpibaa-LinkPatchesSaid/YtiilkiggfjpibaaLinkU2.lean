/- The map of symbols: what it holds as a list of names and places. Objects as they lie in memory; what holds while they are put to their places. The readers of the objects that come in. The walk of the law's Long. The walk of the program's put: four bytes into a row of the call's own. The walk of the program's lay: objects are put to their places. The walks of the program's open, Starts and Find. The walks of the program's Starts, Find and Users. The image of objects: plain words. The walk of the program's (layout).image. The walk of the program's Image. Conditions: as each theorem says. -/
import Derived.Test.YtiilkiggfjpibaaLinkU1
import Derived.Maps.OwnSet
import Derived.StringKeys
import Derived.Test.YtiilkiggfjpibaaChecked
import Derived.Carry
import Derived.Test.YtiilkiggfjpibaaBase
namespace Go.Proofs.Ytiilkiggfjpibaa
open Go.RowKit LK
set_option linter.unusedVariables false
set_option linter.unusedSimpArgs false
def plV (a b : Int) : Value := .agg #[.int .i64 a, .int .i64 b]
def plD (a b : Int) : DataW Unit := .agg [.lit (.int .i64 a), .lit (.int .i64 b)]
def plR (v : Value) : Option (DataW Unit × List MemPlace) :=
  match v with
  | .agg cs => match cs.toList with
    | [.int .i64 a, .int .i64 b] => some (plD a b, [])
    | _ => none
  | _ => none
theorem plR_mk (a b : Int) : plR (plV a b) = some (plD a b, []) := rfl
theorem plR_inv {v : Value} {z : DataW Unit × List MemPlace} (h : plR v = some z) : ∃ a b, v = plV a b ∧ z = (plD a b, []) := by
  unfold plR at h
  split at h
  · rename_i cs
    split at h
    · rename_i a b e
      cases h
      refine ⟨a, b, ?_, rfl⟩
      unfold plV
      congr 1
      exact Array.ext' (by simpa using e)
    · cases h
  · cases h
theorem plD_inj {a b c d : Int} (h : plD a b = plD c d) : a = c ∧ b = d := by
  unfold plD at h
  simpa using h
theorem lookS_nil (s : ByteArray) : lookS [] s = none := rfl
theorem lookS_snoc (t : List (ByteArray × Int × Int)) (x : ByteArray) (p q : Int) (s : ByteArray) : lookS (t ++ [(x, p, q)]) s = (lookS t s).or (if x.toList == s.toList then some (p, q) else none) := by
  unfold lookS
  rw [List.find?_append]
  cases t.find? (fun x => x.1.toList == s.toList) with
  | some y => simp
  | none =>
    simp only [Option.none_or, List.find?_cons, List.find?_nil, Option.map_none]
    cases h : x.toList == s.toList <;> simp
def atD (o : Option (Int × Int)) : DataW Unit := match o with | some (a, b) => plD a b | none => plD 0 0
def atV (o : Option (Int × Int)) : Value := match o with | some (a, b) => plV a b | none => plV 0 0
theorem atD_inj {o : Option (Int × Int)} {a b : Int} (h : plD a b = atD o) : plV a b = atV o := by
  rcases o with _ | ⟨c, d⟩
  · obtain ⟨rfl, rfl⟩ := plD_inj h; rfl
  · obtain ⟨rfl, rfl⟩ := plD_inj h; rfl
/-- block mb is a map that holds a list of names with places -/
def MpR (w : World) (mb : Nat) (t : List (ByteArray × Int × Int)) : Prop :=
  ∃ (m : Nat) (D : DataW Unit), w.ownsMap Try.prog 9 plR mb m D ∧ m ≤ t.length ∧ Maps.IsMap D ∧ ∀ s : ByteArray, Maps.has D (.string s.data.toList) = (lookS t s).isSome ∧ D.atKey (.string s.data.toList) (plD 0 0) = atD (lookS t s)
theorem MpR.made (w : World) : MpR (w.alloc (.map #[] 0)) w.heap.size [] :=
  ⟨0, .map [], World.ownsMap_made w _ _ _, Nat.le_refl _, Maps.isMap_empty, fun s => ⟨rfl, rfl⟩⟩
theorem MpR.kept {w w' : World} {mb : Nat} {t : List (ByteArray × Int × Int)} (h : MpR w mb t) {row : Option Nat} (hg : w.grownBy w' row) (hne : some mb ≠ row) : MpR w' mb t := by
  obtain ⟨m, D, h1, h2⟩ := h
  exact ⟨m, D, h1.kept hg hne, h2⟩
theorem grown_of_q {a b : World} (h : Q a b) (row : Option Nat) : a.grownBy b row := ⟨h.below.os, h.below.tape, h.below.output, h.size, fun i hi _ => h.below.block i hi⟩
theorem MpR.up {w w' : World} {mb : Nat} {t : List (ByteArray × Int × Int)} (h : MpR w mb t) (hq : Q w w') : MpR w' mb t := h.kept (grown_of_q hq none) (by simp)
theorem MpR.lt {w : World} {mb : Nat} {t : List (ByteArray × Int × Int)} (h : MpR w mb t) : mb < w.heap.size := by
  obtain ⟨m, D, h1, h2⟩ := h
  exact h1.lt
theorem keyS : Maps.Keyed Try.prog 9 := Maps.Keyed.of_law (Go.WideMaps.string_law Try.underlying9)
theorem zeroP (w : World) : (zeroValue 106).run Try.prog w = .ok (plV 0 0) w := by kernel_rfl
section
variable {w : World} {ops : Array Oper} {rest : List Oper} {o : Oper} {a : Act} {Q' : Exit → Act → World → Prop} {mb : Nat} {t : List (ByteArray × Int × Int)}
theorem wpList_lookP (hg : o.guard = none) (m x : Operand) (hop : o.op = Op.lookup 76 m x true) (hm : a.eval m = .map (some mb)) (hM : MpR w mb t) (s : ByteArray) (hx : a.eval x = .string s) (hs : s.size ≤ 9223372036854775807)
    (hK : wpList Try.prog ops Q' rest (a.put o.dst (.tuple #[atV (lookS t s), .bool (lookS t s).isSome])) w) : wpList Try.prog ops Q' (o :: rest) a w := by
  obtain ⟨n, D, hown, _, _, hD⟩ := hM
  refine wpList_lookup_own_ok w hg m x _ hop _ _ keyS Try.underlying76 plR (zeroP w) (plD 0 0) [] (plR_mk 0 0) mb n D hm hown (.string s) _ hx (Go.WideMaps.keyOf_string_mk Try.underlying9 (by unfold maxLen; omega)) (fun v ps hv => ?_)
  rw [(hD s).2] at hv
  rw [(hD s).1]
  obtain ⟨p, q, rfl, e⟩ := plR_inv hv
  rw [atD_inj (Prod.ext_iff.1 e).1.symm]
  exact hK
theorem wpList_updP (hg : o.guard = none) (m x v : Operand) (hop : o.op = Op.mapUpdate 76 m x v) (hm : a.eval m = .map (some mb)) (hM : MpR w mb t) (hl : t.length ≤ 100000) (s : ByteArray) (hx : a.eval x = .string s) (hs : s.size ≤ 9223372036854775807) (p q : Int) (hv : a.eval v = .agg #[.int .i64 p, .int .i64 q]) (hno : lookS t s = none)
    (hK : ∀ w', MpR w' mb (t ++ [(s, p, q)]) → w.grownBy w' (some mb) → wpList Try.prog ops Q' rest (a.put o.dst undef) w') : wpList Try.prog ops Q' (o :: rest) a w := by
  obtain ⟨n, D, hown, hn, hmap, hD⟩ := hM
  refine wpList_mapUpdate_own w hg m x v _ hop _ _ keyS Try.underlying76 plR mb n D hm hown (by unfold maxLen; omega) (.string s) (plV p q) _ hx hv (Go.WideMaps.keyOf_string_mk Try.underlying9 (by unfold maxLen; omega)) (plD p q) [] (plR_mk p q) (fun w' h1 h2 => hK w' ⟨n + 1, _, h1, by simp; omega, hmap.put _ _, fun s' => ?_⟩ h2)
  rw [lookS_snoc]
  by_cases e : s.data.toList = s'.data.toList
  · have e2 : lookS t s' = none := by
      rw [← hno]
      unfold lookS
      congr 2
      funext x
      rw [ByteArray.toList_eq s, ByteArray.toList_eq s', e]
    have e3 : (s.toList == s'.toList) = true := by rw [ByteArray.toList_eq, ByteArray.toList_eq, e]; simp
    rw [e2, e3, ← e]
    have hk : WideAt.IsKeyLit (.string s.data.toList) := trivial
    exact ⟨Maps.has_put_same hmap hk _, Maps.atKey_put_same hmap hk _ _⟩
  · have e3 : (s.toList == s'.toList) = false := by rw [ByteArray.toList_eq, ByteArray.toList_eq]; simpa using e
    have hne : (Lit.string s'.data.toList) ≠ Lit.string s.data.toList := fun h => e (by simpa using h.symm)
    rw [e3, Maps.has_put_other hne, Maps.atKey_put_other hne]
    simpa using hD s'
end
end Go.Proofs.Ytiilkiggfjpibaa

namespace Go.Proofs.Ytiilkiggfjpibaa
open Go.RowKit LK
set_option linter.unusedVariables false
set_option linter.unusedSimpArgs false
structure ObsR (w : World) (A : Option Addr) (n c : Nat) (os : List OV) : Prop where
  sl : Sl 3 encO w A n c os
  nil_ : A = none → n = 0 ∧ c = 0
  all : ∀ o ∈ os, ObR w o
theorem ObsR.up {w w' : World} {A : Option Addr} {n c : Nat} {os : List OV} (h : ObsR w A n c os) (hq : Q w w') : ObsR w' A n c os := ⟨h.sl.up hq, h.nil_, fun o ho => (h.all o ho).up hq⟩
theorem ObsR.at_ {w : World} {A : Option Addr} {n c : Nat} {os : List OV} (h : ObsR w A n c os) (i : Nat) (hi : i < n) :
    ∃ b o ob, A = some ⟨b, o, none⟩ ∧ b < w.heap.size ∧ os[i]? = some ob ∧ w.cell? ⟨b, o + i * 3, none⟩ = some (.slice ob.1.A ob.1.n ob.1.c) ∧ w.cell? ⟨b, o + i * 3 + 1, none⟩ = some (.slice ob.2.1.A ob.2.1.n ob.2.1.c) ∧ w.cell? ⟨b, o + i * 3 + 2, none⟩ = some (.slice ob.2.2.A ob.2.2.n ob.2.2.c) ∧ ObR w ob := by
  obtain ⟨b, o, ob, e, hb, hx, hc⟩ := h.sl.at_ (fun _ => rfl) (by decide) i hi
  exact ⟨b, o, ob, e, hb, hx, (by have h0 := hc 0 _ rfl; rw [Nat.add_zero] at h0; exact h0), hc 1 _ rfl, hc 2 _ rfl, h.all _ (List.mem_of_getElem? hx)⟩
/-! places -/
def offF (os : List OV) : Nat := (os.map fun o => room o.1.n).sum
def startsL (os : List OV) (k : Nat) : List Int := (List.range k).map fun j => ((offF (os.take j) : Nat) : Int)
def tabF (k at_ : Nat) : List OV → List (ByteArray × Int × Int)
  | [] => []
  | o :: r => o.2.1.xs.map (fun x => (x.1, (k : Int), (at_ : Int) + x.2)) ++ tabF (k + 1) (at_ + room o.1.n) r
def cntS (os : List OV) : Nat := (os.map fun o => o.2.1.xs.length).sum
def namesF (os : List OV) : List ByteArray := (tabF 0 0 os).map (·.1)
theorem offF_succ {os : List OV} {k : Nat} {o : OV} (h : os[k]? = some o) : offF (os.take (k + 1)) = offF (os.take k) + room o.1.n := by
  unfold offF
  rw [List.take_add_one, h, List.map_append, List.sum_append]
  simp
theorem cntS_succ {os : List OV} {k : Nat} {o : OV} (h : os[k]? = some o) : cntS (os.take (k + 1)) = cntS (os.take k) + o.2.1.xs.length := by
  unfold cntS
  rw [List.take_add_one, h, List.map_append, List.sum_append]
  simp
theorem startsL_succ (os : List OV) (k : Nat) : startsL os (k + 1) = startsL os k ++ [((offF (os.take k) : Nat) : Int)] := by
  unfold startsL
  rw [List.range_succ, List.map_append]
  rfl
theorem tabF_length : ∀ (os : List OV) (k at_ : Nat), (tabF k at_ os).length = cntS os
  | [], k, a => rfl
  | o :: r, k, a => by
    rw [tabF, List.length_append, tabF_length r, List.length_map]
    simp [cntS]
theorem tabF_get : ∀ (os : List OV) (k0 a0 k i : Nat) (o : OV) (nm : ByteArray) (at_ : Int), os[k]? = some o → o.2.1.xs[i]? = some (nm, at_) →
    (tabF k0 a0 os)[cntS (os.take k) + i]? = some (nm, ((k0 + k : Nat) : Int), ((a0 + offF (os.take k) : Nat) : Int) + at_)
  | [], k0, a0, k, i, o, nm, at_, h, _ => by simp at h
  | p :: r, k0, a0, 0, i, o, nm, at_, h, hx => by
    simp at h
    subst h
    have hi := (List.getElem?_eq_some_iff.1 hx).1
    rw [tabF, List.take_zero]
    simp only [cntS, offF, List.map_nil, List.sum_nil, Nat.zero_add, Nat.add_zero]
    rw [List.getElem?_append_left (by rw [List.length_map]; exact hi), List.getElem?_map, hx]
    rfl
  | p :: r, k0, a0, k + 1, i, o, nm, at_, h, hx => by
    have ih := tabF_get r (k0 + 1) (a0 + room p.1.n) k i o nm at_ (by simpa using h) hx
    have e1 : cntS ((p :: r).take (k + 1)) = p.2.1.xs.length + cntS (r.take k) := by simp [cntS]
    have e2 : offF ((p :: r).take (k + 1)) = room p.1.n + offF (r.take k) := by simp [offF]
    rw [tabF, e1, e2, List.getElem?_append_right (by rw [List.length_map]; omega), List.length_map, show p.2.1.xs.length + cntS (r.take k) + i - p.2.1.xs.length = cntS (r.take k) + i by omega, ih]
    congr 3
    · omega
    · omega
theorem offF_le {os : List OV} (h : ∀ o ∈ os, o.1.n ≤ 512) : ∀ k, offF (os.take k) ≤ 544 * k
  | 0 => by simp [offF]
  | k + 1 => by
    have ih := offF_le h k
    cases hk : os[k]? with
    | none =>
      have : os.take (k + 1) = os.take k := by rw [List.take_add_one, hk]; simp
      rw [this]; omega
    | some o =>
      rw [offF_succ hk]
      have := h o (List.mem_of_getElem? hk)
      unfold room
      omega
theorem cntS_le {os : List OV} (h : ∀ o ∈ os, o.2.1.xs.length ≤ 16) : ∀ k, cntS (os.take k) ≤ 16 * k
  | 0 => by simp [cntS]
  | k + 1 => by
    have ih := cntS_le h k
    cases hk : os[k]? with
    | none =>
      have : os.take (k + 1) = os.take k := by rw [List.take_add_one, hk]; simp
      rw [this]; omega
    | some o =>
      rw [cntS_succ hk]
      have := h o (List.mem_of_getElem? hk)
      omega
theorem valid_parts {o : OV} (hl : o.2.1.xs.length = o.2.1.n) (h : o.valid = 0) : o.1.n ≤ 512 ∧ o.2.1.n ≤ 16 ∧ (∀ x ∈ o.2.1.xs, 0 ≤ x.2 ∧ x.2 ≤ (o.1.n : Int) ∧ x.1.size ≤ 8) := by
  unfold OV.valid at h
  by_cases hb : 512 < o.1.n ∨ 16 < o.2.1.xs.length ∨ 16 < o.2.2.xs.length
  · rw [valid_big hb] at h; cases h
  · cases hs : soundB o.1.n o.2.1.xs o.2.2.xs
    · rw [valid_arg hb hs] at h; cases h
    · refine ⟨by omega, by omega, fun x hx => ?_⟩
      unfold soundB at hs
      rw [Bool.and_eq_true, List.all_eq_true] at hs
      have := hs.1 x hx
      simp [symOk, nameB] at this
      omega
/-! blocks that are known whole -/
theorem cell_blk {w : World} {g : Nat} {cs : Array Value} {t : TypeId} {fr : Nat × Nat} (h : w.heap[g]? = some (.cells cs t fr)) (j : Nat) : w.cell? ⟨g, j, none⟩ = cs[j]? := cell_of_row w g j cs t fr h
theorem free_blk {w : World} {g : Nat} {cs : Array Value} {t : TypeId} (h : w.heap[g]? = some (.cells cs t (0, 0))) (j : Nat) : w.frozen? ⟨g, j, none⟩ = false := by
  unfold World.frozen?
  rw [h]
  simp
theorem grown_cell {w : World} {g j : Nat} {u : Value} : w.grownBy (w.setCell ⟨g, j, none⟩ u) (some g) :=
  ⟨rfl, rfl, rfl, by simp, fun k _ hk => heap_setCell_other w ⟨g, j, none⟩ k u (fun e => hk (by rw [e]))⟩
theorem wpList_app1g {P : Program} {t e size bytes : Nat} {w : World} {base : Nat} {ops : Array Oper} {rest : List Oper} {o : Oper} {a : Act} {Q' : Exit → Act → World → Prop} {v : Value} {n : Nat} {xs : List Value}
    (hgd : o.guard = none) (E : El P t e size bytes) (s x : Operand) (ho : o.op = .call { callee := .builtin .append, args := #[s, x], argTypes := #[t, t] })
    (hs : a.eval s = v) (hown : w.ownsRow base e size v n xs) {C : Array Value} {k : Nat} (hk : k = w.heap.size) (hx : a.eval x = .slice (some ⟨k, 0, none⟩) 1 1) (hC : C.size = size) (h1 : ∀ u ∈ C.toList, u.oneCell' = true)
    (hb : (n + 1) * bytes ≤ 140737488355328) (hbase : base ≤ w.heap.size)
    (h : ∀ v' w', w'.ownsRow base e size v' (n + 1) (xs ++ C.toList) → w.grownBy w' v.ownBlock → wpList P ops Q' rest (a.put o.dst v') w') : wpList P ops Q' (o :: rest) a (w.alloc (.cells C e)) := by
  obtain ⟨i, z, hi, hz, hsz, hby, hzs⟩ := E.inf
  subst hk
  have hle : n + 1 ≤ (n + 1) * bytes := Nat.le_mul_of_pos_right _ E.bpos
  refine wpList_append_own _ hgd s x t ho base e i z size bytes E.und hi hz hsz hby hzs E.pos v n xs hs (hown.alloc _) ⟨w.heap.size, 0, none⟩ 1 1 C.toList hx (by simpa using hC) (fun j u hu => ?_) h1 (by simp only [maxLen]; omega) hb (by simp; omega) (fun v' w' h2 h3 _ => h v' w' h2 ((World.grownBy_alloc w _ _).trans h3))
  rw [addr_add, Nat.zero_add, World.cell?_alloc_new]
  simpa using hu
/-- what holds while objects are put to their places -/
structure LayR (w : World) (A : Option Addr) (n c : Nat) (wr : World) (L1 mb : Nat) (vs : Value) (st : List Int) (t : List (ByteArray × Int × Int)) : Prop where
  q : Q w wr
  b0 : wr.heap[w.heap.size]? = some (.cells #[.slice none 0 0, .slice none 0 0, .map none] 78 (0, 0))
  b1 : wr.heap[L1]? = some (.cells #[.slice A n c, vs, .map (some mb)] 78 (0, 0))
  l1 : w.heap.size < L1
  lm : w.heap.size ≤ mb
  row : wr.ownsRow w.heap.size 3 1 vs st.length (st.map (Value.int .i64))
  mp : MpR wr mb t
theorem own_blk {w : World} {B e s : Nat} {v : Value} {n : Nat} {xs : List Value} (h : w.ownsRow B e s v n xs) {g : Nat} (hg : v.ownBlock = some g) : ∃ cs, w.heap[g]? = some (.cells cs e (0, 0)) := by
  rcases h.2 with ⟨rfl, _⟩ | ⟨g', cap, cur, rfl, _, hh, _⟩
  · cases hg
  · cases hg; exact ⟨cur, hh⟩
theorem MpR.blk {w : World} {mb : Nat} {t : List (ByteArray × Int × Int)} (h : MpR w mb t) : ∃ es cl, w.heap[mb]? = some (.map es cl) := by
  obtain ⟨m, D, ⟨es, cl, hb, _⟩, _⟩ := h
  exact ⟨es, cl, hb⟩
section
variable {w : World} {A : Option Addr} {n c : Nat} {wr w' : World} {L1 mb : Nat} {vs : Value} {st : List Int} {t : List (ByteArray × Int × Int)}
theorem LayR.l1lt (h : LayR w A n c wr L1 mb vs st t) : L1 < wr.heap.size := (Array.getElem?_eq_some_iff.1 h.b1).1
theorem LayR.grow (h : LayR w A n c wr L1 mb vs st t) {row : Option Nat} (hg : wr.grownBy w' row) (hr : row = none ∨ row = some mb) {t' : List (ByteArray × Int × Int)} (hm : MpR w' mb t') : LayR w A n c w' L1 mb vs st t' := by
  obtain ⟨es, cl, hmb⟩ := h.mp.blk
  have hne : ∀ {g : Nat} {cs : Array Value} {ty : TypeId} {fr : Nat × Nat}, wr.heap[g]? = some (.cells cs ty fr) → some g ≠ row := fun {g cs ty fr} hgb e => by
    rcases hr with rfl | rfl
    · cases e
    · cases e
      rw [hmb] at hgb
      cases hgb
  refine ⟨?_, (hg.block _ (Array.getElem?_eq_some_iff.1 h.b0).1 (hne h.b0)).trans h.b0, (hg.block _ h.l1lt (hne h.b1)).trans h.b1, h.l1, h.lm, h.row.kept hg ?_, hm⟩
  · refine Below.trans h.q ((Below.refl w.heap.size wr).grown hg h.q.size (fun k hk => ?_))
    rcases hr with rfl | rfl
    · cases hk
    · cases hk; exact h.lm
  · cases hv : vs.ownBlock with
    | none => exact .inl rfl
    | some g =>
      obtain ⟨cs, hcs⟩ := own_blk h.row hv
      exact .inr (hne hcs)
theorem LayR.up (h : LayR w A n c wr L1 mb vs st t) (hq : Q wr w') : LayR w A n c w' L1 mb vs st t := h.grow (grown_of_q hq none) (.inl rfl) (h.mp.up hq)
theorem LayR.app_b1 (h : LayR w A n c wr L1 mb vs st t) {w1 : World} (hg : wr.grownBy w1 vs.ownBlock) : w1.heap[L1]? = some (.cells #[.slice A n c, vs, .map (some mb)] 78 (0, 0)) := by
  refine (hg.block _ h.l1lt (fun e => ?_)).trans h.b1
  obtain ⟨cs, hcs⟩ := own_blk h.row e.symm
  rw [h.b1] at hcs
  cases hcs
theorem LayR.app (h : LayR w A n c wr L1 mb vs st t) {w1 : World} {vs' : Value} {x : Int} (hg : wr.grownBy w1 vs.ownBlock) (ho : w1.ownsRow w.heap.size 3 1 vs' (st.length + 1) (st.map (Value.int .i64) ++ [.int .i64 x])) :
    LayR w A n c (w1.setCell ⟨L1, 1, none⟩ vs') L1 mb vs' (st ++ [x]) t := by
  have hne : ∀ {g : Nat} {ob : Obj}, wr.heap[g]? = some ob → (∀ cs, ob ≠ .cells cs 3 (0, 0)) → some g ≠ vs.ownBlock := fun {g ob} hgb hob e => by
    obtain ⟨cs, hcs⟩ := own_blk h.row e.symm
    rw [hcs] at hgb
    exact hob cs (Option.some.inj hgb).symm
  obtain ⟨es, cl, hmb⟩ := h.mp.blk
  have b0 := (hg.block _ (Array.getElem?_eq_some_iff.1 h.b0).1 (hne h.b0 (fun cs e => by cases e))).trans h.b0
  have b1 := (hg.block _ h.l1lt (hne h.b1 (fun cs e => by cases e))).trans h.b1
  have m1 : MpR w1 mb t := h.mp.kept hg (hne hmb (fun cs e => by cases e))
  obtain ⟨es1, cl1, hmb1⟩ := m1.blk
  have hq1 : Q w w1 := Below.trans h.q ((Below.refl w.heap.size wr).grown hg h.q.size (fun k hk => (h.row.lt k hk).1))
  have hl0 : w.heap.size ≠ L1 := by have := h.l1; omega
  refine ⟨hq1.set (Nat.le_of_lt h.l1) _, (heap_setCell_other w1 ⟨L1, 1, none⟩ _ _ hl0).trans b0, ?_, h.l1, h.lm, ?_, m1.kept grown_cell (fun e => ?_)⟩
  · exact heap_setCell_same w1 L1 1 _ _ vs' b1
  · have hk := ho.kept (w' := w1.setCell ⟨L1, 1, none⟩ vs') (row := some L1) grown_cell (by
      cases hv : vs'.ownBlock with
      | none => exact .inl rfl
      | some g =>
        obtain ⟨cs, hcs⟩ := own_blk ho hv
        refine .inr (fun e => ?_)
        cases e
        rw [b1] at hcs
        cases hcs)
    simpa using hk
  · cases e
    rw [hmb1] at b1
    cases b1
end
end Go.Proofs.Ytiilkiggfjpibaa

namespace Go.Proofs.Ytiilkiggfjpibaa
open Go.RowKit LK
set_option linter.unusedVariables false
set_option linter.unusedSimpArgs false
def okSym (_ : World) (p : Sym) : Prop := p.1.size ≤ 140737488351232 ∧ (Lit.int .i64 p.2).wf = true
def okWnt (_ : World) (p : Wnt) : Prop := (Lit.int .i64 p.1).wf = true ∧ (Lit.int .i64 p.2.1).wf = true ∧ p.2.2.size ≤ 140737488351232
def okB8 (_ : World) (a : Int) : Prop := (Lit.int .u8 a).wf = true
def okO (w : World) (o : OV) : Prop := SlOk 1 (encI .u8) okB8 w o.1 ∧ SlOk 2 encSym okSym w o.2.1 ∧ SlOk 3 encWnt okWnt w o.2.2
theorem rdI64 : Rdr Try.prog 3 1 (encI .i64) (fun _ a => (Lit.int .i64 a).wf = true) := Rdr.int Try.underlying3 (by kernel_rfl)
theorem rdStr1 : Rdr Try.prog 9 1 encS (fun _ s => s.size ≤ 140737488351232) := Rdr.str Try.underlying9 (by kernel_rfl)
theorem rdSym : Rdr Try.prog 94 2 encSym okSym :=
  Rdr.struct Try.underlying94 (by kernel_rfl) (by
    refine RdrF.cons (i := 0) (off := 0) (k := 1) (k' := 1) (enc := encS) (enc' := encI .i64) (ok := (fun (_ : World) (s : ByteArray) => s.size ≤ 140737488351232)) (ok' := (fun (_ : World) (a : Int) => (Lit.int .i64 a).wf = true)) (f := _) (hf := rfl) ?_ ?_ ?_
    · rfl
    · exact rdStr1
    refine RdrF.one (f := _) (hf := rfl) ?_ ?_
    · rfl
    exact rdI64)
theorem rdWnt : Rdr Try.prog 97 3 encWnt okWnt :=
  Rdr.struct Try.underlying97 (by kernel_rfl) (by
    refine RdrF.cons (i := 0) (off := 0) (k := 1) (k' := 2) (enc := encI .i64) (enc' := fun p : Int × ByteArray => encI .i64 p.1 ++ encS p.2) (ok := (fun (_ : World) (a : Int) => (Lit.int .i64 a).wf = true)) (ok' := fun (_ : World) (p : Int × ByteArray) => (Lit.int .i64 p.1).wf = true ∧ p.2.size ≤ 140737488351232) (f := _) (hf := rfl) ?_ ?_ ?_
    · rfl
    · exact rdI64
    refine RdrF.cons (i := 1) (off := 1) (k := 1) (k' := 1) (enc := encI .i64) (enc' := encS) (ok := (fun (_ : World) (a : Int) => (Lit.int .i64 a).wf = true)) (ok' := (fun (_ : World) (s : ByteArray) => s.size ≤ 140737488351232)) (f := _) (hf := rfl) ?_ ?_ ?_
    · rfl
    · exact rdI64
    refine RdrF.one (f := _) (hf := rfl) ?_ ?_
    · rfl
    exact rdStr1)
theorem rdBytes8 : Rdr Try.prog 30 1 (encV (α := Int)) (SlOk 1 (encI .u8) okB8) :=
  Rdr.slice' (Rdr.int Try.underlying5 (by kernel_rfl)) (by decide) Try.underlying30 (by kernel_rfl) (show Try.prog.bytesOf 5 = 1 by kernel_rfl) (by decide)
theorem rdSyms : Rdr Try.prog 31 1 (encV (α := Sym)) (SlOk 2 encSym okSym) :=
  Rdr.slice' rdSym (by decide) Try.underlying31 (by kernel_rfl) (show Try.prog.bytesOf 94 = 24 by kernel_rfl) (by decide)
theorem rdWnts : Rdr Try.prog 32 1 (encV (α := Wnt)) (SlOk 3 encWnt okWnt) :=
  Rdr.slice' rdWnt (by decide) Try.underlying32 (by kernel_rfl) (show Try.prog.bytesOf 97 = 32 by kernel_rfl) (by decide)
theorem rdObj : Rdr Try.prog 34 3 encO okO :=
  Rdr.struct Try.underlying34 (by kernel_rfl) (by
    refine RdrF.cons (i := 0) (off := 0) (k := 1) (k' := 2) (enc := encV) (enc' := fun p : SlV Sym × SlV Wnt => encV p.1 ++ encV p.2) (ok := SlOk 1 (encI .u8) okB8) (ok' := fun (w : World) (p : SlV Sym × SlV Wnt) => SlOk 2 encSym okSym w p.1 ∧ SlOk 3 encWnt okWnt w p.2) (f := _) (hf := rfl) ?_ ?_ ?_
    · rfl
    · exact rdBytes8
    refine RdrF.cons (i := 1) (off := 1) (k := 1) (k' := 1) (enc := encV) (enc' := encV) (ok := SlOk 2 encSym okSym) (ok' := SlOk 3 encWnt okWnt) (f := _) (hf := rfl) ?_ ?_ ?_
    · rfl
    · exact rdSyms
    refine RdrF.one (f := _) (hf := rfl) ?_ ?_
    · rfl
    exact rdWnts)
instance : Inhabited OV := ⟨(⟨none, 0, 0, []⟩, ⟨none, 0, 0, []⟩, ⟨none, 0, 0, []⟩)⟩
theorem rdObs : Rdr Try.prog 22 1 (encV (α := OV)) (SlOk 3 encO okO) :=
  Rdr.slice' rdObj (by decide) Try.underlying22 (by kernel_rfl) (show Try.prog.bytesOf 34 = 72 by kernel_rfl) (by decide)
theorem ObR.of {w : World} {o : OV} (h : okO w o) : ObR w o := by
  obtain ⟨h1, h2, h3⟩ := h
  exact ⟨h1.sl, h2.sl, h3.sl, h1.nil_, h2.nil_, h3.nil_, fun x hx => by
    have := h1.all x hx
    unfold okB8 at this
    have h2 : IntKind.u8.min ≤ x ∧ x ≤ IntKind.u8.max := by simpa [Lit.wf] using this
    have e1 : IntKind.u8.min = 0 := by decide
    have e2 : IntKind.u8.max = 255 := by decide
    omega, fun x hx => (h2.all x hx).1, fun x hx => (h3.all x hx).2.2⟩
theorem ObsR.of {w : World} {v : SlV OV} (h : SlOk 3 encO okO w v) : ObsR w v.A v.n v.c v.xs := ⟨h.sl, h.nil_, fun o ho => ObR.of (h.all o ho)⟩
end Go.Proofs.Ytiilkiggfjpibaa

namespace Go.Proofs.Ytiilkiggfjpibaa
open Go.RowKit LK
set_option linter.unusedVariables false
set_option linter.unusedSimpArgs false
def longO (o : OV) : Bool := decide ((1000 : Int) < (o.1.n : Int)) || (decide ((40 : Int) < (o.2.1.n : Int)) || decide ((40 : Int) < (o.2.2.n : Int)))
def longB (os : List OV) : Bool := os.any longO || decide ((12 : Int) < (os.length : Int))
theorem longB_some {os : List OV} {k : Nat} {o : OV} (h : os[k]? = some o) (ho : longO o = true) : longB os = true := by
  unfold longB
  rw [show os.any longO = true from List.any_eq_true.2 ⟨o, List.mem_of_getElem? h, ho⟩]
  rfl
theorem longB_none {os : List OV} (h : ∀ (j : Nat) (o : OV), os[j]? = some o → longO o = false) : longB os = decide ((12 : Int) < (os.length : Int)) := by
  unfold longB
  rw [show os.any longO = false from by
    rw [List.any_eq_false]
    intro x hx
    obtain ⟨j, hj, rfl⟩ := List.getElem_of_mem hx
    rw [h j _ (List.getElem?_eq_getElem hj)]
    exact Bool.false_ne_true]
  rfl
set_option maxRecDepth 100000 in
set_option maxHeartbeats 4000000 in
theorem Long_any (A : Option Addr) (n c : Nat) (os : List OV) (w : World) (hO : ObsR w A n c os) (hc : c ≤ 140737488351232) : Calls Try.prog 13 #[.slice A n c] w fun e w' => e = .returned (.bool (longB os)) ∧ Q w w' := by
  have hl := hO.sl.len
  have hnc := hO.sl.cap
  have hni : (n : Int) ≤ 140737488351232 := by omega
  have HO := hide hO
  have HL := hide hl
  clear hO hl hnc
  go_enter Try.func13, Try.ntmps13
  go_wp2_with fail
  go_loopw [3] (fun vi wr => ∃ k : Nat, k ≤ n ∧ vi = .int .i64 k ∧ (∀ (j : Nat) (o : OV), j < k → os[j]? = some o → longO o = false) ∧ Q w wr) (fun vi _ => n - (intOf vi).toNat)
  case atStart => exact ⟨0, by omega, by go_num, fun j o hj => by omega, Q.refl _⟩
  case round =>
    obtain ⟨k, hk, rfl, hall, hq⟩ := hrel
    have HALL := hide hall
    have HQ := hide hq
    have hsz := hq.size
    clear hall hq
    by_cases hlt : k < n
    · have hd1 : decide ((k : Int) < (n : Int)) = true := by simp; omega
      have hd0 : decide (k < n) = true := by simp; omega
      have hlti : (k : Int) < (n : Int) := by omega
      obtain ⟨b, o, ob, eA, hb, g1, x0, x1, x2, hob⟩ := (HO.out.up HQ.out).at_ k hlt
      subst eA
      obtain ⟨⟨A0, n0, c0, bs⟩, ⟨A1, n1, c1, ss⟩, ⟨A2, n2, c2, ws⟩⟩ := ob
      dsimp only at x0 x1 x2
      have G1 := hide g1
      clear g1 hob
      cases d0 : decide ((1000 : Int) < (n0 : Int))
      · cases d1 : decide ((40 : Int) < (n1 : Int))
        · cases d2 : decide ((40 : Int) < (n2 : Int))
          · have HF := hide (show longO (⟨A0, n0, c0, bs⟩, ⟨A1, n1, c1, ss⟩, ⟨A2, n2, c2, ws⟩) = false by unfold longO; simp only [d0, d1, d2]; rfl)
            go_wp2_with fail
            go_roundw
            case rel => exact ⟨k + 1, by omega, by go_num, fun j o hj ho => by
              by_cases e : j = k
              · subst e
                rw [G1.out] at ho
                cases ho
                exact HF.out
              · exact HALL.out j o (by omega) ho, HQ.out⟩
            case measure => simp [intOf] <;> omega
          · have HF := hide (longB_some G1.out (show longO (⟨A0, n0, c0, bs⟩, ⟨A1, n1, c1, ss⟩, ⟨A2, n2, c2, ws⟩) = true by unfold longO; simp only [d0, d1, d2]; rfl))
            go_wp2_with fail
            go_ret
            exact ⟨by rw [HF.out]; rfl, HQ.out⟩
        · have HF := hide (longB_some G1.out (show longO (⟨A0, n0, c0, bs⟩, ⟨A1, n1, c1, ss⟩, ⟨A2, n2, c2, ws⟩) = true by unfold longO; simp only [d0, d1]; rfl))
          go_wp2_with fail
          go_ret
          exact ⟨by rw [HF.out]; rfl, HQ.out⟩
      · have HF := hide (longB_some G1.out (show longO (⟨A0, n0, c0, bs⟩, ⟨A1, n1, c1, ss⟩, ⟨A2, n2, c2, ws⟩) = true by unfold longO; simp only [d0]; rfl))
        go_wp2_with fail
        go_ret
        exact ⟨by rw [HF.out]; rfl, HQ.out⟩
    · have hd1 : decide ((k : Int) < (n : Int)) = false := by simp; omega
      have hd0 : decide (k < n) = false := by simp; omega
      obtain rfl : k = n := by omega
      have E := hide (longB_none (os := os) (fun j o h => HALL.out j o (by have := (List.getElem?_eq_some_iff.1 h).1; have := HL.out; omega) h))
      go_wp2_with fail
      go_ret
      exact ⟨by rw [E.out, HL.out]; rfl, HQ.out⟩
end Go.Proofs.Ytiilkiggfjpibaa

namespace Go.Proofs.Ytiilkiggfjpibaa
open Go.RowKit LK
set_option linter.unusedVariables false
set_option linter.unusedSimpArgs false
def pbyte (v k : Nat) : Value := .int .u8 ((v / 2 ^ (8 * k) % 256 : Nat))
def putL (v o : Nat) : Nat → List Value → List Value
  | 0, xs => xs
  | k + 1, xs => (putL v o k xs).set (o + k) (pbyte v k)
theorem putL_len (v o k : Nat) (xs : List Value) : (putL v o k xs).length = xs.length := by
  induction k with
  | zero => rfl
  | succ k ih => rw [putL, List.length_set, ih]
theorem grown_refl (w : World) (row : Option Nat) : w.grownBy w row := ⟨rfl, rfl, rfl, Nat.le_refl _, fun _ _ _ => rfl⟩
theorem grown_set_ {a b : World} {g B e size n c : Nat} {xs : List Value} (h : a.grownBy b (some g)) (ho : b.ownsRow B e size (.slice (some ⟨g, 0, none⟩) n c) n xs) (j : Nat) (u : Value) : a.grownBy (b.setCell ⟨g, j, none⟩ u) (some g) :=
  h.trans (ho.stored j u).2
set_option maxRecDepth 100000 in
set_option maxHeartbeats 4000000 in
theorem put_any (g o c' N c B v : Nat) (xs : List Value) (w : World) (hN : o + 4 ≤ N) (hc' : 4 ≤ c') (hr : w.ownsRow B 5 1 (.slice (some ⟨g, 0, none⟩) N c) N xs) (hv : v < 4294967296) :
    Calls Try.prog 83 #[.slice (some ⟨g, o, none⟩) 4 c', .int .u32 (v : Nat)] w fun e w' => e = .returned (.tuple #[]) ∧ w.grownBy w' (some g) ∧ w'.ownsRow B 5 1 (.slice (some ⟨g, 0, none⟩) N c) N (putL v o 4 xs) := by
  have HR := hide hr
  have hvi : (v : Int) < 4294967296 := by omega
  clear hr
  go_enter Try.func83, Try.ntmps83
  go_wp2_with fail
  go_loopw [7] (fun vi wr => ∃ k : Nat, k ≤ 4 ∧ vi = .int .i64 k ∧ w.grownBy wr (some g) ∧ wr.ownsRow B 5 1 (.slice (some ⟨g, 0, none⟩) N c) N (putL v o k xs)) (fun vi _ => 4 - (intOf vi).toNat)
  case atStart => exact ⟨0, by omega, by go_num, grown_refl _ _, HR.out⟩
  case round =>
    obtain ⟨k, hk, rfl, hg, hr⟩ := hrel
    have HG := hide hg
    have HRR := hide hr
    clear hg
    by_cases hlt : k < 4
    · have hd1 : decide ((k : Int) < (4 : Int)) = true := by simp; omega
      have hd0 : decide (k < 4) = true := by simp; omega
      have hki : (k : Int) ≤ 3 := by omega
      obtain ⟨g', cc, e0, _, hgl, _, _, hcell, hfz⟩ := own_at hr (by omega)
      cases e0
      obtain ⟨_, _, e1, _, _, hlen, _⟩ := own_form hr
      have hx : ∃ u, (putL v o k xs)[o + k]? = some u := ⟨_, List.getElem?_eq_getElem (by omega)⟩
      obtain ⟨u, hu⟩ := hx
      have hck := hcell _ u hu
      have hfk := hfz (o + k)
      clear hcell hfz hlen e1 hu hr
      go_wp2_with fail
      go_roundw
      case rel => exact ⟨k + 1, by omega, by go_num, grown_set_ HG.out HRR.out _ _, by
        rw [show Value.int .u8 ((v : Int) / 2 ^ (8 * k) % 256) = pbyte v k by simp [pbyte]]
        exact own_set HRR.out (o + k) (pbyte v k)⟩
      case measure => simp [intOf] <;> omega
    · have hd1 : decide ((k : Int) < (4 : Int)) = false := by simp; omega
      have hd0 : decide (k < 4) = false := by simp; omega
      obtain rfl : k = 4 := by omega
      go_wp2_with fail
      exact bodyPost_end (v := .tuple #[]) (by simp [results, Try.results83, go_sem]) rfl ⟨rfl, HG.out, HRR.out⟩
end Go.Proofs.Ytiilkiggfjpibaa

namespace Go.Proofs.Ytiilkiggfjpibaa
open Go.RowKit LK
set_option linter.unusedVariables false
set_option linter.unusedSimpArgs false
theorem set3 (w : World) (b : Nat) (a0 a1 a2 v0 v1 v2 : Value) (h0 : w.cell? ⟨b, 0, none⟩ = some a0) (h1 : w.cell? ⟨b, 1, none⟩ = some a1) (h2 : w.cell? ⟨b, 2, none⟩ = some a2) :
    (((w.setCell ⟨b, 0, none⟩ v0).setCell ⟨b, 1, none⟩ v1).setCell ⟨b, 2, none⟩ v2).cell? ⟨b, 0, none⟩ = some v0 ∧
    (((w.setCell ⟨b, 0, none⟩ v0).setCell ⟨b, 1, none⟩ v1).setCell ⟨b, 2, none⟩ v2).cell? ⟨b, 1, none⟩ = some v1 ∧
    (((w.setCell ⟨b, 0, none⟩ v0).setCell ⟨b, 1, none⟩ v1).setCell ⟨b, 2, none⟩ v2).cell? ⟨b, 2, none⟩ = some v2 := by
  refine ⟨?_, ?_, ?_⟩
  · rw [World.cell?_setCell_other _ _ _ _ (by simp), World.cell?_setCell_other _ _ _ _ (by simp), World.cell?_setCell_same _ _ _ h0]
  · rw [World.cell?_setCell_other _ _ _ _ (by simp), World.cell?_setCell_same _ _ _ (by rw [World.cell?_setCell_other _ _ _ _ (by simp)]; exact h1)]
  · rw [World.cell?_setCell_same _ _ _ (by rw [World.cell?_setCell_other _ _ _ _ (by simp), World.cell?_setCell_other _ _ _ _ (by simp)]; exact h2)]
theorem El_int : El Try.prog 26 3 1 8 := El.of (z := .int .i64 0) Try.underlying26 (by kernel_rfl) rfl (by decide) (by decide)
theorem room_any (A0 : Option Addr) (n0 c0 : Nat) (v1 v2 : Value) (w : World) (hn : n0 ≤ 100000) :
    Calls Try.prog 85 #[.agg #[.slice A0 n0 c0, v1, v2]] w fun e w' => e = .returned (.int .i64 (room n0 : Nat)) ∧ Q w w' := by
  have hni : (n0 : Int) ≤ 100000 := by omega
  go_enter Try.func85, Try.ntmps85
  go_wp2_with fail
  go_ret
  refine ⟨ret_int ?_, (Q.refl w).alloc _⟩
  unfold room
  omega
/-- no name stands twice up to place p, as far as the rest goes -/
def DupS (T : List (ByteArray × Int × Int)) (p : Nat) : Prop := dupB [] (T.map (·.1)) = dupB ((T.take p).map (·.1)) ((T.drop p).map (·.1))
theorem DupS.step {T : List (ByteArray × Int × Int)} {p : Nat} {x : ByteArray × Int × Int} (h : DupS T p) (hx : T[p]? = some x) (hn : lookS (T.take p) x.1 = none) : DupS T (p + 1) := by
  obtain ⟨hp, e⟩ := List.getElem?_eq_some_iff.1 hx
  unfold DupS at h ⊢
  rw [h, List.drop_eq_getElem_cons hp, List.map_cons, dupB, e, List.take_succ_eq_append_getElem hp, e, List.map_append]
  have : ((T.take p).map (·.1)).any (fun y => y.toList == x.1.toList) = false := by
    rw [List.any_map, List.any_eq_false]
    intro y hy he
    unfold lookS at hn
    rw [Option.map_eq_none_iff, List.find?_eq_none] at hn
    exact hn y hy he
  rw [this]
  rfl
theorem DupS.found {T : List (ByteArray × Int × Int)} {p : Nat} {x : ByteArray × Int × Int} {ab : Int × Int} (h : DupS T p) (hx : T[p]? = some x) (hn : lookS (T.take p) x.1 = some ab) : dupB [] (T.map (·.1)) = true := by
  obtain ⟨hp, e⟩ := List.getElem?_eq_some_iff.1 hx
  unfold DupS at h
  rw [h, List.drop_eq_getElem_cons hp, List.map_cons, dupB, e]
  have : ((T.take p).map (·.1)).any (fun y => y.toList == x.1.toList) = true := by
    rw [List.any_map, List.any_eq_true]
    unfold lookS at hn
    rw [Option.map_eq_some_iff] at hn
    obtain ⟨y, hy, _⟩ := hn
    exact ⟨y, List.mem_of_find?_eq_some hy, by simpa using List.find?_some hy⟩
  rw [this]
  rfl
section
variable {w : World} {ops : Array Oper} {rest : List Oper} {o : Oper} {a : Act} {Q' : Exit → Act → World → Prop} {mb : Nat} {t : List (ByteArray × Int × Int)}
theorem wpList_lookN (hg : o.guard = none) (m x : Operand) (hop : o.op = Op.lookup 76 m x true) (hm : a.eval m = .map (some mb)) (hM : MpR w mb t) (s : ByteArray) (hx : a.eval x = .string s) (hs : s.size ≤ 9223372036854775807) (hn : lookS t s = none)
    (hK : wpList Try.prog ops Q' rest (a.put o.dst (.tuple #[.agg #[.int .i64 0, .int .i64 0], .bool false])) w) : wpList Try.prog ops Q' (o :: rest) a w :=
  wpList_lookP hg m x hop hm hM s hx hs (by rw [hn]; exact hK)
theorem wpList_lookF (hg : o.guard = none) (m x : Operand) (hop : o.op = Op.lookup 76 m x true) (hm : a.eval m = .map (some mb)) (hM : MpR w mb t) (s : ByteArray) (hx : a.eval x = .string s) (hs : s.size ≤ 9223372036854775807) {p q : Int} (hn : lookS t s = some (p, q))
    (hK : wpList Try.prog ops Q' rest (a.put o.dst (.tuple #[.agg #[.int .i64 p, .int .i64 q], .bool true])) w) : wpList Try.prog ops Q' (o :: rest) a w :=
  wpList_lookP hg m x hop hm hM s hx hs (by rw [hn]; exact hK)
end
theorem LayR.start (w : World) (A : Option Addr) (n c : Nat) :
    LayR w A n c ((((w.alloc (.cells #[.slice none 0 0, .slice none 0 0, .map none] 78)).alloc (.cells #[.int .i64 0] 3)).alloc (.map #[] 0)).alloc (.cells #[.slice A n c, .slice (some ⟨w.heap.size + 1, 0, none⟩) 1 1, .map (some (w.heap.size + 1 + 1))] 78)) (w.heap.size + 1 + 1 + 1) (w.heap.size + 1 + 1) (.slice (some ⟨w.heap.size + 1, 0, none⟩) 1 1) [0] [] := by
  obtain ⟨u1, hu1⟩ : ∃ u1, w.alloc (.cells #[.slice none 0 0, .slice none 0 0, .map none] 78) = u1 := ⟨_, rfl⟩
  have s1 : u1.heap.size = w.heap.size + 1 := by rw [← hu1]; simp
  have q1 : Q w u1 := by rw [← hu1]; exact (Q.refl w).alloc _
  have b0 : u1.heap[w.heap.size]? = some (.cells #[.slice none 0 0, .slice none 0 0, .map none] 78 (0, 0)) := by rw [← hu1]; exact heap_alloc_new w _
  rw [hu1]
  obtain ⟨u2, hu2⟩ : ∃ u2, u1.alloc (.cells #[.int .i64 0] 3) = u2 := ⟨_, rfl⟩
  have s2 : u2.heap.size = w.heap.size + 1 + 1 := by rw [← hu2]; simp [s1]
  have q2 : Q u1 u2 := by rw [← hu2]; exact (Q.refl u1).alloc _
  have r2 : u2.ownsRow w.heap.size 3 1 (.slice (some ⟨w.heap.size + 1, 0, none⟩) 1 1) 1 [.int .i64 0] := by
    rw [← hu2, ← s1]
    exact World.ownsRow_lit u1 #[.int .i64 0] 1 (by omega) (by decide) rfl
  rw [hu2]
  obtain ⟨u3, hu3⟩ : ∃ u3, u2.alloc (.map #[] 0) = u3 := ⟨_, rfl⟩
  have s3 : u3.heap.size = w.heap.size + 1 + 1 + 1 := by rw [← hu3]; simp [s2]
  have q3 : Q u2 u3 := by rw [← hu3]; exact (Q.refl u2).alloc _
  have m3 : MpR u3 (w.heap.size + 1 + 1) [] := by rw [← hu3, ← s2]; exact MpR.made u2
  rw [hu3]
  obtain ⟨u4, hu4⟩ : ∃ u4, u3.alloc (.cells #[.slice A n c, .slice (some ⟨w.heap.size + 1, 0, none⟩) 1 1, .map (some (w.heap.size + 1 + 1))] 78) = u4 := ⟨_, rfl⟩
  have q4 : Q u3 u4 := by rw [← hu4]; exact (Q.refl u3).alloc _
  have b1 : u4.heap[w.heap.size + 1 + 1 + 1]? = some (.cells #[.slice A n c, .slice (some ⟨w.heap.size + 1, 0, none⟩) 1 1, .map (some (w.heap.size + 1 + 1))] 78 (0, 0)) := by rw [← hu4, ← s3]; exact heap_alloc_new u3 _
  rw [hu4]
  have q14 : Q u1 u4 := (q2.trans q3).trans q4
  exact ⟨q1.trans q14, (q14.below.block _ (by omega)).trans b0, b1, by omega, by omega, own_q (own_q r2 q3) q4, m3.up q4⟩
def LayPost (w : World) (A : Option Addr) (n c : Nat) (os : List OV) (e : Ending) (w' : World) : Prop :=
  Q w w' ∧ ((dupB [] (namesF os) = true ∧ e = .returned (.tuple #[.agg #[.slice none 0 0, .slice none 0 0, .map none], .int .i64 5])) ∨
    (dupB [] (namesF os) = false ∧ ∃ vs mb, e = .returned (.tuple #[.agg #[.slice A n c, vs, .map (some mb)], .int .i64 0]) ∧ w'.ownsRow w.heap.size 3 1 vs (n + 1) ((startsL os (n + 1)).map (Value.int .i64)) ∧ MpR w' mb (tabF 0 0 os)))
theorem LayPost.dup {w w' : World} {A : Option Addr} {n c : Nat} {os : List OV} (hq : Q w w') (h : dupB [] (namesF os) = true) : LayPost w A n c os (.returned (.tuple #[.agg #[.slice none 0 0, .slice none 0 0, .map none], .int .i64 5])) w' := ⟨hq, .inl ⟨h, rfl⟩⟩
theorem LayPost.ok {w w' : World} {A : Option Addr} {n c : Nat} {os : List OV} {vs : Value} {mb : Nat} (hq : Q w w') (h : dupB [] (namesF os) = false) (ho : w'.ownsRow w.heap.size 3 1 vs (n + 1) ((startsL os (n + 1)).map (Value.int .i64))) (hm : MpR w' mb (tabF 0 0 os)) :
    LayPost w A n c os (.returned (.tuple #[.agg #[.slice A n c, vs, .map (some mb)], .int .i64 0])) w' := ⟨hq, .inr ⟨h, vs, mb, rfl, ho, hm⟩⟩
theorem LayR.fin {w wr : World} {A : Option Addr} {n c : Nat} {L1 mb : Nat} {vs : Value} {st : List Int} {t : List (ByteArray × Int × Int)} (h : LayR w A n c wr L1 mb vs st t) (v0 v1 v2 : Value) :
    (((wr.setCell ⟨w.heap.size, 0, none⟩ v0).setCell ⟨w.heap.size, 1, none⟩ v1).setCell ⟨w.heap.size, 2, none⟩ v2).ownsRow w.heap.size 3 1 vs st.length (st.map (Value.int .i64)) ∧ MpR (((wr.setCell ⟨w.heap.size, 0, none⟩ v0).setCell ⟨w.heap.size, 1, none⟩ v1).setCell ⟨w.heap.size, 2, none⟩ v2) mb t := by
  have hg : wr.grownBy (((wr.setCell ⟨w.heap.size, 0, none⟩ v0).setCell ⟨w.heap.size, 1, none⟩ v1).setCell ⟨w.heap.size, 2, none⟩ v2) (some w.heap.size) := (grown_cell.trans grown_cell).trans grown_cell
  refine ⟨h.row.kept hg ?_, h.mp.kept hg ?_⟩
  · cases hv : vs.ownBlock with
    | none => exact .inl rfl
    | some g =>
      obtain ⟨cs, hcs⟩ := own_blk h.row hv
      refine .inr (fun e => ?_)
      cases e
      rw [h.b0] at hcs
      cases hcs
  · intro e
    obtain ⟨es, cl, hmb⟩ := h.mp.blk
    cases e
    have := h.b0
    rw [hmb] at this
    cases this
set_option maxRecDepth 100000 in
set_option maxHeartbeats 8000000 in
theorem lay_any (A : Option Addr) (n c : Nat) (os : List OV) (w : World) (hO : ObsR w A n c os) (hn : n ≤ 8) (hv : ∀ o ∈ os, o.valid = 0) :
    Calls Try.prog 82 #[.slice A n c] w (LayPost w A n c os) := by
  have hl := hO.sl.len
  have HO := hide hO
  have HV := hide hv
  have HL := hide hl
  have hni : (n : Int) ≤ 8 := by omega
  have hoff := fun k => offF_le (os := os) (fun o ho => (valid_parts (hO.all o ho).s.len (hv o ho)).1) k
  have HOFF := hide hoff
  have HCS := hide (fun k => cntS_le (os := os) (fun o ho => by have h1 := (valid_parts (hO.all o ho).s.len (hv o ho)).2.1; have h2 := (hO.all o ho).s.len; omega) k)
  obtain ⟨T, hT⟩ : ∃ T, tabF 0 0 os = T := ⟨_, rfl⟩
  have hTl : T.length = cntS os := by rw [← hT]; exact tabF_length _ _ _
  have HT := hide hT
  have HTL := hide hTl
  clear hO hv hl hoff hT hTl
  have hmm := @run_makeMap Try.prog
  go_enter Try.func82, Try.ntmps82
  go_wp2_with fail
  clear hmm
  go_loopw [5, 18] (fun vat vi wr => ∃ (k : Nat) (vs : Value), k ≤ n ∧ vi = .int .i64 k ∧ vat = .int .i64 (offF (os.take k) : Nat) ∧ LayR w A n c wr (w.heap.size + 1 + 1 + 1) (w.heap.size + 1 + 1) vs (startsL os (k + 1)) (T.take (cntS (os.take k))) ∧ DupS T (cntS (os.take k))) (fun _ vi _ => n - (intOf vi).toNat)
  case atStart => exact ⟨0, _, by omega, by go_num, by go_num, LayR.start w A n c, rfl⟩
  case round =>
    obtain ⟨k, vs, hk, rfl, rfl, hLY, hdup⟩ := hrel
    obtain ⟨wo, rfl⟩ : ∃ wo : World, wo = wr := ⟨_, rfl⟩
    have hslk : (startsL os (k + 1)).length = k + 1 := by simp [startsL]
    obtain ⟨Av, cv, hvs, _, hcv, _⟩ := own_form hLY.row
    rw [hslk] at hvs
    subst hvs
    unfold maxLen at hcv
    have HLY := hide hLY
    have HD := hide hdup
    have HSL := hide hslk
    clear hslk
    have hq0 := hLY.q
    have hl1 := hLY.l1lt
    have hofk := HOFF.out k
    have hcnk := HCS.out k
    have hofki : ((offF (os.take k) : Nat) : Int) ≤ 4352 := by omega
    obtain ⟨ofk, hofe⟩ : ∃ ofk, offF (os.take k) = ofk := ⟨_, rfl⟩
    obtain ⟨cn, hcn⟩ : ∃ cn, cntS (os.take k) = cn := ⟨_, rfl⟩
    rw [hofe] at hofk hofki ⊢
    rw [hcn] at hLY hdup HLY HD hcnk
    have HOE := hide hofe
    have HCN := hide hcn
    clear hdup hofe hcn
    by_cases hlt : k < n
    · have hd1 : decide ((k : Int) < (n : Int)) = true := by simp; omega
      have hd0 : decide (k < n) = true := by simp; omega
      have hlti : (k : Int) < (n : Int) := by omega
      obtain ⟨b1, o1, ob, rfl, hb1, g1, x1, x2, x3, hob⟩ := (HO.out.up hq0).at_ k hlt
      obtain ⟨⟨A0, n0, c0, bs⟩, ⟨A1, n1, c1, ss⟩, ⟨A2, n2, c2, ws⟩⟩ := ob
      have hval := HV.out _ (List.mem_of_getElem? g1)
      obtain ⟨v0, v1, v2⟩ := valid_parts hob.s.len hval
      have hsS := hob.s
      dsimp only at x1 x2 x3 v0 v1 v2 hsS
      have hn0i : (n0 : Int) ≤ 512 := by omega
      have hn1i : (n1 : Int) ≤ 16 := by omega
      have G1 := hide g1
      have HOB := hide hob
      have HSS := hide hsS
      have V2 := hide v2
      obtain ⟨wa, hwa⟩ : ∃ wa, wo.alloc (.cells #[.slice A0 n0 c0, .slice A1 n1 c1, .slice A2 n2 c2] 34) = wa := ⟨_, rfl⟩
      have hqa : Q wo wa := by rw [← hwa]; exact (Q.refl wo).alloc _
      have hba : wa.heap[wo.heap.size]? = some (.cells #[.slice A0 n0 c0, .slice A1 n1 c1, .slice A2 n2 c2] 34 (0, 0)) := by rw [← hwa]; exact heap_alloc_new wo _
      have HBA := hide hba
      have HLA := hide (hLY.up hqa)
      have HWA := hide hwa
      clear hLY hob hsS v2 hval g1 hwa
      go_wp2_with fail
      rw [HWA.out]
      clear hba x1 x2 x3 hd1 hd0
      go_loopw [26] (fun vi wx => ∃ i : Nat, i ≤ n1 ∧ vi = .int .i64 i ∧ LayR w (some ⟨b1, o1, none⟩) n c wx (w.heap.size + 1 + 1 + 1) (w.heap.size + 1 + 1) (.slice Av (k + 1) cv) (startsL os (k + 1)) (T.take (cn + i)) ∧ DupS T (cn + i) ∧ wx.heap[wo.heap.size]? = some (.cells #[.slice A0 n0 c0, .slice A1 n1 c1, .slice A2 n2 c2] 34 (0, 0))) (fun vi _ => n1 - (intOf vi).toNat)
      case atStart => exact ⟨0, by omega, by go_num, HLA.out, HD.out, HBA.out⟩
      case round =>
        obtain ⟨i, hi, rfl, hLX, hdx, hbx⟩ := hrel
        obtain ⟨wx, rfl⟩ : ∃ wx : World, wx = wr := ⟨_, rfl⟩
        have HLX := hide hLX
        have HDX := hide hdx
        have HBX := hide hbx
        have hqx := hLX.q
        have hlx := hLX.l1lt
        have hwx : wo.heap.size < wx.heap.size := (Array.getElem?_eq_some_iff.1 hbx).1
        have ky2 := cell_blk hLX.b1 2
        simp at ky2
        by_cases hlt1 : i < n1
        · have hd1 : decide ((i : Int) < (n1 : Int)) = true := by simp; omega
          have hd0 : decide (i < n1) = true := by simp; omega
          have hlti1 : (i : Int) < (n1 : Int) := by omega
          have hss := (HO.out.up hqx).all _ (List.mem_of_getElem? G1.out)
          obtain ⟨b2, o2, nm, at_, e2, hb2, g2, y1, y2⟩ := hss.s.sym i hlt1
          dsimp only at e2 y1 y2 g2
          subst e2
          have hv2 := V2.out _ (List.mem_of_getElem? g2)
          dsimp only at hv2
          obtain ⟨hat0, hat1, hnms⟩ := hv2
          have hTg : T[cn + i]? = some (nm, (k : Int), (ofk : Int) + at_) := by
            have := tabF_get os 0 0 k i _ nm at_ G1.out g2
            rw [HT.out, HOE.out, HCN.out] at this
            simpa using this
          have HTG := hide hTg
          obtain ⟨wb, hwb⟩ : ∃ wb, wx.alloc (.cells #[.string nm, .int .i64 at_] 94) = wb := ⟨_, rfl⟩
          have hqb : Q wx wb := by rw [← hwb]; exact (Q.refl wx).alloc _
          have HWB := hide hwb
          have HLB := hide (hLX.up hqb)
          have HMB := hide (hLX.up hqb).mp
          have htl : (T.take (cn + i)).length ≤ 100000 := by rw [List.length_take]; omega
          have hlx2 : w.heap.size + 1 + 1 + 1 < wx.heap.size + 1 := by omega
          have hlx3 : wo.heap.size < wx.heap.size + 1 := by omega
          cases hlk : lookS (T.take (cn + i)) nm with
          | none =>
            clear hLX hdx hbx hss hTg hwb g2
            have HMC := hide (HLX.out.up (((Q.refl wx).alloc (.cells #[.string nm, .int .i64 at_] 94)).alloc (.cells #[.int .i64 0, .int .i64 0] 106)))
            have HHK := hide hlk
            clear hlk
            go_wp2_with (first | (at_lookup; rw [HWB.out]; refine wpList_lookN rfl _ _ rfl rfl HMB.out nm rfl (by omega) HHK.out ?_; rw [← HWB.out]) | (at_mapUpdate; refine wpList_updP rfl _ _ _ rfl rfl HMC.out.mp htl nm rfl (by omega) _ _ rfl HHK.out ?_; intro w5 hM5 hg5))
            have hsnoc : T.take (cn + i) ++ [(nm, (k : Int), (ofk : Int) + at_)] = T.take (cn + (i + 1)) := by
              rw [← Nat.add_assoc, List.take_add_one, HTG.out]
              rfl
            rw [hsnoc] at hM5
            have HL5 := hide (HMC.out.grow hg5 (.inr rfl) hM5)
            have HB5 := hide ((hg5.block wo.heap.size (by simp; omega) (fun e => by have := Option.some.inj e; omega)).trans (((((Q.refl wx).alloc (.cells #[.string nm, .int .i64 at_] 94)).alloc (.cells #[.int .i64 0, .int .i64 0] 106)).below.block _ hwx).trans HBX.out))
            clear hM5 hg5 hsnoc y1 y2 ky2
            go_wp2_with fail
            go_roundw
            case rel => exact ⟨i + 1, by omega, by go_num, HL5.out, by rw [← Nat.add_assoc]; exact HDX.out.step HTG.out HHK.out, HB5.out⟩
            case measure => simp [intOf] <;> omega
          | some ab =>
            obtain ⟨pa, pb⟩ := ab
            have hf := hdx.found hTg hlk
            have HF := hide hf
            have HHK := hide hlk
            have hR0 : w.heap.size < wx.heap.size := by omega
            have hR1 : w.heap.size < wx.heap.size + 1 := by omega
            have r0 := cell_blk hLX.b0 0
            have r1 := cell_blk hLX.b0 1
            have r2 := cell_blk hLX.b0 2
            have f0 := free_blk hLX.b0 0
            have f1 := free_blk hLX.b0 1
            have f2 := free_blk hLX.b0 2
            simp at r0 r1 r2
            obtain ⟨s0, s1, s2⟩ := set3 wx w.heap.size _ _ _ (.slice none 0 0) (.slice none 0 0) (.map none) r0 r1 r2
            have S0 := hide s0
            have S1 := hide s1
            have S2 := hide s2
            clear hlk hf hLX hdx hbx hss hTg hwb g2 s0 s1 s2
            go_wp2_with (at_lookup; rw [HWB.out]; refine wpList_lookF rfl _ _ rfl rfl HMB.out nm rfl (by omega) HHK.out ?_; rw [← HWB.out])
            have s0 := S0.out
            have s1 := S1.out
            have s2 := S2.out
            refine bodyPost_ret (v := .tuple #[.agg #[.slice none 0 0, .slice none 0 0, .map none], .int .i64 5]) (by simp [results, Try.results82, go_sem, s0, s1, s2, hR0, hR1]) rfl (LayPost.dup ?_ (by unfold namesF; rw [HT.out]; exact HF.out))
            exact ((((Q.set hqx (Nat.le_refl _) _).set (Nat.le_refl _) _).set (Nat.le_refl _) _).alloc _).alloc _
        · have hd1 : decide ((i : Int) < (n1 : Int)) = false := by simp; omega
          have hd0 : decide (i < n1) = false := by simp; omega
          obtain rfl : i = n1 := by omega
          have o0 := cell_blk hbx 0
          have o1' := cell_blk hbx 1
          have o2' := cell_blk hbx 2
          simp at o0 o1' o2'
          have hrm : room n0 ≤ 544 := by unfold room; omega
          have HR := hide (room_any A0 n0 c0 (.slice A1 i c1) (.slice A2 n2 c2) wx (by omega))
          obtain ⟨rm, hrme⟩ : ∃ rm, room n0 = rm := ⟨_, rfl⟩
          rw [hrme] at hrm HR
          have hrmi : (rm : Int) ≤ 544 := by omega
          have HRM := hide hrme
          have HLX := hide hLX
          have HDX := hide hdx
          clear hLX hdx hbx hrme
          go_wp2_with fail
          refine HR.out.mono ?_
          rintro e w6 ⟨rfl, hq6⟩
          have h6 := HLX.out.up hq6
          have hl6 := h6.l1lt
          have hrow := h6.row
          rw [HSL.out] at hrow
          have ky1 := cell_blk h6.b1 1
          simp at ky1
          have H6 := hide h6
          have hq06 := h6.q
          have hsq := hq06.size
          have hkk : k + 1 ≤ 9 := by omega
          clear o0 o1' o2' ky2 h6 hq6
          go_wp2_with (at_builtin; refine wpList_app1g rfl El_int _ _ rfl rfl hrow (by simp) rfl rfl ?_ ?_ ?_ ?_; (focus (simp [Value.oneCell'])); (focus omega); (focus omega); intro v7 w7 hown7 hg7; obtain ⟨A7, c7, rfl, _⟩ := own_form hown7; have b7 := H6.out.app_b1 hg7; have k7 := cell_blk b7 1; have f7 := free_blk b7 1; have l7 := (Array.getElem?_eq_some_iff.1 b7).1; simp at k7; have H7 := hide (H6.out.app hg7 (by rw [HSL.out]; exact hown7)); clear b7 hg7 hown7 ky1)
          go_roundw
          case rel => exact ⟨k + 1, _, by omega, by go_num, by rw [offF_succ G1.out, HOE.out]; dsimp only; rw [HRM.out]; go_num, by
            have h8 := H7.out
            rw [show startsL os (k + 1 + 1) = startsL os (k + 1) ++ [((ofk : Int) + (rm : Int))] by rw [startsL_succ os (k + 1), offF_succ G1.out, HOE.out]; dsimp only; rw [HRM.out]; simp]
            rw [show cntS (os.take (k + 1)) = cn + i by rw [cntS_succ G1.out, HCN.out]; dsimp only; rw [HSS.out.len]]
            exact h8, by
            rw [show cntS (os.take (k + 1)) = cn + i by rw [cntS_succ G1.out, HCN.out]; dsimp only; rw [HSS.out.len]]
            exact HDX.out⟩
          case measure => simp [intOf] <;> omega
    · have hd1 : decide ((k : Int) < (n : Int)) = false := by simp; omega
      have hd0 : decide (k < n) = false := by simp; omega
      obtain rfl : k = n := by omega
      have r0 := cell_blk hLY.b0 0
      have r1 := cell_blk hLY.b0 1
      have r2 := cell_blk hLY.b0 2
      have f0 := free_blk hLY.b0 0
      have f1 := free_blk hLY.b0 1
      have f2 := free_blk hLY.b0 2
      have l0 := cell_blk hLY.b1 0
      have l1 := cell_blk hLY.b1 1
      have l2 := cell_blk hLY.b1 2
      simp at r0 r1 r2 l0 l1 l2
      have hR0 : w.heap.size < wo.heap.size := by omega
      obtain ⟨s0, s1, s2⟩ := set3 wo w.heap.size _ _ _ (.slice A k c) (.slice Av (k + 1) cv) (.map (some (w.heap.size + 1 + 1))) r0 r1 r2
      have S0 := hide s0
      have S1 := hide s1
      have S2 := hide s2
      clear hLY s0 s1 s2
      go_wp2_with fail
      have s0 := S0.out
      have s1 := S1.out
      have s2 := S2.out
      have hfin := HLY.out.fin (.slice A k c) (.slice Av (k + 1) cv) (.map (some (w.heap.size + 1 + 1)))
      have hcnt : cn = T.length := by rw [← HCN.out, HTL.out, List.take_of_length_le (by have := HL.out; omega)]
      have hTT : T.take cn = T := by rw [hcnt]; exact List.take_length
      have hsl : (startsL os (k + 1)).length = k + 1 := by simp [startsL]
      have hdd : dupB [] (namesF os) = false := by
        have := HD.out
        unfold DupS at this
        rw [hcnt, List.drop_length] at this
        unfold namesF
        rw [HT.out, this]
        rfl
      rw [hTT, hsl] at hfin
      refine bodyPost_ret (v := .tuple #[.agg #[.slice A k c, .slice Av (k + 1) cv, .map (some (w.heap.size + 1 + 1))], .int .i64 0]) (by simp [results, Try.results82, go_sem, s0, s1, s2]) rfl ?_
      refine LayPost.ok ?_ hdd hfin.1 (by rw [HT.out]; exact hfin.2)
      exact ((Q.set hq0 (Nat.le_refl _) _).set (Nat.le_refl _) _).set (Nat.le_refl _) _
end Go.Proofs.Ytiilkiggfjpibaa

namespace Go.Proofs.Ytiilkiggfjpibaa
open Go.RowKit LK
set_option linter.unusedVariables false
set_option linter.unusedSimpArgs false
def firstErrO : List OV → Nat
  | [] => 0
  | o :: r => if o.valid = 0 then firstErrO r else o.valid
def listedO (os : List OV) : Nat := if 8 < os.length then 3 else if firstErrO os ≠ 0 then firstErrO os else if dupB [] (namesF os) = true then 5 else 0
theorem firstErr_at : ∀ (os : List OV) (k : Nat) (o : OV), os[k]? = some o → o.valid ≠ 0 → (∀ j p, j < k → os[j]? = some p → p.valid = 0) → firstErrO os = o.valid
  | [], k, o, h, _, _ => by simp at h
  | p :: r, 0, o, h, hv, _ => by
    simp at h
    subst h
    rw [firstErrO, if_neg hv]
  | p :: r, k + 1, o, h, hv, hp => by
    rw [firstErrO, if_pos (hp 0 p (by omega) rfl)]
    exact firstErr_at r k o (by simpa using h) hv (fun j q hj hq => hp (j + 1) q (by omega) (by simpa using hq))
theorem firstErr_none : ∀ os : List OV, (∀ o ∈ os, o.valid = 0) → firstErrO os = 0
  | [], _ => rfl
  | p :: r, h => by rw [firstErrO, if_pos (h p (by simp)), firstErr_none r (fun o ho => h o (by simp [ho]))]
theorem listed_big {os : List OV} (h : 8 < os.length) : listedO os = 3 := by unfold listedO; rw [if_pos h]
theorem listed_err {os : List OV} (h : ¬ 8 < os.length) {e : Nat} (h1 : firstErrO os = e) (h2 : e ≠ 0) : listedO os = e := by unfold listedO; rw [if_neg h, h1, if_pos h2]
theorem listed_dup {os : List OV} (h : ¬ 8 < os.length) (h1 : firstErrO os = 0) (h2 : dupB [] (namesF os) = true) : listedO os = 5 := by unfold listedO; rw [if_neg h, if_neg (by omega), if_pos h2]
theorem listed_ok {os : List OV} (h : ¬ 8 < os.length) (h1 : firstErrO os = 0) (h2 : dupB [] (namesF os) = false) : listedO os = 0 := by unfold listedO; rw [if_neg h, if_neg (by omega), if_neg (by simp [h2])]
theorem valid_le (o : OV) : o.valid ≤ 5 := by
  unfold OV.valid validF
  split
  · omega
  · split
    · omega
    · split <;> omega
theorem own_base {w : World} {B B' : Nat} {e : TypeId} {size : Nat} {v : Value} {n : Nat} {xs : List Value} (h : w.ownsRow B e size v n xs) (hb : B' ≤ B) : w.ownsRow B' e size v n xs := by
  refine ⟨h.1, ?_⟩
  rcases h.2 with h2 | ⟨g, cap, cur, h1, h2, h3⟩
  · exact .inl h2
  · exact .inr ⟨g, cap, cur, h1, Nat.le_trans hb h2, h3⟩
theorem set3_row {w : World} {R : Nat} {cs : Array Value} {ty : TypeId} (hb : w.heap[R]? = some (.cells cs ty (0, 0))) (v0 v1 v2 : Value) :
    (∀ {B e s n : Nat} {v : Value} {xs : List Value}, w.ownsRow B e s v n xs → R < B → (((w.setCell ⟨R, 0, none⟩ v0).setCell ⟨R, 1, none⟩ v1).setCell ⟨R, 2, none⟩ v2).ownsRow B e s v n xs) ∧
    (∀ {mb : Nat} {t : List (ByteArray × Int × Int)}, MpR w mb t → MpR (((w.setCell ⟨R, 0, none⟩ v0).setCell ⟨R, 1, none⟩ v1).setCell ⟨R, 2, none⟩ v2) mb t) := by
  have hg : w.grownBy (((w.setCell ⟨R, 0, none⟩ v0).setCell ⟨R, 1, none⟩ v1).setCell ⟨R, 2, none⟩ v2) (some R) := (grown_cell.trans grown_cell).trans grown_cell
  refine ⟨fun {B e s n v xs} h hB => h.kept hg ?_, fun {mb t} h => h.kept hg ?_⟩
  · cases hv : v.ownBlock with
    | none => exact .inl rfl
    | some g => exact .inr (fun e => by have h1 := (h.lt g hv).1; have h2 := Option.some.inj e; omega)
  · intro e
    obtain ⟨es, cl, hmb⟩ := h.blk
    cases e
    rw [hmb] at hb
    cases hb
def OpenPost (w : World) (A : Option Addr) (n c : Nat) (os : List OV) (e : Ending) (w' : World) : Prop :=
  Q w w' ∧ ((listedO os ≠ 0 ∧ e = .returned (.tuple #[.agg #[.slice none 0 0, .slice none 0 0, .map none], .int .i64 (listedO os : Nat)])) ∨
    (listedO os = 0 ∧ ∃ As cs mb, e = .returned (.tuple #[.agg #[.slice A n c, .slice As (n + 1) cs, .map (some mb)], .int .i64 0]) ∧ w'.ownsRow w.heap.size 3 1 (.slice As (n + 1) cs) (n + 1) ((startsL os (n + 1)).map (Value.int .i64)) ∧ MpR w' mb (tabF 0 0 os)))
theorem OpenPost.err {w w' : World} {A : Option Addr} {n c : Nat} {os : List OV} (hq : Q w w') {er : Nat} (h : listedO os = er) (h0 : er ≠ 0) : OpenPost w A n c os (.returned (.tuple #[.agg #[.slice none 0 0, .slice none 0 0, .map none], .int .i64 (er : Nat)])) w' := ⟨hq, .inl ⟨by omega, by rw [h]⟩⟩
theorem OpenPost.ok {w w' : World} {A : Option Addr} {n c : Nat} {os : List OV} {As : Option Addr} {cs mb : Nat} (hq : Q w w') (h : listedO os = 0) (ho : w'.ownsRow w.heap.size 3 1 (.slice As (n + 1) cs) (n + 1) ((startsL os (n + 1)).map (Value.int .i64))) (hm : MpR w' mb (tabF 0 0 os)) :
    OpenPost w A n c os (.returned (.tuple #[.agg #[.slice A n c, .slice As (n + 1) cs, .map (some mb)], .int .i64 0])) w' := ⟨hq, .inr ⟨h, As, cs, mb, rfl, ho, hm⟩⟩
set_option maxRecDepth 100000 in
set_option maxHeartbeats 8000000 in
theorem open_any (A : Option Addr) (n c : Nat) (os : List OV) (w : World) (hO : ObsR w A n c os) :
    Calls Try.prog 46 #[.slice A n c] w (OpenPost w A n c os) := by
  have hl := hO.sl.len
  obtain ⟨w1, hw1⟩ : ∃ w1, w.alloc (.cells #[.slice none 0 0, .slice none 0 0, .map none] 78) = w1 := ⟨_, rfl⟩
  have hq1 : Q w w1 := by rw [← hw1]; exact (Q.refl w).alloc _
  have hs1 : w.heap.size < w1.heap.size := by rw [← hw1]; simp
  have hb1 : w1.heap[w.heap.size]? = some (.cells #[.slice none 0 0, .slice none 0 0, .map none] 78 (0, 0)) := by rw [← hw1]; exact heap_alloc_new w _
  have HB1 := hide hb1
  have HW1 := hide hw1
  by_cases hb : 8 < n
  · have d0 : decide ((8 : Int) < (n : Int)) = true := by simp; omega
    have E := hide (listed_big (os := os) (by omega))
    clear hO hl hw1 hb1
    go_enter Try.func46, Try.ntmps46
    go_wp2_with fail
    refine bodyPost_ret (v := .tuple #[.agg #[.slice none 0 0, .slice none 0 0, .map none], .int .i64 3]) (by simp [results, Try.results46, go_sem]) rfl ?_
    exact OpenPost.err (er := 3) ((Q.refl w).alloc _) E.out (by decide)
  have d0 : decide ((8 : Int) < (n : Int)) = false := by simp; omega
  have hnb : ¬ 8 < os.length := by omega
  have HNB := hide hnb
  have HO := hide hO
  have HL := hide hl
  have hni : (n : Int) ≤ 8 := by omega
  clear hO hl hw1 hb1 hnb
  go_enter Try.func46, Try.ntmps46
  go_wp2_with fail
  rw [HW1.out]
  clear d0
  go_loopw [13] (fun vi wr => ∃ k : Nat, k ≤ n ∧ vi = .int .i64 k ∧ (∀ j o, j < k → os[j]? = some o → o.valid = 0) ∧ Q w1 wr) (fun vi _ => n - (intOf vi).toNat)
  case atStart => exact ⟨0, by omega, by go_num, fun j o hj => by omega, Q.refl _⟩
  case round =>
    obtain ⟨k, hk, rfl, hall, hq⟩ := hrel
    have HALL := hide hall
    have hsz := hq.size
    have hR0 : w.heap.size < wr.heap.size := by omega
    have hq0 := hq1.trans hq
    clear hall
    by_cases hlt : k < n
    · have hd1 : decide ((k : Int) < (n : Int)) = true := by simp; omega
      have hd0 : decide (k < n) = true := by simp; omega
      have hlti : (k : Int) < (n : Int) := by omega
      obtain ⟨b1, o1, ob, rfl, hbb, g1, x1, x2, x3, hob⟩ := (HO.out.up hq0).at_ k hlt
      obtain ⟨⟨A0, n0, c0, bs⟩, ⟨A1, n1, c1, ss⟩, ⟨A2, n2, c2, ws⟩⟩ := ob
      dsimp only at x1 x2 x3
      have hqa : Q wr (wr.alloc (.cells #[.slice A0 n0 c0, .slice A1 n1 c1, .slice A2 n2 c2] 34)) := (Q.refl wr).alloc _
      have hob2 := hob.up hqa
      have HV := hide (Validate_any A0 n0 c0 A1 n1 c1 ss A2 n2 c2 ws _ hob2.s hob2.t hob2.sok hob2.tok)
      have hvr : OV.valid (⟨A0, n0, c0, bs⟩, ⟨A1, n1, c1, ss⟩, ⟨A2, n2, c2, ws⟩) = validF n0 ss ws := rfl
      have hvle := valid_le (⟨A0, n0, c0, bs⟩, ⟨A1, n1, c1, ss⟩, ⟨A2, n2, c2, ws⟩)
      rw [hvr] at hvle
      obtain ⟨ve, hve⟩ : ∃ ve, validF n0 ss ws = ve := ⟨_, rfl⟩
      rw [hve] at HV hvr hvle
      have G1 := hide g1
      have HVR := hide hvr
      clear hob hob2 g1 hve hvr
      go_wp2_with fail
      refine HV.out.mono ?_
      rintro e w3 ⟨rfl, hq3⟩
      have hq13 := (hq.trans hqa).trans hq3
      have hq03 := hq1.trans hq13
      by_cases hz : ve = 0
      · subst hz
        clear x1 x2 x3 hq3 hqa
        go_wp2_with fail
        go_roundw
        case rel => exact ⟨k + 1, by omega, by go_num, fun j o hj ho => by
          by_cases e : j = k
          · subst e
            rw [G1.out] at ho
            cases ho
            exact HVR.out
          · exact HALL.out j o (by omega) ho, hq13⟩
        case measure => simp [intOf] <;> omega
      · have dz : ((ve : Int) != 0) = true := by simp; omega
        have hR3 : w.heap.size < w3.heap.size := by have := hq13.size; omega
        have hb3 := (hq13.below.block _ hs1).trans HB1.out
        have r0 := cell_blk hb3 0
        have r1 := cell_blk hb3 1
        have r2 := cell_blk hb3 2
        have f0 := free_blk hb3 0
        have f1 := free_blk hb3 1
        have f2 := free_blk hb3 2
        simp at r0 r1 r2
        obtain ⟨s0, s1, s2⟩ := set3 w3 w.heap.size _ _ _ (.slice none 0 0) (.slice none 0 0) (.map none) r0 r1 r2
        have S0 := hide s0
        have S1 := hide s1
        have S2 := hide s2
        have hfe := firstErr_at os k _ G1.out (by rw [HVR.out]; exact hz) HALL.out
        rw [HVR.out] at hfe
        have E := hide (listed_err HNB.out hfe hz)
        have HZ := hide hz
        clear s0 s1 s2 hfe hz hb3 x1 x2 x3 hq3 hqa
        go_wp2_with fail
        have s0 := S0.out
        have s1 := S1.out
        have s2 := S2.out
        refine bodyPost_ret (v := .tuple #[.agg #[.slice none 0 0, .slice none 0 0, .map none], .int .i64 (ve : Nat)]) (by simp [results, Try.results46, go_sem, s0, s1, s2]) rfl ?_
        refine OpenPost.err ?_ E.out HZ.out
        exact ((Q.set hq03 (Nat.le_refl _) _).set (Nat.le_refl _) _).set (Nat.le_refl _) _
    · have hd1 : decide ((k : Int) < (n : Int)) = false := by simp; omega
      have hd0 : decide (k < n) = false := by simp; omega
      obtain rfl : k = n := by omega
      have hval : ∀ o ∈ os, o.valid = 0 := fun o ho => by
        obtain ⟨j, hj, rfl⟩ := List.getElem_of_mem ho
        exact HALL.out j _ (by have := HL.out; omega) (List.getElem?_eq_getElem hj)
      have hfe := firstErr_none os hval
      have HFE := hide hfe
      have HLY := hide (lay_any A k c os wr (HO.out.up hq0) (by omega) hval)
      clear hval hfe
      go_wp2_with fail
      refine HLY.out.mono ?_
      rintro e w5 ⟨hq5, hcase⟩
      have hq15 := hq.trans hq5
      have hq05 := hq1.trans hq15
      have hR5 : w.heap.size < w5.heap.size := by have := hq15.size; omega
      have hb5 := (hq15.below.block _ hs1).trans HB1.out
      have r0 := cell_blk hb5 0
      have r1 := cell_blk hb5 1
      have r2 := cell_blk hb5 2
      have f0 := free_blk hb5 0
      have f1 := free_blk hb5 1
      have f2 := free_blk hb5 2
      simp at r0 r1 r2
      have HB5 := hide hb5
      rcases hcase with ⟨hdup, rfl⟩ | ⟨hdup, vs, mb, rfl, hown, hmp⟩
      · obtain ⟨s0, s1, s2⟩ := set3 w5 w.heap.size _ _ _ (.slice none 0 0) (.slice none 0 0) (.map none) r0 r1 r2
        have S0 := hide s0
        have S1 := hide s1
        have S2 := hide s2
        have E := hide (listed_dup HNB.out HFE.out hdup)
        clear s0 s1 s2 hdup hb5
        go_wp2_with fail
        have s0 := S0.out
        have s1 := S1.out
        have s2 := S2.out
        refine bodyPost_ret (v := .tuple #[.agg #[.slice none 0 0, .slice none 0 0, .map none], .int .i64 5]) (by simp [results, Try.results46, go_sem, s0, s1, s2]) rfl ?_
        refine OpenPost.err (er := 5) ?_ E.out (by decide)
        exact ((Q.set hq05 (Nat.le_refl _) _).set (Nat.le_refl _) _).set (Nat.le_refl _) _
      · obtain ⟨As, cs, hvs, _⟩ := own_form hown
        subst hvs
        obtain ⟨s0, s1, s2⟩ := set3 w5 w.heap.size _ _ _ (.slice A k c) (.slice As (k + 1) cs) (.map (some mb)) r0 r1 r2
        have S0 := hide s0
        have S1 := hide s1
        have S2 := hide s2
        have E := hide (listed_ok HNB.out HFE.out hdup)
        have HOW := hide hown
        have HMP := hide hmp
        clear s0 s1 s2 hdup hb5 hown hmp
        go_wp2_with fail
        have s0 := S0.out
        have s1 := S1.out
        have s2 := S2.out
        refine bodyPost_ret (v := .tuple #[.agg #[.slice A k c, .slice As (k + 1) cs, .map (some mb)], .int .i64 0]) (by simp [results, Try.results46, go_sem, s0, s1, s2]) rfl ?_
        have hrow := (set3_row HB5.out (.slice A k c) (.slice As (k + 1) cs) (.map (some mb))).1 HOW.out hR0
        refine OpenPost.ok ?_ E.out (own_base hrow (by omega)) ((set3_row HB5.out (.slice A k c) (.slice As (k + 1) cs) (.map (some mb))).2 HMP.out)
        exact ((Q.set hq05 (Nat.le_refl _) _).set (Nat.le_refl _) _).set (Nat.le_refl _) _
end Go.Proofs.Ytiilkiggfjpibaa

namespace Go.Proofs.Ytiilkiggfjpibaa
open Go.RowKit LK
set_option linter.unusedVariables false
set_option linter.unusedSimpArgs false
def IPost (w : World) (er : Nat) (xs : List Int) (e : Ending) (w' : World) : Prop := ∃ v, e = .returned (.tuple #[v, .int .i64 (er : Nat)]) ∧ w'.ownsRow w.heap.size 3 1 v xs.length (xs.map (Value.int .i64)) ∧ Q w w'
def startsR (os : List OV) : List Int := if listedO os = 0 then startsL os (os.length + 1) else []
def findR (os : List OV) (s : ByteArray) : Int × Bool := if listedO os = 0 then (match lookS (tabF 0 0 os) s with | some (_, b) => (b, true) | none => (0, false)) else (0, false)
def wantB (o : OV) (s : ByteArray) : Bool := o.2.2.xs.any fun x => x.2.2.toList == s.toList
def usersTo (os : List OV) (s : ByteArray) (k : Nat) : List Int := ((List.range k).filter fun j => match os[j]? with | some o => wantB o s | none => false).map Int.ofNat
def usersR (os : List OV) (s : ByteArray) : List Int := if listedO os = 0 then usersTo os s os.length else []
theorem usersTo_succ {os : List OV} {s : ByteArray} {k : Nat} {o : OV} (h : os[k]? = some o) : usersTo os s (k + 1) = if wantB o s = true then usersTo os s k ++ [(k : Int)] else usersTo os s k := by
  unfold usersTo
  rw [List.range_succ, List.filter_append, List.map_append]
  simp only [List.filter_cons, List.filter_nil, h]
  cases wantB o s <;> simp
theorem usersTo_len (os : List OV) (s : ByteArray) (k : Nat) : (usersTo os s k).length ≤ k := by
  unfold usersTo
  rw [List.length_map]
  exact Nat.le_trans (List.length_filter_le _ _) (by simp)
theorem listedO_le (os : List OV) : listedO os ≤ 5 := by
  have h : ∀ l : List OV, firstErrO l ≤ 5 := by
    intro l
    induction l with
    | nil => exact Nat.zero_le _
    | cons o r ih => unfold firstErrO; split
                     · exact ih
                     · exact valid_le o
  have := h os
  unfold listedO
  split
  · omega
  · split
    · exact this
    · split <;> omega
theorem Starts_any (A : Option Addr) (n c : Nat) (os : List OV) (w : World) (hO : ObsR w A n c os) : Calls Try.prog 11 #[.slice A n c] w (IPost w (listedO os) (startsR os)) := by
  have hl := hO.sl.len
  have HP := hide (open_any A n c os w hO)
  have HL := hide hl
  have hst : (startsL os (n + 1)).length = n + 1 := by simp [startsL]
  have HST := hide hst
  clear hO hl hst
  go_enter Try.func11, Try.ntmps11
  go_wp2_with fail
  refine HP.out.mono ?_
  rintro e w1 ⟨hq1, hcase⟩
  rcases hcase with ⟨hne, rfl⟩ | ⟨h0, As, cs, mb, rfl, hown, hmp⟩
  · have dz : ((listedO os : Int) != 0) = true := by simp; omega
    have E := hide (show startsR os = [] by unfold startsR; rw [if_neg hne])
    clear hne
    go_wp2_with fail
    go_ret2
    exact ⟨_, rfl, by rw [E.out]; exact World.ownsRow_nil _ _ _ _, hq1.alloc _⟩
  · have E := hide (show startsR os = startsL os (n + 1) by unfold startsR; rw [if_pos h0, HL.out])
    have E0 := hide h0
    have HOW := hide hown
    clear h0 hown hmp
    go_wp2_with fail
    go_ret2
    exact ⟨_, by rw [E0.out]; rfl, by rw [E.out, HST.out]; exact own_q HOW.out ((Q.refl w1).alloc _), hq1.alloc _⟩
theorem Find_any (A : Option Addr) (n c : Nat) (os : List OV) (s : ByteArray) (w : World) (hO : ObsR w A n c os) (hs : s.size ≤ 9223372036854775807) :
    Calls Try.prog 23 #[.slice A n c, .string s] w fun e w' => e = .returned (.tuple #[.int .i64 (findR os s).1, .bool (findR os s).2, .int .i64 (listedO os : Nat)]) ∧ Q w w' := by
  have HP := hide (open_any A n c os w hO)
  clear hO
  go_enter Try.func23, Try.ntmps23
  go_wp2_with fail
  refine HP.out.mono ?_
  rintro e w1 ⟨hq1, hcase⟩
  rcases hcase with ⟨hne, rfl⟩ | ⟨h0, As, cs, mb, rfl, hown, hmp⟩
  · have dz : ((listedO os : Int) != 0) = true := by simp; omega
    have E := hide (show findR os s = (0, false) by unfold findR; rw [if_neg hne])
    clear hne
    go_wp2_with fail
    go_ret3
    exact ⟨by rw [E.out]; rfl, hq1.alloc _⟩
  · have E0 := hide h0
    have HM := hide (hmp.up ((Q.refl w1).alloc (.cells #[.slice A n c, .slice As (n + 1) cs, .map (some mb)] 78)))
    cases hlk : lookS (tabF 0 0 os) s with
    | none =>
      have E := hide (show findR os s = (0, false) by unfold findR; rw [if_pos h0, hlk])
      have HK := hide hlk
      clear h0 hown hmp hlk
      go_wp2_with (at_lookup; refine wpList_lookN rfl _ _ rfl rfl HM.out s rfl hs HK.out ?_)
      go_ret3
      exact ⟨by rw [E.out, E0.out]; rfl, (hq1.alloc _).alloc _⟩
    | some ab =>
      obtain ⟨pa, pb⟩ := ab
      have E := hide (show findR os s = (pb, true) by unfold findR; rw [if_pos h0, hlk])
      have HK := hide hlk
      clear h0 hown hmp hlk
      go_wp2_with (at_lookup; refine wpList_lookF rfl _ _ rfl rfl HM.out s rfl hs HK.out ?_)
      go_ret3
      exact ⟨by rw [E.out, E0.out]; rfl, (hq1.alloc _).alloc _⟩
theorem wants_any (A0 : Option Addr) (n0 c0 : Nat) (v1 : Value) (A2 : Option Addr) (n2 c2 : Nat) (ws : List Wnt) (s : ByteArray) (w : World) (hT : Sl 3 encWnt w A2 n2 c2 ws) (hn : n2 ≤ 100000) :
    Calls Try.prog 64 #[.agg #[.slice A0 n0 c0, v1, .slice A2 n2 c2], .string s] w fun e w' => e = .returned (.bool (ws.any fun x => x.2.2.toList == s.toList)) ∧ Q w w' := by
  have hqa : Q w ((w.alloc (.cells #[.slice A0 n0 c0, v1, .slice A2 n2 c2] 34)).alloc (.cells #[.string s] 9)) := ((Q.refl w).alloc _).alloc _
  have HN := hide (has_wants (fun x => x.2.2.toList == s.toList) (.pointer (some ⟨w.heap.size + 1, 0, none⟩)) A2 n2 c2 ws _ (hT.up hqa) hn (fun at' kd' nm' hm W hqW => wantC (w.heap.size + 1) (at', kd', nm') s W (by have := hqW.size; simp at this; omega) (by rw [hqW.facts.1 _ _ (by simp)]; simp)))
  obtain ⟨b, hb⟩ : ∃ b, (ws.any fun x => x.2.2.toList == s.toList) = b := ⟨_, rfl⟩
  rw [hb] at HN ⊢
  clear hT hqa hb
  go_enter Try.func64, Try.ntmps64
  go_wp2_with fail
  refine HN.out.mono ?_
  rintro e w1 ⟨rfl, hq1⟩
  go_wp2_with fail
  go_ret
  exact ⟨rfl, (((Q.refl w).alloc _).alloc _).trans hq1⟩
set_option maxHeartbeats 2000000 in
theorem Users_any (A : Option Addr) (n c : Nat) (os : List OV) (s : ByteArray) (w : World) (hO : ObsR w A n c os) : Calls Try.prog 25 #[.slice A n c, .string s] w (IPost w (listedO os) (usersR os s)) := by
  have hl := hO.sl.len
  have HP := hide (open_any A n c os w hO)
  have HO := hide hO
  have HL := hide hl
  clear hO hl
  go_enter Try.func25, Try.ntmps25
  go_wp2_with fail
  refine HP.out.mono ?_
  rintro e w1 ⟨hq1, hcase⟩
  rcases hcase with ⟨hne, rfl⟩ | ⟨h0, As, cs, mb, rfl, hown, hmp⟩
  · have dz : ((listedO os : Int) != 0) = true := by simp; omega
    have E := hide (show usersR os s = [] by unfold usersR; rw [if_neg hne])
    clear hne
    go_wp2_with fail
    go_ret2
    exact ⟨_, rfl, by rw [E.out]; exact World.ownsRow_nil _ _ _ _, hq1.alloc _⟩
  · have hn8 : n ≤ 8 := by
      have h := h0
      unfold listedO at h
      split at h
      · cases h
      · have := HL.out; omega
    have hni : (n : Int) ≤ 8 := by omega
    have E := hide (show usersR os s = usersTo os s n by unfold usersR; rw [if_pos h0, HL.out])
    have E0 := hide h0
    have hqa := hq1.alloc (.cells #[.slice A n c, .slice As (n + 1) cs, .map (some mb)] 78)
    clear h0 hown hmp
    go_wp2_with fail
    go_loopw [8, 21] (fun v vi wr => ∃ k : Nat, k ≤ n ∧ vi = .int .i64 k ∧ wr.ownsRow w.heap.size 3 1 v (usersTo os s k).length ((usersTo os s k).map (Value.int .i64)) ∧ Q w wr) (fun _ vi _ => n - (intOf vi).toNat)
    case atStart => exact ⟨0, by omega, by go_num, World.ownsRow_nil _ _ _ _, hqa⟩
    case round =>
      obtain ⟨k, hk, rfl, hown, hq⟩ := hrel
      have hsz := hq.size
      have hul := usersTo_len os s k
      by_cases hlt : k < n
      · have hd1 : decide ((k : Int) < (n : Int)) = true := by simp; omega
        have hd0 : decide (k < n) = true := by simp; omega
        have hlti : (k : Int) < (n : Int) := by omega
        obtain ⟨b1, o1, ob, rfl, hbb, g1, x1, x2, x3, hob⟩ := (HO.out.up hq).at_ k hlt
        obtain ⟨⟨A0, n0, c0, bs⟩, ⟨A1, n1, c1, ss⟩, ⟨A2, n2, c2, ws⟩⟩ := ob
        dsimp only at x1 x2 x3
        have hv2 : n2 ≤ 16 := by
          have h := E0.out
          unfold listedO at h
          split at h
          · cases h
          · split at h
            · rename_i h1; exact absurd h h1
            · rename_i h1
              have h1 : firstErrO os = 0 := by omega
              have hv : OV.valid (⟨A0, n0, c0, bs⟩, ⟨A1, n1, c1, ss⟩, ⟨A2, n2, c2, ws⟩) = 0 := by
                have : ∀ l : List OV, firstErrO l = 0 → ∀ o ∈ l, o.valid = 0 := by
                  intro l
                  induction l with
                  | nil => intro _ o ho; cases ho
                  | cons p r ih =>
                    intro hf o ho
                    unfold firstErrO at hf
                    split at hf
                    · rename_i hp
                      rcases List.mem_cons.1 ho with rfl | ho
                      · exact hp
                      · exact ih hf o ho
                    · rename_i hp; exact absurd hf hp
                exact this os h1 _ (List.mem_of_getElem? g1)
              unfold OV.valid at hv
              by_cases hb : 512 < n0 ∨ 16 < ss.length ∨ 16 < ws.length
              · have := valid_big (n := n0) (ss := ss) (ws := ws) hb
                dsimp only at hv
                rw [this] at hv; cases hv
              · have := hob.t.len; dsimp only at this; omega
        have hqo : Q wr (wr.alloc (.cells #[.slice A0 n0 c0, .slice A1 n1 c1, .slice A2 n2 c2] 34)) := (Q.refl wr).alloc _
        have HW := hide (wants_any A0 n0 c0 (.slice A1 n1 c1) A2 n2 c2 ws s _ (hob.t.up hqo) (by omega))
        have hus := usersTo_succ (s := s) g1
        have HUS := hide hus
        obtain ⟨wb, hwb⟩ : ∃ wb, (ws.any fun x => x.2.2.toList == s.toList) = wb := ⟨_, rfl⟩
        have hwb2 : wantB (⟨A0, n0, c0, bs⟩, ⟨A1, n1, c1, ss⟩, ⟨A2, n2, c2, ws⟩) s = wb := hwb
        rw [hwb] at HW
        have HWB := hide hwb2
        clear hob hus hwb hwb2 g1
        go_wp2_with fail
        refine HW.out.mono ?_
        rintro e w3 ⟨rfl, hq3⟩
        have hown3 := own_q (own_q hown hqo) hq3
        have hq03 := (hq.trans hqo).trans hq3
        have hs3 := hq03.size
        clear hown hq3 hqo x1 x2 x3
        cases wb
        · go_wp2_with fail
          go_roundw
          case rel => exact ⟨k + 1, by omega, by go_num, by rw [HUS.out, HWB.out]; exact hown3, hq03⟩
          case measure => simp [intOf] <;> omega
        · go_wp2_with (at_builtin; refine wpList_app1 rfl El_int _ _ rfl rfl hown3 (by simp) rfl rfl ?_ ?_ ?_ ?_; (focus (simp [Value.oneCell'])); (focus omega); (focus omega); intro v7 w7 hown7 hb7)
          go_roundw
          case rel => exact ⟨k + 1, by omega, by go_num, by rw [HUS.out, HWB.out, if_pos rfl, List.length_append, List.map_append]; exact hown7, hq03.below.trans hb7⟩
          case measure => simp [intOf] <;> omega
      · have hd1 : decide ((k : Int) < (n : Int)) = false := by simp; omega
        have hd0 : decide (k < n) = false := by simp; omega
        obtain rfl : k = n := by omega
        have HOW := hide hown
        clear hown
        go_wp2_with fail
        go_ret2
        exact ⟨_, by rw [E0.out]; rfl, by rw [E.out]; exact HOW.out, hq⟩
end Go.Proofs.Ytiilkiggfjpibaa

namespace Go.Proofs.Ytiilkiggfjpibaa
open Go.RowKit LK
set_option linter.unusedVariables false
set_option linter.unusedSimpArgs false
def putW (st q : Int) (x : Wnt) (L : List Value) : List Value := putL ((if x.2.1 = 1 then q - (st + x.1) else q) % 4294967296).toNat (st + x.1).toNat 4 L
def wantsL (T : List (ByteArray × Int × Int)) (st : Int) : List Wnt → List Value → Option (List Value)
  | [], L => some L
  | x :: r, L => match lookS T x.2.2 with
    | none => none
    | some pq => wantsL T st r (putW st pq.2 x L)
def imgStep (T : List (ByteArray × Int × Int)) (a : Nat) (o : OV) (L : List Value) : Option (List Value) :=
  wantsL T (a : Nat) o.2.2.xs (L ++ o.1.xs.map (Value.int .u8) ++ List.replicate (room o.1.n - o.1.n) (.int .u8 0))
def imgF (T : List (ByteArray × Int × Int)) : Nat → List OV → List Value → Option (List Value)
  | _, [], L => some L
  | a, o :: r, L => match imgStep T a o L with
    | none => none
    | some L' => imgF T (a + room o.1.n) r L'
theorem putW_len (st q : Int) (x : Wnt) (L : List Value) : (putW st q x L).length = L.length := putL_len _ _ _ _
theorem wantsL_none {T : List (ByteArray × Int × Int)} {st : Int} {ws : List Wnt} {j : Nat} {x : Wnt} {L : List Value} (h : ws[j]? = some x) (hn : lookS T x.2.2 = none) : wantsL T st (ws.drop j) L = none := by
  obtain ⟨hj, e⟩ := List.getElem?_eq_some_iff.1 h
  rw [List.drop_eq_getElem_cons hj, e]
  simp only [wantsL, hn]
theorem wantsL_some {T : List (ByteArray × Int × Int)} {st : Int} {ws : List Wnt} {j : Nat} {x : Wnt} {L : List Value} {p q : Int} (h : ws[j]? = some x) (hn : lookS T x.2.2 = some (p, q)) : wantsL T st (ws.drop j) L = wantsL T st (ws.drop (j + 1)) (putW st q x L) := by
  obtain ⟨hj, e⟩ := List.getElem?_eq_some_iff.1 h
  rw [List.drop_eq_getElem_cons hj, e]
  simp only [wantsL, hn]
theorem imgF_none {T : List (ByteArray × Int × Int)} {a : Nat} {os : List OV} {k : Nat} {o : OV} {L : List Value} (h : os[k]? = some o) (hn : imgStep T a o L = none) : imgF T a (os.drop k) L = none := by
  obtain ⟨hj, e⟩ := List.getElem?_eq_some_iff.1 h
  rw [List.drop_eq_getElem_cons hj, e]
  simp only [imgF, hn]
theorem imgF_some {T : List (ByteArray × Int × Int)} {a : Nat} {os : List OV} {k : Nat} {o : OV} {L L' : List Value} (h : os[k]? = some o) (hn : imgStep T a o L = some L') : imgF T a (os.drop k) L = imgF T (a + room o.1.n) (os.drop (k + 1)) L' := by
  obtain ⟨hj, e⟩ := List.getElem?_eq_some_iff.1 h
  rw [List.drop_eq_getElem_cons hj, e]
  simp only [imgF, hn]
theorem El_u8 : El Try.prog 30 5 1 1 := El.of Try.underlying30 (show (Try.prog.info? 5).map (fun i => (i.zero, i.size, i.bytes)) = some (some (.int .u8 0), 1, 1) by kernel_rfl) rfl (by decide) (by decide)
/-- the elements of another slice; nothing but the row's block turns -/
theorem wpList_appsg {P : Program} {t e size bytes : Nat} {w : World} {base : Nat} {ops : Array Oper} {rest : List Oper} {o : Oper} {a : Act} {Q' : Exit → Act → World → Prop} {v : Value} {n : Nat} {xs : List Value}
    (hgd : o.guard = none) (E : El P t e size bytes) (s x : Operand) (ho : o.op = .call { callee := .builtin .append, args := #[s, x], argTypes := #[t, t] })
    (hs : a.eval s = v) (hown : w.ownsRow base e size v n xs) {A : Option Addr} {m c B : Nat} {news : List Value} (hx : a.eval x = .slice A m c) (hA : A = none → m = 0 ∧ c = 0) (hl : news.length = m * size) (hr : Rd w B A news) (h1 : ∀ u ∈ news, u.oneCell' = true)
    (hb : (n + m) * bytes ≤ 140737488355328) (hbase : base ≤ w.heap.size)
    (h : ∀ v' w', w'.ownsRow base e size v' (n + m) (xs ++ news) → w.grownBy w' v.ownBlock → wpList P ops Q' rest (a.put o.dst v') w') : wpList P ops Q' (o :: rest) a w := by
  obtain ⟨i, z, hi, hz, hsz, hby, hzs⟩ := E.inf
  rcases A with _ | ad
  · obtain ⟨rfl, rfl⟩ := hA rfl
    have : news = [] := List.eq_nil_of_length_eq_zero (by simpa using hl)
    subst this
    refine wpList_append_own_none hgd s x t ho base e i size E.und hi v n xs hs hown hx (h v w (by simpa using hown) (grown_refl _ _))
  · have hle : n + m ≤ (n + m) * bytes := Nat.le_mul_of_pos_right _ E.bpos
    refine wpList_append_own _ hgd s x t ho base e i z size bytes E.und hi hz hsz hby hzs E.pos v n xs hs hown ad m c news hx hl (fun j u hu => ?_) h1 (by simp only [maxLen]; omega) hb hbase (fun v' w' h2 h3 _ => h v' w' h2 h3)
    rcases hr with rfl | ⟨b, o, h2, _, h3⟩
    · simp at hu
    · obtain rfl := Option.some.inj h2
      rw [addr_add]
      exact h3 j u hu
/-- a row's growth leaves what stands below its base -/
theorem q_grown {w0 w w' : World} {row : Option Nat} (hq : Q w0 w) (hg : w.grownBy w' row) (hr : ∀ k, row = some k → w0.heap.size ≤ k) : Q w0 w' := by
  have hs := hq.size
  exact q_below (B := w0.heap.size) hq ⟨hg.os, hg.tape, hg.output, hg.size, fun i hi => hg.block i (by omega) (fun e => by have := hr i e.symm; omega)⟩ (Nat.le_refl _)
def ImgPost (w : World) (R : Option (List Value)) (e : Ending) (w' : World) : Prop :=
  Q w w' ∧ ((R = none ∧ e = .returned (.tuple #[.slice none 0 0, .int .i64 4])) ∨ ∃ L v N, R = some L ∧ e = .returned (.tuple #[v, .int .i64 0]) ∧ w'.ownsRow w.heap.size 5 1 v N L)
end Go.Proofs.Ytiilkiggfjpibaa

namespace Go.Proofs.Ytiilkiggfjpibaa
open Go.RowKit LK
set_option linter.unusedVariables false
set_option linter.unusedSimpArgs false
theorem own_base2 {w : World} {B B' : Nat} {e : TypeId} {size : Nat} {v : Value} {n : Nat} {xs : List Value} (h : w.ownsRow B e size v n xs) (hb : B' ≤ B) : w.ownsRow B' e size v n xs := by
  refine ⟨h.1, ?_⟩
  rcases h.2 with h2 | ⟨g, cap, cur, h1, h2, h3⟩
  · exact .inl h2
  · exact .inr ⟨g, cap, cur, h1, Nat.le_trans hb h2, h3⟩
theorem wantsOk_mem {n : Nat} {x : Wnt} : ∀ {ws pre : List Wnt}, wantsOk n pre ws = true → x ∈ ws → wntOk n x = true
  | [], _, _, h => by cases h
  | y :: r, pre, h, hx => by
    simp only [wantsOk, Bool.and_eq_true] at h
    rcases List.mem_cons.1 hx with rfl | hx
    · exact h.1.1
    · exact wantsOk_mem h.2 hx
theorem enc8_flat : ∀ bs : List Int, List.flatMap (encI .u8) bs = bs.map (Value.int .u8)
  | [] => rfl
  | x :: r => by rw [List.flatMap_cons, enc8_flat r]; rfl
theorem cell_blkJ {w : World} {g j : Nat} {cs : Array Value} {ty : TypeId} {u : Value} (h : w.heap[g]? = some (.cells cs ty (0, 0))) (hu : cs[j]? = some u) : w.cell? ⟨g, j, none⟩ = some u := by
  rw [cell_of_row w g j cs ty (0, 0) h]
  exact hu
theorem blk_up {w : World} {g : Nat} {o x y : Obj} (h : w.heap[g]? = some o) : (((w.alloc x).alloc y).drew).heap[g]? = some o := by
  have hl := (Array.getElem?_eq_some_iff.1 h).1
  have e1 : ((w.alloc x).alloc y).heap[g]? = (w.alloc x).heap[g]? := heap_alloc_old _ _ (by simp; omega)
  have e2 : (w.alloc x).heap[g]? = w.heap[g]? := heap_alloc_old _ _ hl
  exact e1.trans (e2.trans h)
set_option maxRecDepth 100000 in
set_option maxHeartbeats 8000000 in
theorem image_any (A : Option Addr) (n c : Nat) (os : List OV) (As : Option Addr) (cs mb : Nat) (w : World) (hO : ObsR w A n c os) (hn : n ≤ 8) (hv : ∀ o ∈ os, o.valid = 0) (hS : Rd w w.heap.size As ((startsL os (n + 1)).map (Value.int .i64))) (hcs : n + 1 ≤ cs) (hM : MpR w mb (tabF 0 0 os)) :
    Calls Try.prog 47 #[.agg #[.slice A n c, .slice As (n + 1) cs, .map (some mb)]] w (ImgPost w (imgF (tabF 0 0 os) 0 os [])) := by
  have hl := hO.sl.len
  have HO := hide hO
  have HV := hide hv
  have HL := hide hl
  have hni : (n : Int) ≤ 8 := by omega
  have HOFF := hide (fun k => offF_le (os := os) (fun o ho => (valid_parts (hO.all o ho).s.len (hv o ho)).1) k)
  obtain ⟨T, hT⟩ : ∃ T, tabF 0 0 os = T := ⟨_, rfl⟩
  rw [hT] at hM ⊢
  obtain ⟨R, hR⟩ : ∃ R, imgF T 0 os [] = R := ⟨_, rfl⟩
  rw [hR]
  have HRR := hide hR
  have HM := hide hM
  have HS := hide hS
  obtain ⟨w1, hw1⟩ : ∃ w1, w.alloc (.cells #[.slice A n c, .slice As (n + 1) cs, .map (some mb)] 78) = w1 := ⟨_, rfl⟩
  have hq1 : Q w w1 := by rw [← hw1]; exact (Q.refl w).alloc _
  have hs1 : w.heap.size < w1.heap.size := by rw [← hw1]; simp
  have hb1 : w1.heap[w.heap.size]? = some (.cells #[.slice A n c, .slice As (n + 1) cs, .map (some mb)] 78 (0, 0)) := by rw [← hw1]; exact heap_alloc_new w _
  have HB1 := hide hb1
  have HQ1 := hide hq1
  have HW1 := hide hw1
  clear hO hv hl hT hR hM hS hw1 hb1
  go_enter Try.func47, Try.ntmps47
  go_wp2_with fail
  rw [HW1.out]
  go_loopw [4, 16] (fun v4 vi wr => ∃ (k : Nat) (L : List Value), k ≤ n ∧ vi = .int .i64 k ∧ R = imgF T (offF (os.take k)) (os.drop k) L ∧ Q w1 wr ∧ wr.ownsRow w1.heap.size 5 1 v4 (offF (os.take k)) L) (fun _ vi _ => n - (intOf vi).toNat)
  case atStart => exact ⟨0, [], by omega, by go_num, HRR.out.symm, Q.refl _, World.ownsRow_nil _ _ _ _⟩
  case round =>
    obtain ⟨k, L, hk, rfl, hR, hq, hrow⟩ := hrel
    obtain ⟨wo, rfl⟩ : ∃ wo : World, wo = wr := ⟨_, rfl⟩
    have hofk := HOFF.out k
    have hwo : w1.heap.size ≤ wo.heap.size := hq.size
    obtain ⟨ofk, hofe⟩ : ∃ ofk, offF (os.take k) = ofk := ⟨_, rfl⟩
    rw [hofe] at hR hrow hofk
    have hLl : L.length = ofk := by rw [hrow.1, Nat.mul_one]
    obtain ⟨Av, cv, hvs, hcv0, hcv, _⟩ := own_form hrow
    subst hvs
    unfold maxLen at hcv
    have HOE := hide hofe
    have HLL := hide hLl
    have HR := hide hR
    have HQ := hide hq
    have HRow := hide hrow
    have HW := hide (HQ1.out.trans hq)
    clear hR hofe hLl
    by_cases hlt : k < n
    · have hd1 : decide ((k : Int) < (n : Int)) = true := by simp; omega
      have hd0 : decide (k < n) = true := by simp; omega
      have hlti : (k : Int) < (n : Int) := by omega
      obtain ⟨b1, o1, ob, rfl, hb1, g1, x1, x2, x3, hob⟩ := (HO.out.up HW.out).at_ k hlt
      obtain ⟨⟨A0, n0, c0, bs⟩, ⟨A1, n1, c1, ss⟩, ⟨A2, n2, c2, ws⟩⟩ := ob
      have hval := HV.out _ (List.mem_of_getElem? g1)
      obtain ⟨v0, v1, v2⟩ := valid_parts hob.s.len hval
      have hb8 := hob.b
      have hbn := hob.bn
      have hsT := hob.t
      dsimp only at x1 x2 x3 v0 v1 v2 hb8 hbn hsT
      have hn0i : (n0 : Int) ≤ 512 := by omega
      have G1 := hide g1
      have HB8 := hide hb8
      have HBN := hide hbn
      have HT := hide hsT
      have HVAL := hide hval
      obtain ⟨rm, hrm⟩ : ∃ rm, room n0 = rm := ⟨_, rfl⟩
      have hrb : n0 + 8 ≤ rm ∧ rm ≤ 544 := by rw [← hrm]; unfold room; omega
      have hrbi : (n0 : Int) + 8 ≤ (rm : Int) := by omega
      obtain ⟨s0, s1, rfl, s3, s4, s5⟩ : ∃ b o, As = some ⟨b, o, none⟩ ∧ b < w.heap.size ∧ w.cell? ⟨b, o + k, none⟩ = some (.int .i64 (ofk : Nat)) ∧ w.cell? ⟨b, o + (k + 1), none⟩ = some (.int .i64 (ofk + rm : Nat)) := by
        obtain ⟨b, o, e, hb, hc⟩ := HS.out.at_ (by simp [startsL])
        have e1 := offF_succ G1.out
        rw [HOE.out] at e1
        dsimp only at e1
        rw [hrm] at e1
        refine ⟨b, o, e, hb, ?_, ?_⟩
        · rw [hc k (by simp [startsL]; omega)]
          simp [startsL, HOE.out]
        · rw [hc (k + 1) (by simp [startsL]; omega)]
          simp [startsL, e1]
      have S4 := hide s4
      have S5 := hide s5
      have HRM := hide hrm
      clear s4 s5 hrm
      obtain ⟨wa, hwa⟩ : ∃ wa, wo.alloc (.cells #[.slice A0 n0 c0, .slice A1 n1 c1, .slice A2 n2 c2] 34) = wa := ⟨_, rfl⟩
      have hqa : Q wo wa := by rw [← hwa]; exact (Q.refl wo).alloc _
      have hba : wa.heap[wo.heap.size]? = some (.cells #[.slice A0 n0 c0, .slice A1 n1 c1, .slice A2 n2 c2] 34 (0, 0)) := by rw [← hwa]; exact heap_alloc_new wo _
      have hra : wa.ownsRow w1.heap.size 5 1 (.slice Av ofk cv) ofk L := own_q hrow hqa
      have HBA := hide hba
      have HRA := hide hra
      have HQA := hide hqa
      have HWA := hide hwa
      clear hob hval g1 hwa hb8 hbn hsT hra hrow hq
      have HQB := hide (HQ.out.trans HQA.out)
      have hNI := enc8_flat bs
      have HNI := hide hNI
      have hbl := HB8.out.len
      have hsza := HQB.out.size
      have HSZ := hide (HWA.out ▸ (by simp : wo.heap.size < (wo.alloc (.cells #[.slice A0 n0 c0, .slice A1 n1 c1, .slice A2 n2 c2] 34)).heap.size))
      clear hNI
      go_wp2_with (at_builtin; first | (rw [HWA.out]; refine wpList_appsg rfl El_u8 _ _ rfl rfl HRA.out rfl HBN.out ?_ (HB8.out.up HQA.out).rd ?_ ?_ ?_ ?_; (focus (rw [HNI.out]; simp; omega)); (focus (intro u hu; rw [HNI.out] at hu; obtain ⟨x, _, rfl⟩ := List.mem_map.1 hu; rfl)); (focus omega); (focus omega); intro v5 w5 hown5 hg5; rw [HNI.out] at hown5; have hq5 := q_grown HQB.out hg5 (fun k e => (HRA.out.lt k e).1); have hb5 := (hq5.below.block _ hs1).trans HB1.out; have h65 := (hg5.block wo.heap.size HSZ.out (fun e => absurd (HRow.out.lt _ e.symm).2 (by omega))).trans HBA.out; have s55 := ((HQ1.out.trans hq5).facts.1 _ _ s3).trans S5.out; have hsz5 := hq5.size; have kb5 := cell_blkJ (j := 1) hb5 rfl; have k65 := cell_blkJ (j := 2) h65 rfl; have HB5 := hide hb5; have H65 := hide h65; have HR5 := hide hown5; have HQ5 := hide hq5; obtain ⟨A5, c5, e5, _, _, _⟩ := own_form hown5; subst e5) | (refine wpList_appz rfl _ _ rfl rfl Try.underlying30 Try.underlying3 (show (Try.prog.info? 5).map (fun i => (i.zero, i.size, i.bytes)) = some (some (.int .u8 0), 1, 1) by kernel_rfl) rfl rfl HR5.out rfl (rm - n0) ?_ ?_ ?_ ?_ ?_ ?_; (focus omega); (focus omega); (focus (unfold maxLen; omega)); (focus omega); (focus omega); intro v6 w6 hown6 hg6; have hq6 := q_grown HQ5.out hg6 (fun k e => (HR5.out.lt k e).1); have h66 : w6.heap[wo.heap.size]? = some (.cells #[.slice A0 n0 c0, .slice A1 n1 c1, .slice A2 n2 c2] 34 (0, 0)) := (hg6.block wo.heap.size (Array.getElem?_eq_some_iff.1 H65.out).1 (fun e => by obtain ⟨cs', hcs'⟩ := own_blk HR5.out e.symm; rw [H65.out] at hcs'; cases hcs')).trans H65.out; have k66 := cell_blkJ (j := 2) h66 rfl; have HQ6 := hide hq6; have H66 := hide h66; have HR6 := hide hown6))
      have hN : ofk + n0 + (rm - n0) = ofk + rm := by omega
      have hr6 := HR6.out
      rw [hN] at hr6
      obtain ⟨A6, c6, e6, hc60, hc6, _⟩ := own_form hr6
      subst e6
      unfold maxLen at hc6
      have HR6b := hide hr6
      have hobw : ObR w (⟨A0, n0, c0, bs⟩, ⟨A1, n1, c1, ss⟩, ⟨A2, n2, c2, ws⟩) := by
        obtain ⟨_, _, obw, _, _, gw, _, _, _, hobw⟩ := HO.out.at_ k hlt
        rw [G1.out] at gw
        cases gw
        exact hobw
      have HTW := hide hobw.t
      have HTOK := hide hobw.tok
      have htl := HT.out.len
      clear hobw hr6 HR6 hN
      go_loopw [39] (fun vi wx => ∃ (j : Nat) (Lj : List Value), j ≤ n2 ∧ vi = .int .i64 j ∧ imgStep T ofk (⟨A0, n0, c0, bs⟩, ⟨A1, n1, c1, ss⟩, ⟨A2, n2, c2, ws⟩) L = wantsL T (ofk : Nat) (ws.drop j) Lj ∧ Q w1 wx ∧ wx.heap[wo.heap.size]? = some (.cells #[.slice A0 n0 c0, .slice A1 n1 c1, .slice A2 n2 c2] 34 (0, 0)) ∧ wx.ownsRow w1.heap.size 5 1 (.slice A6 (ofk + rm) c6) (ofk + rm) Lj) (fun vi _ => n2 - (intOf vi).toNat)
      case atStart => exact ⟨0, _, by omega, by go_num, by unfold imgStep; dsimp only; rw [HRM.out]; rfl, HQ6.out, H66.out, HR6b.out⟩
      case round =>
        obtain ⟨j, Lj, hj, rfl, hst, hqx, h6x, hrx⟩ := hrel
        obtain ⟨wx, rfl⟩ : ∃ wx : World, wx = wr := ⟨_, rfl⟩
        have hbx := (hqx.below.block _ hs1).trans HB1.out
        have kx1 : wx.cell? ⟨w.heap.size, 1, none⟩ = some (.slice (some ⟨s0, s1, none⟩) (n + 1) cs) := cell_blkJ (j := 1) hbx rfl
        have kx2 : wx.cell? ⟨w.heap.size, 2, none⟩ = some (.map (some mb)) := cell_blkJ (j := 2) hbx rfl
        have hszx := hqx.size
        have hxw : w.heap.size < wx.heap.size := by omega
        have sx4 := ((HQ1.out.trans hqx).facts.1 _ _ (show s0 < w.heap.size from s3)).trans S4.out
        have HST := hide hst
        have HQX := hide hqx
        have H6X := hide h6x
        have HRX := hide hrx
        clear hst hqx h6x hrx hbx
        by_cases hjn : j < n2
        · have hd1 : decide ((j : Int) < (n2 : Int)) = true := by simp; omega
          have hd0 : decide (j < n2) = true := by simp; omega
          have hjni : (j : Int) < (n2 : Int) := by omega
          have hn2i : (n2 : Int) ≤ 9223372036854775807 := by have := HTW.out.cap; have := HTW.out.most; dsimp only at *; omega
          obtain ⟨b4, o4, at_, kd, nm, e4, hb4, g4, y1, y2, y3⟩ := (HTW.out.up (HQ1.out.trans HQX.out)).wnt j hjn
          dsimp only at e4 y1 y2 y3 g4
          subst e4
          have G4 := hide g4
          have hnm : nm.size ≤ 9223372036854775807 := by have := HTOK.out _ (List.mem_of_getElem? g4); dsimp only at this; omega
          have HM8 := hide ((HM.out.up (HQ1.out.trans HQX.out)).up ((Q.refl wx).alloc (.cells #[.int .i64 at_, .int .i64 kd, .string nm] 97)))
          clear g4
          cases hlk : lookS T nm with
          | none =>
            have E := hide (show R = none from HR.out.trans (imgF_none G1.out (HST.out.trans (wantsL_none G4.out hlk))))
            have HK := hide hlk
            clear hlk
            go_wp2_with (at_lookup; refine wpList_lookN rfl _ _ rfl rfl HM8.out nm rfl hnm HK.out ?_)
            go_ret2
            exact ⟨((HQ1.out.trans HQX.out).alloc _).alloc _, .inl ⟨E.out, rfl⟩⟩
          | some pq =>
            obtain ⟨p, q⟩ := pq
            have HK := hide hlk
            have hsound : soundB n0 ss ws = true := by
              have h := HVAL.out
              unfold OV.valid validF at h
              dsimp only at h
              cases hs : soundB n0 ss ws with
              | true => rfl
              | false => rw [hs] at h; split at h <;> simp at h
            simp only [soundB, Bool.and_eq_true] at hsound
            have hx := wantsOk_mem hsound.2 (List.mem_of_getElem? G4.out)
            unfold wntOk at hx
            simp only [Bool.and_eq_true, decide_eq_true_eq] at hx
            obtain ⟨⟨⟨⟨-, a0⟩, a1⟩, a2⟩, a3⟩ := hx
            obtain ⟨an, rfl⟩ : ∃ an : Nat, at_ = (an : Int) := ⟨at_.toNat, by omega⟩
            have ha4 : an + 4 ≤ n0 := by omega
            have hofi : (ofk : Int) ≤ 4352 := by omega
            have hs0x : s0 < wx.heap.size := by omega
            have hki1 : (k : Int) < ((n + 1 : Nat) : Int) := by omega
            have hki2 : k < n + 1 := by omega
            obtain ⟨g6, cc6, e6, hg6b, hg6l, -, -, -, -⟩ := own_at HRX.out (by omega)
            cases e6
            have E := hide (HST.out.trans (wantsL_some G4.out hlk))
            clear hlk hsound
            go_wp2_with (at_lookup; refine wpList_lookF rfl _ _ rfl rfl HM8.out nm rfl hnm HK.out ?_)
            obtain ⟨wy, hwy⟩ : ∃ wy, (wx.alloc (.cells #[.int .i64 an, .int .i64 kd, .string nm] 97)).alloc (.cells #[.int .i64 p, .int .i64 q] 106) = wy := ⟨_, rfl⟩
            rw [hwy]
            have hqy : Q wx wy := by rw [← hwy]; exact ((Q.refl wx).alloc _).alloc _
            have ya0 : wy.cell? ⟨wx.heap.size, 0, none⟩ = some (.int .i64 an) := by rw [← hwy]; exact cell_blkJ (j := 0) ((heap_alloc_old _ _ (by simp)).trans (heap_alloc_new wx _)) rfl
            have ya1 : wy.cell? ⟨wx.heap.size, 1, none⟩ = some (.int .i64 kd) := by rw [← hwy]; exact cell_blkJ (j := 1) ((heap_alloc_old _ _ (by simp)).trans (heap_alloc_new wx _)) rfl
            have yq1 : wy.cell? ⟨wx.heap.size + 1, 1, none⟩ = some (.int .i64 q) := by rw [← hwy]; exact cell_blkJ (j := 1) (by have := heap_alloc_new (wx.alloc (.cells #[.int .i64 an, .int .i64 kd, .string nm] 97)) (.cells #[.int .i64 p, .int .i64 q] 106); simpa using this) rfl
            have hsy : wy.heap.size = wx.heap.size + 2 := by rw [← hwy]; simp
            have hxy : wx.heap.size < wy.heap.size := by omega
            have hxy1 : wx.heap.size + 1 < wy.heap.size := by omega
            have hwy1 : w.heap.size < wy.heap.size := by omega
            have hs0y : s0 < wy.heap.size := by omega
            have sy4 : wy.cell? ⟨s0, s1 + k, none⟩ = some (.int .i64 (ofk : Nat)) := (hqy.facts.1 _ _ hs0x).trans sx4
            have ky1 : wy.cell? ⟨w.heap.size, 1, none⟩ = some (.slice (some ⟨s0, s1, none⟩) (n + 1) cs) := (hqy.facts.1 _ _ hxw).trans kx1
            clear hwy hsy
            have hxc := ext_cell
            refine wp_region_ext (by kernel_rfl) (by kernel_rfl) ?_
            repeat (go_big_quiet_step ((fail)))
            clear hxc
            refine wpQuiet_nil ?_
            intro w8 hww8
            have hqw8 := q_of_ext hww8
            clear hww8
            obtain ⟨hcw8, hfw8, hzw8⟩ := hqw8.facts
            try simp at hzw8
            try have hs0w8 : w.heap.size < w8.heap.size := by omega
            try have hs1w8 : w.heap.size + 1 < w8.heap.size := by omega
            have hq8 : Q wx w8 := hqy.trans hqw8
            have za1 : w8.cell? ⟨wx.heap.size, 1, none⟩ = some (.int .i64 kd) := (hcw8 _ _ hxy).trans ya1
            have zq1 : w8.cell? ⟨wx.heap.size + 1, 1, none⟩ = some (.int .i64 q) := (hcw8 _ _ hxy1).trans yq1
            clear hcw8 hfw8
            rcases (show kd = 0 ∨ kd = 1 by omega) with rfl | rfl
            · go_wp2_with fail
              obtain ⟨v, hv⟩ : ∃ v : Nat, q % 4294967296 = (v : Int) := ⟨(q % 4294967296).toNat, by omega⟩
              rw [hv]
              refine (put_any g6 (ofk + an) _ (ofk + rm) c6 w1.heap.size v Lj _ (by omega) (by omega) (own_q HRX.out hq8) (by omega)).mono ?_
              rintro e w9 ⟨rfl, hg9, hown9⟩
              have hq9 : Q w1 w9 := q_grown (HQX.out.trans hq8) hg9 (fun k' e => by cases e; exact hg6b)
              have h69 : w9.heap[wo.heap.size]? = some (.cells #[.slice A0 n0 c0, .slice A1 n1 c1, .slice (some ⟨b4, o4, none⟩) n2 c2] 34 (0, 0)) := by
                have hb8 := (hq8.below.block wo.heap.size (Array.getElem?_eq_some_iff.1 H6X.out).1).trans H6X.out
                exact (hg9.block wo.heap.size (Array.getElem?_eq_some_iff.1 hb8).1 (fun e => by obtain ⟨cs', hcs'⟩ := own_blk HRX.out e.symm; rw [H6X.out] at hcs'; cases hcs')).trans hb8
              have hpw : putW (ofk : Nat) q ((an : Int), 0, nm) Lj = putL v (ofk + an) 4 Lj := by
                unfold putW
                dsimp only
                rw [if_neg (by decide), hv]
                rfl
              rw [← hpw] at hown9
              clear hpw hv
              clear a0 a1 a2 a3 ha4 hki1 hki2
              go_wp2_with fail
              go_roundw
              case rel => exact ⟨j + 1, _, by omega, by go_num, E.out, hq9, h69, hown9⟩
              case measure =>
                simp [intOf]
                first | omega | (rw [wrap64_in _ (by omega)]; omega)
            · go_wp2_with fail
              obtain ⟨v, hv0⟩ : ∃ v : Nat, wrap64 (q - ((ofk : Int) + (an : Int))) % 4294967296 = (v : Int) := ⟨(wrap64 (q - ((ofk : Int) + (an : Int))) % 4294967296).toNat, by omega⟩
              have hv : (q - ((ofk : Int) + (an : Int))) % 4294967296 = (v : Int) := by have h := hv0; unfold wrap64 at h; omega
              rw [hv0]
              refine (put_any g6 (ofk + an) _ (ofk + rm) c6 w1.heap.size v Lj _ (by omega) (by omega) (own_q HRX.out hq8) (by omega)).mono ?_
              rintro e w9 ⟨rfl, hg9, hown9⟩
              have hq9 : Q w1 w9 := q_grown (HQX.out.trans hq8) hg9 (fun k' e => by cases e; exact hg6b)
              have h69 : w9.heap[wo.heap.size]? = some (.cells #[.slice A0 n0 c0, .slice A1 n1 c1, .slice (some ⟨b4, o4, none⟩) n2 c2] 34 (0, 0)) := by
                have hb8 := (hq8.below.block wo.heap.size (Array.getElem?_eq_some_iff.1 H6X.out).1).trans H6X.out
                exact (hg9.block wo.heap.size (Array.getElem?_eq_some_iff.1 hb8).1 (fun e => by obtain ⟨cs', hcs'⟩ := own_blk HRX.out e.symm; rw [H6X.out] at hcs'; cases hcs')).trans hb8
              have hpw : putW (ofk : Nat) q ((an : Int), 1, nm) Lj = putL v (ofk + an) 4 Lj := by
                unfold putW
                dsimp only
                rw [if_pos rfl, hv]
                rfl
              rw [← hpw] at hown9
              clear hpw hv hv0
              clear a0 a1 a2 a3 ha4 hki1 hki2
              go_wp2_with fail
              go_roundw
              case rel => exact ⟨j + 1, _, by omega, by go_num, E.out, hq9, h69, hown9⟩
              case measure =>
                simp [intOf]
                first | omega | (rw [wrap64_in _ (by omega)]; omega)
        · have hd1 : decide ((j : Int) < (n2 : Int)) = false := by simp; omega
          have hd0 : decide (j < n2) = false := by simp; omega
          obtain rfl : j = n2 := by omega
          have hL : imgStep T ofk (⟨A0, n0, c0, bs⟩, ⟨A1, n1, c1, ss⟩, ⟨A2, j, c2, ws⟩) L = some Lj := by rw [HST.out, List.drop_eq_nil_of_le (by omega)]; rfl
          have HLJ := hide hL
          clear hL
          go_wp2_with fail
          go_roundw
          case rel => exact ⟨k + 1, Lj, by omega, by go_num, by have e1 := offF_succ G1.out; rw [HOE.out] at e1; rw [e1, HR.out]; exact imgF_some G1.out HLJ.out, HQX.out, by have e1 := offF_succ G1.out; rw [HOE.out] at e1; rw [e1]; dsimp only; rw [HRM.out]; exact HRX.out⟩
          case measure => simp [intOf] <;> omega
    · have hd1 : decide ((k : Int) < (n : Int)) = false := by simp; omega
      have hd0 : decide (k < n) = false := by simp; omega
      obtain rfl : k = n := by omega
      have E := hide (show R = some L by rw [HR.out, List.drop_eq_nil_of_le (by rw [HL.out]; exact Nat.le_refl _)]; rfl)
      go_wp2_with fail
      go_ret2
      exact ⟨HW.out, .inr ⟨L, _, _, E.out, rfl, own_base2 HRow.out (HQ1.out.size)⟩⟩
end Go.Proofs.Ytiilkiggfjpibaa

namespace Go.Proofs.Ytiilkiggfjpibaa
open Go.RowKit LK
set_option linter.unusedVariables false
set_option linter.unusedSimpArgs false
theorem firstErr_zero2 : ∀ {os : List OV}, firstErrO os = 0 → ∀ o ∈ os, o.valid = 0
  | [], _, _, ho => by cases ho
  | p :: r, h, o, ho => by
    unfold firstErrO at h
    split at h
    · rename_i hp
      rcases List.mem_cons.1 ho with rfl | ho
      · exact hp
      · exact firstErr_zero2 h o ho
    · rename_i hp
      exact absurd h hp
theorem listed_zero2 {os : List OV} (h : listedO os = 0) : os.length ≤ 8 ∧ ∀ o ∈ os, o.valid = 0 := by
  unfold listedO at h
  split at h
  · omega
  · rename_i h8
    split at h
    · rename_i h1; exact absurd h h1
    · rename_i h1
      exact ⟨by omega, firstErr_zero2 (by omega)⟩
def imgR (os : List OV) : Option (List Value) := imgF (tabF 0 0 os) 0 os []
def ImageP (w : World) (os : List OV) (e : Ending) (w' : World) : Prop :=
  Q w w' ∧ ((listedO os ≠ 0 ∧ e = .returned (.tuple #[.slice none 0 0, .int .i64 (listedO os : Nat)])) ∨ (listedO os = 0 ∧ ((imgR os = none ∧ e = .returned (.tuple #[.slice none 0 0, .int .i64 4])) ∨ ∃ L v N, imgR os = some L ∧ e = .returned (.tuple #[v, .int .i64 0]) ∧ w'.ownsRow w.heap.size 5 1 v N L)))
set_option maxRecDepth 100000 in
set_option maxHeartbeats 4000000 in
theorem Image_any (A : Option Addr) (n c : Nat) (os : List OV) (w : World) (hO : ObsR w A n c os) : Calls Try.prog 14 #[.slice A n c] w (ImageP w os) := by
  have hl := hO.sl.len
  have HP := hide (open_any A n c os w hO)
  have HL := hide hl
  have HO := hide hO
  clear hO hl
  go_enter Try.func14, Try.ntmps14
  go_wp2_with fail
  refine HP.out.mono ?_
  rintro e w1 ⟨hq1, hcase⟩
  rcases hcase with ⟨hne, rfl⟩ | ⟨h0, As, cs, mb, rfl, hown, hmp⟩
  · have dz : ((listedO os : Int) != 0) = true := by simp; omega
    have HNE := hide hne
    clear hne
    go_wp2_with fail
    go_ret2
    exact ⟨hq1.alloc _, .inl ⟨HNE.out, rfl⟩⟩
  · obtain ⟨As', cs', e', h1, hc, _, hr⟩ := own_form hown
    cases e'
    have dz : ((listedO os : Int) != 0) = false := by rw [h0]; rfl
    obtain ⟨w2, hw2⟩ : ∃ w2, w1.alloc (.cells #[.slice A n c, .slice As (n + 1) cs, .map (some mb)] 78) = w2 := ⟨_, rfl⟩
    have hq2 : Q w1 w2 := by rw [← hw2]; exact (Q.refl w1).alloc _
    obtain ⟨h8, hv⟩ := listed_zero2 h0
    have HI := hide (image_any A n c os As cs mb w2 ((HO.out.up hq1).up hq2) (by have := HL.out; omega) hv (hr.up hq2) h1 (hmp.up hq2))
    have hb2 : w2.heap[w1.heap.size]? = some (.cells #[.slice A n c, .slice As (n + 1) cs, .map (some mb)] 78 (0, 0)) := by rw [← hw2]; exact heap_alloc_new w1 _
    have k0 : w2.cell? ⟨w1.heap.size, 0, none⟩ = some (.slice A n c) := cell_blkJ (j := 0) hb2 rfl
    have k1 : w2.cell? ⟨w1.heap.size, 1, none⟩ = some (.slice As (n + 1) cs) := cell_blkJ (j := 1) hb2 rfl
    have k2 : w2.cell? ⟨w1.heap.size, 2, none⟩ = some (.map (some mb)) := cell_blkJ (j := 2) hb2 rfl
    have HW2 := hide hw2
    have H0 := hide h0
    have HQ2 := hide (hq1.trans hq2)
    clear hw2 hv h8 hown hmp hr hb2 h0
    go_wp2_with fail
    rw [HW2.out]
    go_wp2_with fail
    refine HI.out.mono ?_
    rintro e w3 ⟨hq3, hcase⟩
    rcases hcase with ⟨hnn, rfl⟩ | ⟨L, v, N, hsm, rfl, hown3⟩
    · have HN := hide hnn
      clear hnn
      go_wp2_with fail
      go_ret2
      exact ⟨HQ2.out.trans hq3, .inr ⟨H0.out, .inl ⟨HN.out, rfl⟩⟩⟩
    · have HN := hide hsm
      have H3 := hide (own_base2 hown3 HQ2.out.size)
      clear hsm hown3
      go_wp2_with fail
      go_ret2
      exact ⟨HQ2.out.trans hq3, .inr ⟨H0.out, .inr ⟨L, v, N, HN.out, rfl, H3.out⟩⟩⟩
end Go.Proofs.Ytiilkiggfjpibaa
