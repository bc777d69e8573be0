/- The relation 'everything that was there is as it was' between two worlds, and small words for walks. Slices that read as lists of cells: what such a reading gives to a walk, and what keeps it. Slices of bytes that read as lists of numbers below 256. Laws of append to a slice of the call's own, and of stores into one, in the form that my walks use. A law's arguments as they come in, told as a walk wants them: slices of numbers and of bytes. A law whose walk returns true and changes nothing that was there: the step from the walk to the row, over any program. Plain data that came in, opened by type: how a value of a type reads as data of Lean (numbers, texts, structs, slices of them, slices in structs). make of a slice of one-cell elements, at the operation. append to a slice of the call's own, as one step of a region that draws its order. append(s, make([]T, k)...) to a slice of the call's own, one-cell elements. A region that draws its order and whose operations make memory: one invariant, shown operation by operation, serves every order. Steps of a region that makes memory: moves, len, calls, slice literals. Data of a type that holds itself, opened: readers bounded by the datum's size. Cells that came in: how they lie, and when two are equal. Cells: their reader; Count, Same of both. Cells: Same of the program and of the reference. Cells: the reference's Same; bytes that are equal. Layouts of one number, and such a one that may be nothing: sizes. Conditions: as each theorem says. -/
import Derived.Below
import Derived.Deep.Draws
import Derived.WalkKit
import Derived.BigQuiet
import Derived.Laws.CopyOwn
import Derived.Laws.Rows
import Derived.Laws.ResultCell
import Derived.Laws.OwnMore
import Derived.Deep.Onto
import Derived.OwnWalk
import Derived.ProofKit
import Derived.Laws.IdiomStrings
import Derived.Lib.BufferRead
import Derived.Laws.AppendOwn
import Derived.Laws.AppendOwnNone
import Derived.ChangeSlices
import Derived.OpenShut
import Derived.SizedLaws
import Derived.WideShapes
import Derived.JoinedOf
import Derived.Carry
import Derived.ChangeSame
import Derived.KernelRfl
import Derived.Deep.Slices
import Derived.Deep.RegionLaw
import Derived.Lib.AppendZerosOnto
import Derived.Orders
import Derived.Laws.Tables
import Derived.Deep.AppendSrc
import Derived.Deep.Upon
import Derived.Great.BuildSlice
import Derived.Test.YtbgbalfhbficaaaRows
import Derived.WalkLawsBesides
import Derived.WalkSpells
import Derived.Outline
import Derived.Deep.DeepCutAuto
import Derived.Deep.RegionWith
import Derived.BigRegion
namespace Go.Proofs.Ytbgbalfhbficaaa
set_option maxRecDepth 100000
set_option maxHeartbeats 2000000
open Go.RowKit

def Q (w w' : World) : Prop := Below w.heap.size w w'
theorem Q.below {w w' : World} (h : Q w w') : Below w.heap.size w w' := h
theorem Q.refl (w : World) : Q w w := Below.refl _ _
theorem Q.size {a b : World} (h : Q a b) : a.heap.size ≤ b.heap.size := Below.size h
theorem Q.trans {a b c : World} (h : Q a b) (k : Q b c) : Q a c := Below.trans h (Below.mono k h.size)
theorem Q.alloc {a w : World} (h : Q a w) (o : Obj) : Q a (w.alloc o) := Below.alloc h h.size o
theorem Q.drew {a w : World} (h : Q a w) : Q a w.drew := Below.drew h
theorem Q.set {a w : World} (h : Q a w) {p : Addr} (hp : a.heap.size ≤ p.block) (u : Value) : Q a (w.setCell p u) := Below.setCell h hp u
theorem Q.facts {a w : World} (h : Q a w) : (∀ b o, b < a.heap.size → w.cell? ⟨b, o, none⟩ = a.cell? ⟨b, o, none⟩) ∧ (∀ b o, b < a.heap.size → w.frozen? ⟨b, o, none⟩ = a.frozen? ⟨b, o, none⟩) ∧ a.heap.size ≤ w.heap.size :=
 ⟨fun b o hb => Below.cell h (p := ⟨b, o, none⟩) hb, fun b o hb => Below.frozen h (p := ⟨b, o, none⟩) hb, h.size⟩

theorem Q.setRow {a w : World} (h : Q a w) {g : Nat} (hg : a.heap.size ≤ g) (cs : Array Value) : Q a (w.setRow g cs) := below_setRow h hg cs
theorem hide {p : Prop} (h : p) : Hid p := h
/-! A region that draws its order, whose operations read and whose callees make at most new memory: walked once, in the order of the text. -/
open Classical in
noncomputable def ext (W k : World) : World := if Q W k then k else W
theorem q_ext (W k : World) : Q W (ext W k) := by
 unfold ext; split
 ·assumption
 ·exact Q.refl _
theorem ext_of_q {W w : World} (h : Q W w) : ∃ k, w = ext W k := ⟨w, by unfold ext; rw [if_pos h]⟩
theorem q_of_ext {W w : World} (h : ∃ k, w = ext W k) : Q W w := by obtain ⟨k, rfl⟩ := h; exact q_ext _ _
theorem ext_cell (W : World) : ∀ (k : World) (b o : Nat), b < W.heap.size → (ext W k).cell? ⟨b, o, none⟩ = W.cell? ⟨b, o, none⟩ := fun k b o h => (q_ext W k).facts.1 b o h
theorem wp_region_ext {P : Program} {id : Nat} {R : Exit → Act → World → Prop} {a : Act} {w : World} {l : List Oper} (hm : P.follows .mixedOrders = true) (hB : Region.lexB .any l.toArray = true)
  (h : wpQuiet P l.toArray (fun w' => ∃ k, w' = ext w k) (fun a' => ∀ w', (∃ k, w' = ext w k) → R .normal a' w') l a) : (Code.region id l.toArray true).wp P R a w :=
 wp_region_quiet (C := fun w' => ∃ k, w' = ext w k) hm hB (ext_of_q (Q.refl w).drew) (by simpa using h)
theorem ext_call {P : Program} {f : FuncId} {args : Array Value} {W k : World} {v : Value} (h : Calls P f args (ext W k) fun e w' => e = .returned v ∧ Q (ext W k) w') :
  Calls P f args (ext W k) fun e w'' => e = .returned v ∧ ∃ k', w'' = ext W k' :=
 h.mono fun _ _ ⟨he, hq⟩ => ⟨he, ext_of_q ((q_ext W k).trans hq)⟩

def Rd (w : World) (B : Nat) (A : Option Addr) (xs : List Value) : Prop :=
 xs = [] ∨ ∃ b o, A = some ⟨b, o, none⟩ ∧ b < B ∧ ∀ j u, xs[j]? = some u → w.cell? ⟨b, o + j, none⟩ = some u
theorem addr_add (b o j : Nat) : (⟨b, o, none⟩ : Addr).add j = ⟨b, o + j, none⟩ := by unfold Addr.add; split <;> simp_all

section
variable {w w' : World} {B B' : Nat} {A : Option Addr} {xs : List Value}
theorem Rd.mono (h : Rd w B A xs) (hB : B ≤ B') : Rd w B' A xs := by
 rcases h with h | ⟨b, o, h1, h2, h3⟩
 ·exact .inl h
 ·exact .inr ⟨b, o, h1, by omega, h3⟩
theorem Rd.keep (h : Rd w B A xs) (hk : ∀ b o, b < B → w'.cell? ⟨b, o, none⟩ = w.cell? ⟨b, o, none⟩) : Rd w' B A xs := by
 rcases h with h | ⟨b, o, h1, h2, h3⟩
 ·exact .inl h
 ·exact .inr ⟨b, o, h1, h2, fun j u hu => (hk b _ h2).trans (h3 j u hu)⟩
theorem Rd.below (h : Rd w B A xs) (hb : Below B w w') : Rd w' B A xs := h.keep fun b o hlt => Below.cell hb (p := ⟨b, o, none⟩) hlt
theorem Rd.q (h : Rd w B A xs) (hq : Q w w') (hB : B ≤ w.heap.size) : Rd w' B A xs := h.keep fun b o hlt => hq.facts.1 b o (by omega)
theorem Rd.up (h : Rd w w.heap.size A xs) (hq : Q w w') : Rd w' w'.heap.size A xs := (h.q hq (Nat.le_refl _)).mono hq.size
theorem Rd.drew (h : Rd w B A xs) : Rd w.drew B A xs := h
theorem Rd.alloc (h : Rd w B A xs) (hB : B ≤ w.heap.size) (o : Obj) : Rd (w.alloc o) B A xs := h.q ((Q.refl _).alloc _) hB
theorem Rd.nil (w : World) (B : Nat) (A : Option Addr) : Rd w B A [] := .inl rfl
theorem Rd.at_ (h : Rd w B A xs) (hn : 0 < xs.length) : ∃ b o, A = some ⟨b, o, none⟩ ∧ b < B ∧ ∀ j, (hj : j < xs.length) → w.cell? ⟨b, o + j, none⟩ = some xs[j] := by
 rcases h with rfl | ⟨b, o, h1, h2, h3⟩
 ·simp at hn
 ·exact ⟨b, o, h1, h2, fun j hj => h3 j _ (List.getElem?_eq_getElem hj)⟩
theorem Rd.take (h : Rd w B A xs) (k : Nat) : Rd w B A (xs.take k) := by
 rcases h with rfl | ⟨b, o, h1, h2, h3⟩
 ·exact .inl (by simp)
 ·refine .inr ⟨b, o, h1, h2, fun j u hu => h3 j u ?_⟩
  rw [List.getElem?_take] at hu
  split at hu
  ·exact hu
  ·cases hu
theorem Rd.cells {b o : Nat} (h : Rd w B (some ⟨b, o, none⟩) xs) : ∀ j u, xs[j]? = some u → w.cell? ((⟨b, o, none⟩ : Addr).add j) = some u := by
 rcases h with rfl | ⟨b', o', h1, h2, h3⟩
 ·intro j u hu; simp at hu
 ·intro j u hu
  obtain ⟨rfl, rfl⟩ : b = b' ∧ o = o' := by simpa using h1
  rw [addr_add]
  exact h3 j u hu
end
theorem own_form {w : World} {base : Nat} {e : TypeId} {size : Nat} {v : Value} {n : Nat} {xs : List Value} (h : w.ownsRow base e size v n xs) :
  ∃ A c, v = .slice A n c ∧ n ≤ c ∧ c ≤ maxLen ∧ xs.length = n * size ∧ Rd w w.heap.size A xs := by
 have hl := h.1
 rcases h.2 with ⟨rfl, rfl⟩ | ⟨g, cap, cur, rfl, hg, hh, hn, hc, hs, ht⟩
 ·exact ⟨none, 0, rfl, Nat.le_refl _, by simp [maxLen], by simpa using hl, .inl (List.eq_nil_of_length_eq_zero (by simpa using hl))⟩
 ·refine ⟨some ⟨g, 0, none⟩, cap, rfl, hn, hc, hl, .inr ⟨g, 0, rfl, (Array.getElem?_eq_some_iff.1 hh).1, fun j u hu => ?_⟩⟩
  have := h.cells (g := g) rfl j u hu
  rw [show (⟨g, 0 + j, none⟩ : Addr) = (⟨g, 0, none⟩ : Addr).add j by unfold Addr.add; split <;> simp_all]
  exact this
theorem own_q {w w' : World} {base : Nat} {e : TypeId} {size : Nat} {v : Value} {n : Nat} {xs : List Value} (h : w.ownsRow base e size v n xs) (hq : Q w w') : w'.ownsRow base e size v n xs :=
 h.kept (row := none) ⟨hq.below.os, hq.below.tape, hq.below.output, hq.size, fun i hi _ => hq.below.block i hi⟩ (by cases hv : v.ownBlock <;> simp)
theorem below_own {w w1 : World} {base : Nat} {e : TypeId} {size : Nat} {v : Value} {n : Nat} {xs : List Value} (h : w.ownsRow base e size v n xs) (hg : w.grownBy w1 v.ownBlock) (hB : base ≤ w.heap.size) : Below base w w1 :=
 (Below.refl _ _).grown hg hB (fun k hk => (h.lt k hk).1)
theorem q_below {a w w' : World} {B : Nat} (hq : Q a w) (hb : Below B w w') (hB : a.heap.size ≤ B) : Q a w' := Below.trans hq (hb.mono hB)
set_option linter.unusedVariables false
def byteV (b : Nat) : Value := .int .u8 (b : Int)
structure Bytes (w : World) (A : Option Addr) (n c : Nat) (bs : List Nat) : Prop where
 rd : Rd w w.heap.size A (bs.map byteV)
 len : bs.length = n
 small : ∀ b ∈ bs, b < 256
 cap : n ≤ c
 most : c ≤ 9223372036854775807
theorem Bytes.up {w w' : World} {A : Option Addr} {n c : Nat} {bs : List Nat} (h : Bytes w A n c bs) (hq : Q w w') : Bytes w' A n c bs := ⟨h.rd.up hq, h.len, h.small, h.cap, h.most⟩
structure El (P : Program) (t e size bytes : Nat) : Prop where
 und : P.underlying t = some (.slice e)
 inf : ∃ i z, P.info? e = some i ∧ i.zero = some z ∧ i.size = size ∧ i.bytes = bytes ∧ z.cells.size = size
 pos : 0 < size
 bpos : 0 < bytes
theorem El.of {P : Program} {t e size bytes : Nat} {z : Value} (hu : P.underlying t = some (.slice e)) (hi : (P.info? e).map (fun i => (i.zero, i.size, i.bytes)) = some (some z, size, bytes)) (hz : z.cells.size = size) (hp : 0 < size) (hb : 0 < bytes) : El P t e size bytes := by
 obtain ⟨i, h1, h2, h3, h4⟩ := info_parts hi
 exact ⟨hu, ⟨i, z, h1, h2, h3, h4, hz⟩, hp, hb⟩
section
variable {P : Program} {t e size bytes : Nat} {w : World} {base : Nat} {ops : Array Oper} {rest : List Oper} {o : Oper} {a : Act} {Q' : Exit → Act → World → Prop} {v : Value} {n : Nat} {xs : List Value}
theorem wpList_apps (hgd : o.guard = none) (E : El P t e size bytes) (s x : Operand) (ho : o.op = .call { callee := .builtin .append, args := #[s, x], argTypes := #[t, t] })
  (hs : a.eval s = v) (hown : w.ownsRow base e size v n xs) {A : Option Addr} {m c B : Nat} {news : List Value} (hx : a.eval x = .slice A m c) (hA : A = none → m = 0 ∧ c = 0) (hl : news.length = m * size) (hr : Rd w B A news) (h1 : ∀ u ∈ news, u.oneCell' = true)
  (hb : (n + m) * bytes ≤ 140737488355328) (hbase : base ≤ w.heap.size)
  (h : ∀ v' w', w'.ownsRow base e size v' (n + m) (xs ++ news) → Below base w w' → wpList P ops Q' rest (a.put o.dst v') w') : wpList P ops Q' (o :: rest) a w := by
 obtain ⟨i, z, hi, hz, hsz, hby, hzs⟩ := E.inf
 rcases A with _ | ad
 ·obtain ⟨rfl, rfl⟩ := hA rfl
  have : news = [] := List.eq_nil_of_length_eq_zero (by simpa using hl)
  subst this
  refine wpList_append_own_none hgd s x t ho base e i size E.und hi v n xs hs hown hx (h v w (by simpa using hown) (Below.refl _ _))
 ·have hle : n + m ≤ (n + m) * bytes := Nat.le_mul_of_pos_right _ E.bpos
  refine wpList_append_own _ hgd s x t ho base e i z size bytes E.und hi hz hsz hby hzs E.pos v n xs hs hown ad m c news hx hl (fun j u hu => ?_) h1 (by simp only [maxLen]; omega) hb hbase (fun v' w' h2 h3 _ => h v' w' h2 (below_own hown h3 hbase))
  rcases hr with rfl | ⟨b, o, h2, _, h3⟩
  ·simp at hu
  ·obtain rfl := Option.some.inj h2
   rw [addr_add]
   exact h3 j u hu
end
theorem own_at {w : World} {base : Nat} {e : TypeId} {size : Nat} {v : Value} {n : Nat} {xs : List Value} (h : w.ownsRow base e size v n xs) (hn : 0 < n) :
  ∃ g c, v = .slice (some ⟨g, 0, none⟩) n c ∧ base ≤ g ∧ g < w.heap.size ∧ n ≤ c ∧ c ≤ maxLen ∧ (∀ j u, xs[j]? = some u → w.cell? ⟨g, j, none⟩ = some u) ∧ (∀ j, w.frozen? ⟨g, j, none⟩ = false) := by
 have h0 := h
 rcases h.2 with ⟨rfl, rfl⟩ | ⟨g, cap, cur, rfl, hg, hh, hn', hc, hs, ht⟩
 ·omega
 ·exact ⟨g, cap, rfl, hg, (Array.getElem?_eq_some_iff.1 hh).1, hn', hc, fun j u hj => (h0.cellAt j (by rw [← h0.1]; exact (List.getElem?_eq_some_iff.1 hj).1)).trans hj, fun j => h0.frozenAt j⟩
theorem own_set {w : World} {base : Nat} {e : TypeId} {size : Nat} {g n c : Nat} {xs : List Value} (h : w.ownsRow base e size (.slice (some ⟨g, 0, none⟩) n c) n xs) (j : Nat) (u : Value) :
  (w.setCell ⟨g, j, none⟩ u).ownsRow base e size (.slice (some ⟨g, 0, none⟩) n c) n (xs.set j u) := (h.stored j u).1
end Go.Proofs.Ytbgbalfhbficaaa

namespace Go.Proofs.Ytbgbalfhbficaaa.Open
open Go.ChangeShapes Go.WideShapes Go.ChangeAt Go.RowKit
section
variable {H : Type} {enc : TypeId × Value → H} {P : Program} {w : World}

theorem rd_of_cells {a : Addr} {xs : List Value} (h : ∀ i, (hi : i < xs.length) → w.cell? (a.add i) = some xs[i]) : Rd w w.heap.size (some a) xs := by
 rcases Nat.eq_zero_or_pos xs.length with h0 | h0
 ·exact .inl (List.eq_nil_of_length_eq_zero h0)
 ·have h1 := h 0 h0
  have hs : a.spot = none := by simpa [Addr.add] using World.cell?_spot h1
  obtain ⟨b, o, s⟩ := a
  obtain rfl : s = none := hs
  refine .inr ⟨b, o, rfl, ?_, fun j u hu => ?_⟩
  ·have h2 : w.cell? ⟨b, o, none⟩ = some xs[0] := by simpa [Addr.add] using h1
   unfold World.cell? at h2
   split at h2
   ·rename_i hh
    exact (Array.getElem?_eq_some_iff.1 hh).1
   ·cases h2
  ·obtain ⟨hj, e⟩ := List.getElem?_eq_some_iff.1 hu
   rw [← addr_add, h j hj, e]

theorem ints {t e : TypeId} {k : IntKind} {r : Reach} {b0 : Nat} {v : Value} {d : DataW H} {ps : List MemPlace} (ht : P.underlying t = some (.slice e)) (he : P.underlying e = some (.int k)) (hc : P.cellsOf e = 1)
  (hval : Value.okWide P w r b0 t v) (hd : DataW.Trod enc P w 0 (fun _ => true) true t v d ps) :
  ∃ (A : Option Addr) (n c : Nat) (zs : List Int), v = .slice A n c ∧ (A = none → n = 0 ∧ c = 0) ∧ zs.length = n ∧ n ≤ c ∧ c ≤ maxLen ∧ Rd w w.heap.size A (zs.map (Value.int k)) ∧ (∀ z ∈ zs, (Lit.int k z).wf = true) ∧
   (c = 0 ∨ ∃ es sp, d = .slice es sp ∧ es.length + sp.length = c) := by
 obtain ⟨A, n, c, rfl⟩ := okWide_slice ht hval
 obtain ⟨fuel, hf⟩ := hd
 rcases open_ints ht he hc hf with ⟨h1, h2⟩ | ⟨a, len, cap, zs, h1, _, hl, hm, hz, hx, hcell, hwf⟩
 ·simp [Value.cells] at h1
  obtain ⟨rfl, rfl, rfl⟩ := h1
  exact ⟨none, 0, 0, [], rfl, fun _ => ⟨rfl, rfl⟩, rfl, Nat.le_refl _, Nat.zero_le _, .inl rfl, by simp, .inl rfl⟩
 ·simp [Value.cells] at h1
  obtain ⟨rfl, rfl, rfl⟩ := h1
  simp only [if_true] at hz
  have hlt : (zs.take n).length = n := by simp; omega
  refine ⟨some a, n, c, zs.take n, rfl, fun h => (by cases h), hlt, hl, hm, rd_of_cells ?_, fun z hz => hwf z (List.mem_of_mem_take hz), .inr ⟨_, _, (Prod.ext_iff.1 hx).1, by simp [lits]; omega⟩⟩
  intro i hi
  have hi' : i < n := by rw [List.length_map, hlt] at hi; exact hi
  rw [hcell i (by omega)]
  simp [List.getD, List.getElem?_eq_getElem (show i < zs.length by omega)]

theorem cap_le {ts : List TypeId} {ds : List (DataW H)} (hs : (DataW.weightsEach P ts ds).all (· ≤ reachBytes) = true) {j : Nat} {t e : TypeId} {d : DataW H} {c : Nat} (ht : ts[j]? = some t) (hd : ds[j]? = some d)
  (hu : P.underlying t = some (.slice e)) (h : c = 0 ∨ ∃ es sp, d = .slice es sp ∧ es.length + sp.length = c) : c * P.bytesOf e ≤ 140737488351232 := by
 rcases h with rfl | ⟨es, sp, rfl, rfl⟩
 ·simp
 ·exact sized_slice hs ht hd hu

theorem bytes {t e : TypeId} {r : Reach} {b0 : Nat} {v : Value} {d : DataW H} {ps : List MemPlace} (ht : P.underlying t = some (.slice e)) (he : P.underlying e = some (.int .u8)) (hc : P.cellsOf e = 1) (hb : P.bytesOf e = 1)
  (hval : Value.okWide P w r b0 t v) (hd : DataW.Trod enc P w 0 (fun _ => true) true t v d ps) {ts : List TypeId} {ds : List (DataW H)} (hs : (DataW.weightsEach P ts ds).all (· ≤ reachBytes) = true) {j : Nat} (htj : ts[j]? = some t) (hdj : ds[j]? = some d) :
  ∃ (A : Option Addr) (n c : Nat) (bs : List Nat), v = .slice A n c ∧ Bytes w A n c bs ∧ (A = none → n = 0 ∧ c = 0) := by
 obtain ⟨A, n, c, zs, rfl, hN, hl, hn, _, hr, hwf, hcap⟩ := ints ht he hc hval hd
 have hcl := cap_le hs htj hdj ht hcap
 rw [hb] at hcl
 have hz : ∀ z ∈ zs, 0 ≤ z ∧ z < 256 := fun z hz => by
  have h := hwf z hz
  simp [Lit.wf, IntKind.min, IntKind.max, IntKind.bits, IntKind.signed] at h
  omega
 refine ⟨A, n, c, zs.map Int.toNat, rfl, ⟨?_, by simpa using hl, fun b hb => ?_, hn, by omega⟩, hN⟩
 ·have : (zs.map Int.toNat).map byteV = zs.map (Value.int .u8) := by
   rw [List.map_map]
   refine List.map_congr_left fun z hz' => ?_
   have := hz z hz'
   show Value.int .u8 ((z.toNat : Nat) : Int) = .int .u8 z
   rw [Int.toNat_of_nonneg this.1]
  rw [this]
  exact hr
 ·simp only [List.mem_map] at hb
  obtain ⟨z, hz', rfl⟩ := hb
  have := hz z hz'
  omega
end
end Go.Proofs.Ytbgbalfhbficaaa.Open

namespace Go.Proofs.Ytbgbalfhbficaaa.Lift
open Go.ChangeShapes Go.WideShapes Go.ChangeAt Go.RowKit

theorem trodAll_below {H : Type} {enc : TypeId × Value → H} {P : Program} (hl : laidOutB P = true) {W W' : World} (hb : Below W.heap.size W W') :
  ∀ (ts : List TypeId) (vs : List Value) (ds : List (DataW H)) (ps : List MemPlace), (ts.all fun t => P.readableRec t && decide (t < P.types.size)) = true → (∀ x ∈ ps, x.block < W.heap.size) →
   DataW.TrodAll enc P W 0 (fun _ => true) true ts vs ds ps → DataW.TrodAll enc P W' 0 (fun b => decide (b < W.heap.size)) true ts vs ds ps
 | [], [], [], _, _, _, h => h
 | t :: ts, v :: vs, d :: ds, ps, hr, hlt, h => by
  obtain ⟨p, q, h1, h2, rfl⟩ := h
  simp only [List.all_cons, Bool.and_eq_true, decide_eq_true_eq] at hr
  exact ⟨p, q, Below.trod hl hr.1.1 hr.1.2 h1 hb (fun x hx => hlt x (List.mem_append_left _ hx)),
   trodAll_below hl hb ts vs ds q hr.2 (fun x hx => hlt x (List.mem_append_right _ hx)) h2, rfl⟩
 | [], [], _ :: _, _, _, _, h => by cases h
 | [], _ :: _, _, _, _, _, h => by cases h
 | _ :: _, [], _, _, _, _, h => by cases h
 | _ :: _, _ :: _, [], _, _, _, h => by cases h

theorem trodAll_length {H : Type} {enc : TypeId × Value → H} {P : Program} {W : World} {b : Nat} {sp : Nat → Bool} {hd : Bool} :
  ∀ (ts : List TypeId) (vs : List Value) (ds : List (DataW H)) (ps : List MemPlace), DataW.TrodAll enc P W b sp hd ts vs ds ps → ds.length = ts.length
 | [], [], [], _, _ => rfl
 | _ :: ts, _ :: vs, _ :: ds, _, h => by
  obtain ⟨p, q, _, h2, _⟩ := h
  simp [trodAll_length ts vs ds q h2]
 | [], [], _ :: _, _, h => by cases h
 | [], _ :: _, _, _, h => by cases h
 | _ :: _, [], _, _, h => by cases h
 | _ :: _, _ :: _, [], _, h => by cases h

theorem contract_of {H : Type} {enc : TypeId × Value → H} {P : Program} {f : Func} {n tb : Nat} {s : ChangeSpec} (hl : laidOutB P = true)
  (hts : (f.params.toList.all fun t => P.readableRec t && decide (t < P.types.size)) = true) (hres : f.resultTypes = #[tb]) (hbool : P.underlying tb = some .bool) (hvars : s.vars = [])
  (hfn : ∀ ds : List (DataW H), ds.length = f.params.toList.length → s.fn H (ds ++ []) = { results := [.lit (.bool true)], args := ds })
  {W : World} {args : Array Value} {ds gs : List (DataW H)} {before : List MemPlace} (hW : DataW.Whole enc P f.params.toList s.vars false W args.toList ds gs before)
  (hc : Calls P n args W fun e w' => e = .returned (.bool true) ∧ Below W.heap.size W w') :
  Calls P n args W fun e W' => ∃ v, e = .returned v ∧ s.post enc P f false true false false W args v W' := by
 refine hc.mono fun e W' ⟨he, bel⟩ => ?_
 subst he
 have hW' := hW
 have hlt : ∀ p ∈ before, p.block < W.heap.size := fun p hp => hW.lt p hp
 obtain ⟨p, q, hA, hV, rfl, _, _⟩ := hW
 rw [hvars] at hV
 obtain ⟨rfl, rfl⟩ := trodVars_none hV
 have hlen := trodAll_length _ _ _ _ hA
 refine ⟨_, rfl, ds, [], _, [], p, [], hW', ?_, ?_, ?_, bel.frame _, fun h => by cases h⟩
 ·rw [hfn ds hlen, hres]
  exact trodAll_mk1 (shut_bool hbool _)
 ·rw [hfn ds hlen]
  exact trodAll_below hl bel _ _ _ _ hts (fun x hx => hlt x (by simpa using hx)) hA
 ·rw [hfn ds hlen, hvars]
  rfl
end Go.Proofs.Ytbgbalfhbficaaa.Lift

namespace Go.Proofs.Ytbgbalfhbficaaa
set_option maxRecDepth 100000
set_option maxHeartbeats 2000000
open Go.ChangeShapes Go.WideShapes Go.ChangeAt Go.RowKit
set_option linter.unusedVariables false
set_option linter.unusedSimpArgs false
structure Sl {α : Type} (k : Nat) (enc : α → List Value) (w : World) (A : Option Addr) (n c : Nat) (xs : List α) : Prop where
 rd : Rd w w.heap.size A (xs.flatMap enc)
 len : xs.length = n
 cap : n ≤ c
 most : c ≤ 9223372036854775807
theorem flatMap_length {α : Type} {k : Nat} {enc : α → List Value} (hk : ∀ x, (enc x).length = k) : ∀ xs : List α, (xs.flatMap enc).length = xs.length * k
 | [] => by simp
 | x :: xs => by rw [List.flatMap_cons, List.length_append, hk, flatMap_length hk xs, List.length_cons, Nat.succ_mul]; omega
theorem flatMap_get {α : Type} {k : Nat} {enc : α → List Value} (hk : ∀ x, (enc x).length = k) : ∀ (xs : List α) (i j : Nat) (x : α), xs[i]? = some x → j < k → (xs.flatMap enc)[i * k + j]? = (enc x)[j]?
 | [], i, j, x, h, _ => by simp at h
 | y :: xs, 0, j, x, h, hj => by
  simp at h
  subst h
  rw [List.flatMap_cons, Nat.zero_mul, Nat.zero_add, List.getElem?_append_left (by rw [hk]; exact hj)]
 | y :: xs, i + 1, j, x, h, hj => by
  rw [List.flatMap_cons, List.getElem?_append_right (by rw [hk, Nat.succ_mul]; omega), hk, show (i + 1) * k + j - k = i * k + j by rw [Nat.succ_mul]; omega]
  exact flatMap_get hk xs i j x (by simpa using h) hj
section
variable {α : Type} {k : Nat} {enc : α → List Value} {w w' : World} {A : Option Addr} {n c : Nat} {xs : List α}
theorem Sl.up (h : Sl k enc w A n c xs) (hq : Q w w') : Sl k enc w' A n c xs := ⟨h.rd.up hq, h.len, h.cap, h.most⟩
theorem Sl.nil (w : World) : Sl k enc w none 0 0 [] := ⟨.inl rfl, rfl, Nat.le_refl _, Nat.zero_le _⟩
theorem Sl.at_ (h : Sl k enc w A n c xs) (hk : ∀ x, (enc x).length = k) (hk0 : 0 < k) (i : Nat) (hi : i < n) :
  ∃ b o x, A = some ⟨b, o, none⟩ ∧ b < w.heap.size ∧ xs[i]? = some x ∧ ∀ j u, (enc x)[j]? = some u → w.cell? ⟨b, o + i * k + j, none⟩ = some u := by
 have hl := h.len
 have hL := flatMap_length hk xs
 have hin : ∀ j, j < k → i * k + j < (xs.flatMap enc).length := fun j hj => by
  rw [hL]
  calc i * k + j < i * k + k := by omega
   _ = (i + 1) * k := by rw [Nat.succ_mul]
   _ ≤ xs.length * k := Nat.mul_le_mul_right _ (by omega)
 obtain ⟨b, o, e, hb, hc⟩ := h.rd.at_ (by have := hin 0 hk0; omega)
 obtain ⟨x, hx⟩ : ∃ x, xs[i]? = some x := ⟨xs[i], List.getElem?_eq_getElem (by omega)⟩
 refine ⟨b, o, x, e, hb, hx, fun j u hu => ?_⟩
 have hj : j < k := by rw [← hk x]; exact (List.getElem?_eq_some_iff.1 hu).1
 have h1 := flatMap_get hk xs i j x hx hj
 rw [hu] at h1
 rw [Nat.add_assoc, hc _ (hin j hj)]
 rw [List.getElem?_eq_getElem (hin j hj)] at h1
 exact h1
theorem Sl.own {B : Nat} {e : TypeId} (h : w.ownsRow B e k (.slice A n c) n (xs.flatMap enc)) (hk : ∀ x, (enc x).length = k) (hk0 : 0 < k) : Sl k enc w A n c xs := by
 obtain ⟨A', c', e', h1, hc, h3, hr⟩ := own_form h
 cases e'
 unfold maxLen at hc
 rw [flatMap_length hk] at h3
 exact ⟨hr, Nat.eq_of_mul_eq_mul_right hk0 h3, h1, by omega⟩
end
structure Rdr (P : Program) (t : TypeId) (k : Nat) {α : Type} (enc : α → List Value) (ok : World → α → Prop) : Prop where
 len : ∀ a, (enc a).length = k
 cells : P.cellsOf t = k
 read : ∀ {H : Type} {en : TypeId × Value → H} {w : World} {n : Nat} {cs : List Value} {x : DataW H × List MemPlace}, DataW.trod en P w 0 (fun _ => true) true n t cs = some x → (∀ m ∈ x.1.weights P t, m ≤ 140737488351232) → ∃ a, cs = enc a ∧ ok w a
section
variable {P : Program} {t e : TypeId}
def encI (k : IntKind) (a : Int) : List Value := [.int k a]
def encB (b : Bool) : List Value := [.bool b]
theorem Rdr.int {k : IntKind} (hu : P.underlying t = some (.int k)) (hc : P.cellsOf t = 1) : Rdr P t 1 (encI k) (fun _ a => (Lit.int k a).wf = true) :=
 ⟨fun _ => rfl, hc, fun h _ => by obtain ⟨a, rfl, _, hw⟩ := DataW.trod_int hu h; exact ⟨a, rfl, hw⟩⟩
theorem Rdr.bool (hu : P.underlying t = some .bool) (hc : P.cellsOf t = 1) : Rdr P t 1 encB (fun _ _ => True) :=
 ⟨fun _ => rfl, hc, fun h _ => by obtain ⟨a, rfl, _⟩ := DataW.trod_bool hu h; exact ⟨a, rfl, trivial⟩⟩
structure SlV (α : Type) where
 A : Option Addr
 n : Nat
 c : Nat
 xs : List α
def SlV.val {α : Type} (v : SlV α) : Value := .slice v.A v.n v.c
def encV {α : Type} (v : SlV α) : List Value := [v.val]
structure SlOk {α : Type} (k : Nat) (enc : α → List Value) (ok : World → α → Prop) (w : World) (v : SlV α) : Prop where
 sl : Sl k enc w v.A v.n v.c v.xs
 nil_ : v.A = none → v.n = 0 ∧ v.c = 0
 all : ∀ x ∈ v.xs, ok w x
 big : v.c ≤ 140737488351232
theorem weightsAll_mem' {H : Type} {P : Program} {e : TypeId} : ∀ {l : List (DataW H)} {d : DataW H}, d ∈ l → ∀ n ∈ d.weights P e, n ∈ DataW.weightsAll P e l
 | [], d, h, _, _ => by simp at h
 | x :: l, d, h, n, hn => by
  unfold DataW.weightsAll
  rw [List.mem_append]
  rcases List.mem_cons.1 h with rfl | h
  ·exact .inl hn
  ·exact .inr (weightsAll_mem' h n hn)
theorem Rdr.slice {k : Nat} {α : Type} [Inhabited α] {enc : α → List Value} {ok : World → α → Prop} (R : Rdr P e k enc ok) (hk0 : 0 < k) (hu : P.underlying t = some (.slice e)) (hc : P.cellsOf t = 1) (hb : 0 < P.bytesOf e) : Rdr P t 1 (encV (α := α)) (SlOk k enc ok) :=
 ⟨fun _ => rfl, hc, fun {H en w n cs x} h hm => by
  rcases Go.Deep.open_slice hu h with ⟨h1, h2⟩ | ⟨a, len, cap, m, k', D, Pl, h1, _, hl, hcm, hmm, hx, hcell⟩
  ·exact ⟨⟨none, 0, 0, []⟩, h1, ⟨Sl.nil w, fun _ => ⟨rfl, rfl⟩, fun x hx => (by cases hx), Nat.zero_le _⟩⟩
  ·simp only [if_true] at hmm
   rw [R.cells] at hcell
   have hx1 : x.1 = .slice ((List.range len).map D) ((List.range (m - len)).map fun j => D (len + j)) := by rw [hx]
   have hcap : cap ≤ 140737488351232 := by
    have := hm ((len + (m - len)) * P.bytesOf e) (by rw [hx1]; simp [DataW.weights, hu])
    have h3 : len + (m - len) ≤ (len + (m - len)) * P.bytesOf e := Nat.le_mul_of_pos_right _ hb
    omega
   obtain ⟨q, hq⟩ := Go.Deep.choose_lt (α := α) (p := fun i y => w.cells? 0 (a.add (i * k)) k = some (enc y) ∧ ok w y) (n := len) (fun i hi => by
    obtain ⟨cs', e1, e2⟩ := hcell i (by omega)
    obtain ⟨y, rfl, hy⟩ := R.read e2 (fun m' hm' => hm m' (by
     rw [hx1]
     simp only [DataW.weights, hu, List.mem_cons, List.mem_append]
     exact .inr (.inl (weightsAll_mem' (d := D i) (List.mem_map.2 ⟨i, by simp [hi], rfl⟩) m' hm'))))
    exact ⟨y, e1, hy⟩)
   have hL : (((List.range len).map q).flatMap enc).length = len * k := by rw [flatMap_length R.len]; simp
   refine ⟨⟨some a, len, cap, (List.range len).map q⟩, h1, ⟨⟨Open.rd_of_cells ?_, by simp, hl, Nat.le_trans hcap (by decide)⟩, fun h => (by cases h), fun y hy => ?_, hcap⟩⟩
   ·intro i hi
    rw [hL] at hi
    have hd : i / k < len := (Nat.div_lt_iff_lt_mul hk0).2 hi
    have hmod := Nat.mod_lt i hk0
    have hdm := Nat.div_add_mod i k
    obtain ⟨_, _, hcc⟩ := World.cells?_some (hq (i / k) hd).1
    have h3 := hcc (i % k) hmod
    rw [Go.Deep.add_add, show i / k * k + i % k = i by rw [Nat.mul_comm]; exact hdm] at h3
    rw [h3]
    have hg := flatMap_get R.len ((List.range len).map q) (i / k) (i % k) (q (i / k)) (by simp [hd]) hmod
    rw [show i / k * k + i % k = i by rw [Nat.mul_comm]; exact hdm] at hg
    rw [List.getElem?_eq_getElem (by rw [hL]; exact hi)] at hg
    exact hg.symm
   ·obtain ⟨i, hi, rfl⟩ := List.mem_map.1 hy
    exact (hq i (by simpa using hi)).2⟩
structure RdrF (P : Program) (fs : Array Field) (i off k : Nat) {α : Type} (enc : α → List Value) (ok : World → α → Prop) : Prop where
 len : ∀ a, (enc a).length = k
 read : ∀ {H : Type} {en : TypeId × Value → H} {w : World} {n : Nat} {cs : List Value} {xs : List (DataW H × List MemPlace)}, cs.length = off + k →
  (∀ (j : Nat) (f : Field), fs[j]? = some f → DataW.trod en P w 0 (fun _ => true) true n f.type ((cs.drop f.offset).take (P.cellsOf f.type)) = xs[j]?) → xs.length = fs.size →
  (∀ (j : Nat) (f : Field) (x : DataW H × List MemPlace), fs[j]? = some f → xs[j]? = some x → ∀ m ∈ x.1.weights P f.type, m ≤ 140737488351232) → ∃ a, cs.drop off = enc a ∧ ok w a
theorem RdrF.one {fs : Array Field} {i off k : Nat} {α : Type} {enc : α → List Value} {ok : World → α → Prop} {f : Field} (hf : fs[i]? = some f) (ho : f.offset = off) (R : Rdr P f.type k enc ok) : RdrF P fs i off k enc ok :=
 ⟨R.len, fun {H en w n cs xs} hl hx hs hm => by
  have h := hx i f hf
  rw [ho, R.cells, List.take_of_length_le (by rw [List.length_drop]; omega)] at h
  obtain ⟨x, e⟩ : ∃ x, xs[i]? = some x := ⟨xs[i]'(by rw [hs]; exact (Array.getElem?_eq_some_iff.1 hf).1), List.getElem?_eq_getElem _⟩
  rw [e] at h
  exact R.read h (hm i f x hf e)⟩
theorem RdrF.cons {fs : Array Field} {i off k k' : Nat} {α β : Type} {enc : α → List Value} {ok : World → α → Prop} {enc' : β → List Value} {ok' : World → β → Prop} {f : Field} (hf : fs[i]? = some f) (ho : f.offset = off) (R : Rdr P f.type k enc ok)
  (S : RdrF P fs (i + 1) (off + k) k' enc' ok') : RdrF P fs i off (k + k') (fun p : α × β => enc p.1 ++ enc' p.2) (fun w p => ok w p.1 ∧ ok' w p.2) :=
 ⟨fun p => by rw [List.length_append, R.len, S.len], fun {H en w n cs xs} hl hx hs hm => by
  have h := hx i f hf
  rw [ho, R.cells] at h
  obtain ⟨x, e⟩ : ∃ x, xs[i]? = some x := ⟨xs[i]'(by rw [hs]; exact (Array.getElem?_eq_some_iff.1 hf).1), List.getElem?_eq_getElem _⟩
  rw [e] at h
  obtain ⟨a, e1, h1⟩ := R.read h (hm i f x hf e)
  obtain ⟨b, e2, h2⟩ := S.read (by omega) hx hs hm
  refine ⟨(a, b), ?_, h1, h2⟩
  rw [← e1, ← e2, ← List.drop_drop, List.take_append_drop]⟩
theorem Rdr.struct {fs : Array Field} {k : Nat} {α : Type} {enc : α → List Value} {ok : World → α → Prop} (hu : P.underlying t = some (.struct fs)) (hc : P.cellsOf t = k) (S : RdrF P fs 0 0 k enc ok) : Rdr P t k enc ok :=
 ⟨S.len, hc, fun {H en w n cs x} h hm => by
  obtain ⟨xs, k', _, rfl, hl, hxl, hf⟩ := DataW.trod_struct hu h
  have := S.read (cs := cs) (by rw [hl, hc]; omega) hf hxl (fun j f x hfj hxj m hmj => hm m (by
   simp only [DataW.weights, hu]
   exact DataW.weights_mem_each (j := j) (t := f.type) (d := x.1) (by simpa using ⟨f, by simpa using hfj, rfl⟩) (by simpa using ⟨x.2, hxj⟩) m hmj))
  simpa using this⟩
end
theorem Rdr.arg {P : Program} {t : TypeId} {k : Nat} {α : Type} {enc : α → List Value} {ok : World → α → Prop} (R : Rdr P t k enc ok) {H : Type} {en : TypeId × Value → H} {w : World} {v : Value} {d : DataW H} {ps : List MemPlace}
  (hd : DataW.Trod en P w 0 (fun _ => true) true t v d ps) {ts : List TypeId} {ds : List (DataW H)} (hs : (DataW.weightsEach P ts ds).all (· ≤ reachBytes) = true) {j : Nat} (htj : ts[j]? = some t) (hdj : ds[j]? = some d) :
  ∃ a, v.cells.toList = enc a ∧ ok w a := by
 obtain ⟨fuel, hf⟩ := hd
 exact R.read hf (fun m hm => of_decide_eq_true (List.all_eq_true.1 hs m (DataW.weights_mem_each htj hdj m hm)))
open Go.RowKit
theorem wpList_mk {P : Program} {t e bytes : Nat} {w : World} {ops : Array Oper} {rest : List Oper} {o : Oper} {a : Act} {Q' : Exit → Act → World → Prop} (hgd : o.guard = none) (l c : Operand) (hop : o.op = Op.makeSlice t l c) {z : Value}
  (hu : P.underlying t = some (.slice e)) (hinf : (P.info? e).map (fun i => (i.zero, i.size, i.bytes)) = some (some z, 1, bytes)) (hz : z.cells = #[z]) (base : Nat)
  {kl kc : IntKind} {L C : Int} {n : Nat} (hl : a.eval l = .int kl L) (hc : a.eval c = .int kc C) (hL : L = (n : Int)) (hC : C = (n : Int)) (hb : bytes * n ≤ 281474976710656) (hm : n ≤ 9223372036854775807) (hbase : base ≤ w.heap.size)
  (h : ∀ w', w'.ownsRow base e 1 (.slice (some ⟨w.heap.size, 0, none⟩) n n) n (List.replicate n z) → Q w w' → w.heap.size < w'.heap.size → wpList P ops Q' rest (a.put o.dst (.slice (some ⟨w.heap.size, 0, none⟩) n n)) w') : wpList P ops Q' (o :: rest) a w := by
 obtain ⟨i, h1, h2, h3, h4⟩ := info_parts hinf
 refine wpList_make_full w hgd l c t hop base e i z 1 hu h1 h2 h3 kl kc L C n hl hc hL hC (by rw [h4]; exact hb) (by unfold maxLen; omega) hbase (fun w' ho hg => h w' ?_ ?_ ?_)
 ·rw [hz, Nat.mul_one, toList_madeCells_one] at ho
  exact ho
 ·exact ⟨hg.os, hg.tape, hg.output, hg.size, fun k hk => hg.block k hk (by simp)⟩
 ·exact (ho.lt w.heap.size rfl).2
section
variable {P : Program} {t tn e ty bytes : Nat} {w : World} {base : Nat} {v : Value} {n : Nat} {xs : List Value} {z : Value} {i : TypeInfo} {kn kq : IntKind}
end
namespace Ri
def upd {α : Type} (f : Nat → α) (i : Nat) (v : α) : Nat → α := fun j => if j = i then v else f j
def dep (ops : Array Oper) : Nat → Nat → Nat → Bool
 | 0, _, _ => false
 | n + 1, i, j => match ops[i]? with
  | none => false
  | some o => o.after.toList.any fun e => Region.binds .any e && (e.on == j || dep ops n e.on j)
def backB (ops : Array Oper) : Bool := (List.range ops.size).all fun i => match ops[i]? with
 | none => true
 | some o => o.after.toList.all fun e => !Region.binds .any e || decide (e.on < i)
def Down (ops : Array Oper) (L : Array Bool) : Prop := ∀ i o, ops[i]? = some o → L.getD i false = true → ∀ e ∈ o.after, Region.binds .any e = true → L.getD e.on false = true
theorem dep_down {ops : Array Oper} {L : Array Bool} (h : Down ops L) : ∀ (n i j : Nat), (∀ o, ops[i]? = some o → ∀ e ∈ o.after, Region.binds .any e = true → L.getD e.on false = true) → dep ops n i j = true → L.getD j false = true
 | 0, i, j, _, hd => by simp [dep] at hd
 | n + 1, i, j, hi, hd => by
  unfold dep at hd
  split at hd
  ·cases hd
  ·rename_i o ho
   rw [List.any_eq_true] at hd
   obtain ⟨e, he, h1⟩ := hd
   rw [Bool.and_eq_true, Bool.or_eq_true] at h1
   have hL := hi o ho e (by simpa using he) h1.1
   rcases h1.2 with h2 | h2
   ·have : e.on = j := by simpa using h2
    rw [← this]
    exact hL
   ·exact dep_down h n e.on j (fun o' ho' e' he' hb' => h e.on o' ho' hL e' he' hb') h2
theorem all_of_ready {ops : Array Oper} {L : Array Bool} (hs : L.size = ops.size) (hb : backB ops = true) (hr : Region.ready .any ops L = []) : ∀ i, i < ops.size → L.getD i false = true := by
 intro i
 induction i using Nat.strongRecOn with
 | ind i ih =>
  intro hi
  refine Classical.byContradiction fun hn => ?_
  have hn' : L.getD i true = false := by
   have : i < L.size := by omega
   simp [this] at hn ⊢
   exact hn
  have : i ∈ Region.ready .any ops L := mem_ready.2 ⟨hn', ops[i], Array.getElem?_eq_getElem hi, fun e he hbe => by
   have h1 := List.all_eq_true.1 hb i (List.mem_range.2 hi)
   rw [Array.getElem?_eq_getElem hi] at h1
   have h2 := List.all_eq_true.1 h1 e (by simpa using he)
   rw [hbe, Bool.not_true, Bool.false_or] at h2
   have h2 := of_decide_eq_true h2
   exact ih e.on h2 (by omega)⟩
  rw [hr] at this
  cases this
theorem dep_far {ops : Array Oper} (hb : backB ops = true) : ∀ (n i j : Nat), ¬ j < ops.size → dep ops n i j = false
 | 0, i, j, _ => rfl
 | n + 1, i, j, h => by
  unfold dep
  split
  ·rfl
  ·rename_i o ho
   rw [List.any_eq_false]
   intro e he
   have hi : i < ops.size := (Array.getElem?_eq_some_iff.1 ho).1
   have h1 := List.all_eq_true.1 hb i (List.mem_range.2 hi)
   rw [ho] at h1
   have h2 := List.all_eq_true.1 h1 e he
   cases hbe : Region.binds .any e
   ·simp
   ·rw [hbe, Bool.not_true, Bool.false_or] at h2
    have h2 := of_decide_eq_true h2
    rw [dep_far hb n e.on j h]
    have : (e.on == j) = false := by simp; omega
    simp [this]
theorem count_set {L : Array Bool} {i n : Nat} (hi : L.getD i true = false) (hc : L.toList.count false = n + 1) : (L.setIfInBounds i true).toList.count false = n := by
 have hlt : i < L.size := by
  rcases Nat.lt_or_ge i L.size with h | h
  ·exact h
  ·simp [Array.getElem?_eq_none h] at hi
 have hv : L.toList[i]'(by simpa using hlt) = false := by simpa [hlt] using hi
 rw [Array.toList_setIfInBounds, List.count_set (by simpa using hlt), hv, hc]
 simp
theorem ready_none {ops : Array Oper} {L : Array Bool} (hc : L.toList.count false = 0) : Region.ready .any ops L = [] := by
 refine List.eq_nil_iff_forall_not_mem.2 fun i hi => ?_
 obtain ⟨h0, _⟩ := mem_ready.1 hi
 have hlt : i < L.size := by
  rcases Nat.lt_or_ge i L.size with h | h
  ·exact h
  ·simp [Array.getElem?_eq_none h] at h0
 have hv : L[i] = false := by simpa [hlt] using h0
 have : false ∈ L.toList := by rw [← hv]; simp
 exact List.count_eq_zero.1 hc this
theorem any {P : Program} {ops : Array Oper} {R : Exit → Act → World → Prop} {A : (Nat → Value) → Act} (J : (Nat → Bool) → (Nat → Value) → World → Prop)
  (hput : ∀ f i o v, ops[i]? = some o → (A f).put o.dst v = A (upd f i v)) (hb : backB ops = true)
  (hstep : ∀ S f w i o, ops[i]? = some o → S i = false → (∀ j, dep ops ops.size i j = true → S j = true) → (∀ j, dep ops ops.size j i = true → S j = false) → J S f w →
   if Region.wanted o (yielded ops (A f).tmps) = true then o.wp P (A f) w (fun a' w' => ∃ v, a' = (A f).put o.dst v ∧ J (upd S i true) (upd f i v) w') R else J (upd S i true) (upd f i undef) w)
  (hend : ∀ S f w, (∀ i, i < ops.size → S i = true) → J S f w → R .normal (A f) w) :
  ∀ (fuel : Nat) (L : Array Bool) (f : Nat → Value) (w : World), L.size = ops.size → L.toList.count false = fuel → Down ops L → J (fun i => L.getD i false) f w → wpAny P .any ops R fuel L (A f) w
 | 0, L, f, w, hs, hc, _, hJ => ⟨ready_none hc, hend _ f w (all_of_ready hs hb (ready_none hc)) hJ⟩
 | fuel + 1, L, f, w, hs, hc, hd, hJ => by
  refine ⟨fun h0 => hend _ f w (all_of_ready hs hb h0) hJ, fun i hi => ?_⟩
  obtain ⟨h0, o, ho, hall⟩ := mem_ready.1 hi
  have hlt : i < L.size := by
   rcases Nat.lt_or_ge i L.size with h | h
   ·exact h
   ·simp [Array.getElem?_eq_none h] at h0
  have hSi : L.getD i false = false := by simpa [hlt] using h0
  have hdn : Down ops (L.setIfInBounds i true) := fun j oj hoj hj e he hbe => by
   by_cases hij : i = j
   ·subst hij
    rw [ho] at hoj
    cases hoj
    exact getD_set_true (hall e he hbe)
   ·rw [getD_set_ne _ hij] at hj
    exact getD_set_true (hd j oj hoj hj e he hbe)
  have hS : (fun j => (L.setIfInBounds i true).getD j false) = upd (fun j => L.getD j false) i true := by
   funext j
   unfold upd
   by_cases hij : j = i
   ·subst hij
    simp [hlt]
   ·rw [getD_set_ne _ (Ne.symm hij), if_neg hij]
  have hst := hstep (fun j => L.getD j false) f w i o ho hSi (fun j hj => dep_down hd ops.size i j (fun o' ho' => by rw [ho] at ho'; cases ho'; exact hall) hj)
   (fun j hj => by
    cases hL : L.getD j false with
    | false => rfl
    | true =>
     have := dep_down hd ops.size j i (fun o' ho' e he hb' => hd j o' ho' hL e he hb') hj
     rw [hSi] at this
     cases this) hJ
  have go : ∀ v w', J (upd (fun j => L.getD j false) i true) (upd f i v) w' → wpAny P .any ops R fuel (L.setIfInBounds i true) ((A f).put o.dst v) w' := fun v w' h => by
   rw [hput f i o v ho]
   exact any J hput hb hstep hend fuel _ _ _ (by simpa using hs) (count_set h0 hc) hdn (by rw [hS]; exact h)
  unfold wpOp
  simp only [ho]
  split
  ·rename_i hw
   rw [if_pos hw] at hst
   refine .inl (Oper.wp_mono (fun a' w' ⟨v, e, h⟩ => ?_) hst)
   rw [e]
   exact go v w' h
  ·rename_i hw
   rw [if_neg hw] at hst
   exact go _ _ hst
def acts (f : Nat → Value) : Nat → List Oper → Act → Act
 | _, [], a => a
 | k, o :: r, a => acts f (k + 1) r (a.put o.dst (f k))
def apartD (d : Option Tmp) (l : List Oper) : Bool := match d with
 | none => true
 | some d => l.all fun o => o.dst != some d
def dstsB : List Oper → Bool
 | [] => true
 | o :: r => apartD o.dst r && dstsB r
theorem apart_ne {d : Option Tmp} {o : Oper} {l : List Oper} (h : apartD d (o :: l) = true) : (∀ x, o.dst = some x → d ≠ some x) ∧ apartD d l = true := by
 cases d with
 | none => exact ⟨fun x _ e => (by cases e), rfl⟩
 | some d =>
  simp only [apartD, List.all_cons, Bool.and_eq_true, bne_iff_ne, ne_eq] at h
  exact ⟨fun x hx e => h.1 (by rw [hx, e]), h.2⟩
theorem acts_put {f : Nat → Value} {d : Option Tmp} (v : Value) : ∀ (l : List Oper) (k : Nat) (a : Act), apartD d l = true → (acts f k l a).put d v = acts f k l (a.put d v)
 | [], k, a, _ => rfl
 | o :: r, k, a, h => by
  obtain ⟨h1, h2⟩ := apart_ne h
  rw [acts, acts, acts_put v r (k + 1) _ h2, Act.put_comm a (f k) v h1]
theorem put_put (a : Act) (d : Option Tmp) (v u : Value) : (a.put d v).put d u = a.put d u := by
 cases d with
 | none => rfl
 | some d => simp [Act.put]
theorem acts_upd_lt {f : Nat → Value} {i : Nat} (v : Value) : ∀ (l : List Oper) (k : Nat) (a : Act), i < k → acts (upd f i v) k l a = acts f k l a
 | [], k, a, _ => rfl
 | o :: r, k, a, h => by
  rw [acts, acts, acts_upd_lt v r (k + 1) _ (by omega)]
  simp only [upd]
  rw [if_neg (by omega)]
theorem acts_upd {f : Nat → Value} {i : Nat} {o : Oper} (v : Value) : ∀ (l : List Oper) (k : Nat) (a : Act), dstsB l = true → k ≤ i → l[i - k]? = some o → (acts f k l a).put o.dst v = acts (upd f i v) k l a
 | [], k, a, _, _, h => by simp at h
 | p :: r, k, a, hd, hk, h => by
  rw [dstsB, Bool.and_eq_true] at hd
  by_cases e : i = k
  ·subst e
   simp at h
   subst h
   rw [acts, acts, acts_put v r (i + 1) _ hd.1, acts_upd_lt v r (i + 1) _ (by omega), put_put]
   simp only [upd, if_true]
  ·rw [acts, acts, acts_upd (f := f) (i := i) (o := o) v r (k + 1) _ hd.2 (by omega) (by
    rw [show i - k = (i - (k + 1)) + 1 by omega] at h
    simpa using h)]
   simp only [upd]
   rw [if_neg (show ¬ k = i by omega)]
theorem put_self (a : Act) (d : Option Tmp) : a.put d (match d with | some d => a.tmps.getD d undef | none => undef) = a := by
 cases d with
 | none => rfl
 | some d =>
  obtain ⟨t, ds⟩ := a
  have : t.setIfInBounds d (t.getD d undef) = t := by
   apply Array.ext
   ·simp
   ·intro i h1 h2
    by_cases e : d = i
    ·subst e
     simp [h2]
    ·rw [Array.getElem_setIfInBounds_ne h2 e]
  simp only [Act.put, this]
def old (a : Act) (l : List Oper) (k : Nat) : Value := match l[k]? with
 | some o => (match o.dst with | some d => a.tmps.getD d undef | none => undef)
 | none => undef
theorem acts_old (a : Act) (f : Nat → Value) : ∀ (l : List Oper) (k : Nat), (∀ i o, l[i]? = some o → f (k + i) = (match o.dst with | some d => a.tmps.getD d undef | none => undef)) → acts f k l a = a
 | [], k, _ => rfl
 | o :: r, k, h => by
  have h0 := h 0 o rfl
  rw [Nat.add_zero] at h0
  rw [acts, h0, put_self]
  exact acts_old a f r (k + 1) fun i o' ho' => by
   have := h (i + 1) o' (by simpa using ho')
   rw [← this]
   congr 1
   omega
def All (S : Nat → Oper → Prop) : Nat → List Oper → Prop
 | _, [] => True
 | k, o :: r => S k o ∧ All S (k + 1) r
theorem all_get {S : Nat → Oper → Prop} : ∀ {l : List Oper} {k i : Nat} {o : Oper}, All S k l → l[i]? = some o → S (k + i) o
 | [], k, i, o, _, h => by simp at h
 | p :: r, k, 0, o, hA, h => by
  simp at h
  subst h
  exact hA.1
 | p :: r, k, i + 1, o, hA, h => by
  have := all_get (i := i) hA.2 (by simpa using h)
  rw [show k + (i + 1) = k + 1 + i by omega]
  exact this
def Step (P : Program) (R : Exit → Act → World → Prop) (l : List Oper) (a : Act) (w0 : World) (φ : Nat → Value → World → Prop) (k : Nat) (o : Oper) : Prop :=
 ∀ (f : Nat → Value) (w : World), Q w0 w → (∀ j (_ : dep l.toArray l.length k j = true := by kernel_rfl), φ j (f j) w) → (∀ j (_ : dep l.toArray l.length j k = true := by kernel_rfl), f j = old a l j) →
  if Region.wanted o (yielded l.toArray (acts f 0 l a).tmps) = true then o.wp P (acts f 0 l a) w (fun a' w' => ∃ v, a' = (acts f 0 l a).put o.dst v ∧ Q w w' ∧ φ k v w') R else φ k undef w
def chk (l : List Oper) : Bool := dstsB l && backB l.toArray
theorem start {l : List Oper} {a : Act} : a = acts (old a l) 0 l a := (acts_old a (old a l) l 0 fun i o ho => by
 rw [Nat.zero_add]
 unfold old
 rw [ho]).symm
theorem getD_rep (n i : Nat) : (Array.replicate n false).getD i false = false := by
 by_cases h : i < n <;> simp [h]
theorem wp_made {P : Program} {id : Nat} {R : Exit → Act → World → Prop} {a : Act} {w : World} {l : List Oper} (hm : P.follows .mixedOrders = true) (hB : chk l = true)
  (φ : Nat → Value → World → Prop) (hmono : ∀ i v w1 w2, φ i v w1 → Q w1 w2 → φ i v w2) (hstep : All (Step P R l a w.drew φ) 0 l)
  (hend : ∀ f w', Q w w' → (∀ j, j < l.length → φ j (f j) w') → R .normal (acts f 0 l a) w') : (Code.region id l.toArray true).wp P R a w := by
 unfold chk at hB
 rw [Bool.and_eq_true] at hB
 refine wp_region_any hm ?_
 have hst : a = acts (old a l) 0 l a := start
 have key := any (P := P) (ops := l.toArray) (R := R) (A := fun f => acts f 0 l a) (fun S f w' => Q w.drew w' ∧ (∀ j, j < l.length → S j = true → φ j (f j) w') ∧ ∀ j, S j = false → f j = old a l j)
  (fun f i o v ho => acts_upd v l 0 a hB.1 (Nat.zero_le _) (by simpa using ho)) hB.2
  (fun S f w1 i o ho hSi hdep hwait hJ => by
   have ho' : l[i]? = some o := by simpa using ho
   have hil : i < l.length := (List.getElem?_eq_some_iff.1 ho').1
   have hs := all_get hstep ho'
   rw [Nat.zero_add] at hs
   have hdl : ∀ j, dep l.toArray l.length i j = true → φ j (f j) w1 := fun j hj => by
    have hSj := hdep j (by simpa using hj)
    refine hJ.2.1 j ?_ hSj
    refine Classical.byContradiction fun hge => ?_
    exact absurd hj (by rw [dep_far hB.2 l.length i j (by simpa using hge)]; exact Bool.false_ne_true)
   have := hs f w1 hJ.1 hdl (fun j hj => hJ.2.2 j (hwait j (by simpa using hj)))
   have grow : ∀ v w2, Q w1 w2 → φ i v w2 → (Q w.drew w2 ∧ (∀ j, j < l.length → upd S i true j = true → φ j (upd f i v j) w2) ∧ ∀ j, upd S i true j = false → upd f i v j = old a l j) := fun v w2 hq hφ => by
    refine ⟨hJ.1.trans hq, fun j hj hSj => ?_, fun j hSj => ?_⟩
    ·unfold upd at hSj ⊢
     by_cases e : j = i
     ·rw [if_pos e, e]; exact hφ
     ·rw [if_neg e] at hSj ⊢
      exact hmono _ _ _ _ (hJ.2.1 j hj hSj) hq
    ·unfold upd at hSj ⊢
     by_cases e : j = i
     ·rw [if_pos e] at hSj; cases hSj
     ·rw [if_neg e] at hSj ⊢
      exact hJ.2.2 j hSj
   split
   ·rename_i hw
    rw [if_pos hw] at this
    exact Oper.wp_mono (fun a' w2 ⟨v, e, hq, hφ⟩ => ⟨v, e, grow v w2 hq hφ⟩) this
   ·rename_i hw
    rw [if_neg hw] at this
    exact grow undef w1 (Q.refl _) this)
  (fun S f w1 hall hJ => hend f w1 (((Q.refl w).drew).trans hJ.1) (fun j hj => hJ.2.1 j hj (hall j (by simpa using hj))))
  l.toArray.size (Array.replicate l.toArray.size false) (old a l) { w with drawn := w.drawn + 1 } (by simp) (by simp) (fun i o ho h => absurd h (by rw [getD_rep]; exact Bool.false_ne_true)) ⟨Q.refl _, fun j hj h => absurd h (by show ¬ _ = _; dsimp only; rw [getD_rep]; exact Bool.false_ne_true), fun j _ => rfl⟩
 rw [← hst] at key
 exact key
theorem wp_made_last {P : Program} {id : Nat} {R : Exit → Act → World → Prop} {a : Act} {w : World} {l : List Oper} {ol : Oper} (hm : P.follows .mixedOrders = true) (hB : chk (l ++ [ol]) = true)
  (hall : ((List.range l.length).all fun j => dep (l ++ [ol]).toArray (l ++ [ol]).length l.length j) = true)
  (φ : Nat → Value → World → Prop) (hmono : ∀ i v w1 w2, φ i v w1 → Q w1 w2 → φ i v w2) (hstep : All (Step P R (l ++ [ol]) a w.drew φ) 0 l)
  (hend : ∀ f w', Q w w' → (∀ j, j < l.length → φ j (f j) w') →
   if Region.wanted ol (yielded (l ++ [ol]).toArray (acts f 0 (l ++ [ol]) a).tmps) = true then ol.wp P (acts f 0 (l ++ [ol]) a) w' (fun a' w' => ∃ v, a' = (acts f 0 (l ++ [ol]) a).put ol.dst v ∧ R .normal a' w') R
   else R .normal ((acts f 0 (l ++ [ol]) a).put ol.dst undef) w') : (Code.region id (l ++ [ol]).toArray true).wp P R a w := by
 unfold chk at hB
 rw [Bool.and_eq_true] at hB
 have hlast : (l ++ [ol])[l.length]? = some ol := by simp
 refine wp_region_any hm ?_
 have hst : a = acts (old a (l ++ [ol])) 0 (l ++ [ol]) a := start
 have key := any (P := P) (ops := (l ++ [ol]).toArray) (R := R) (A := fun f => acts f 0 (l ++ [ol]) a)
  (fun S f w' => if S l.length = true then (∀ j, j ≤ l.length → S j = true) ∧ R .normal (acts f 0 (l ++ [ol]) a) w' else Q w.drew w' ∧ (∀ j, j < l.length → S j = true → φ j (f j) w') ∧ ∀ j, S j = false → f j = old a (l ++ [ol]) j)
  (fun f i o v ho => acts_upd v (l ++ [ol]) 0 a hB.1 (Nat.zero_le _) (by simpa using ho)) hB.2
  (fun S f w1 i o ho hSi hdep hwait hJ => by
   have ho' : (l ++ [ol])[i]? = some o := by simpa using ho
   have hil : i < l.length + 1 := by simpa using (List.getElem?_eq_some_iff.1 ho').1
   have hnl : ¬ S l.length = true := fun h => by
    rw [if_pos h] at hJ
    have := hJ.1 i (by omega)
    rw [hSi] at this
    cases this
   rw [if_neg hnl] at hJ
   by_cases hi : i = l.length
   ·subst hi
    rw [hlast] at ho'
    obtain rfl := Option.some.inj ho'
    have hSj : ∀ j, j < l.length → S j = true := fun j hj => hdep j (by
     have := List.all_eq_true.1 hall j (List.mem_range.2 hj)
     simpa using this)
    have hu : upd S l.length true l.length = true := by simp [upd]
    have hua : ∀ j, j ≤ l.length → upd S l.length true j = true := fun j hj => by
     unfold upd
     split
     ·rfl
     ·exact hSj j (by omega)
    have := hend f w1 (((Q.refl w).drew).trans hJ.1) (fun j hj => hJ.2.1 j hj (hSj j hj))
    have hp : ∀ v, (acts f 0 (l ++ [ol]) a).put ol.dst v = acts (upd f l.length v) 0 (l ++ [ol]) a := fun v => acts_upd v (l ++ [ol]) 0 a hB.1 (Nat.zero_le _) (by simp)
    rw [if_pos hu]
    split
    ·rename_i hw
     rw [if_pos hw] at this
     refine Oper.wp_mono (fun a' w2 ⟨v, e, hR⟩ => ⟨v, e, ?_⟩) this
     exact ⟨hua, by rw [← hp v, ← e]; exact hR⟩
    ·rename_i hw
     rw [if_neg hw] at this
     exact ⟨hua, by rw [← hp]; exact this⟩
   ·have hil2 : i < l.length := by omega
    have ho2 : l[i]? = some o := by rw [List.getElem?_append_left hil2] at ho'; exact ho'
    have hs := all_get hstep ho2
    rw [Nat.zero_add] at hs
    have hdl : ∀ j, dep (l ++ [ol]).toArray (l ++ [ol]).length i j = true → φ j (f j) w1 := fun j hj => by
     have hSj := hdep j (by simpa using hj)
     refine hJ.2.1 j ?_ hSj
     refine Classical.byContradiction fun hge => ?_
     by_cases e : j = l.length
     ·rw [e] at hSj
      exact hnl hSj
     ·exact absurd hj (by rw [dep_far hB.2 _ i j (by simp; omega)]; exact Bool.false_ne_true)
    have := hs f w1 hJ.1 hdl (fun j hj => hJ.2.2 j (hwait j (by simpa using hj)))
    have hu : ¬ upd S i true l.length = true := by
     unfold upd
     rw [if_neg (by omega)]
     exact hnl
    have grow : ∀ v w2, Q w1 w2 → φ i v w2 → (Q w.drew w2 ∧ (∀ j, j < l.length → upd S i true j = true → φ j (upd f i v j) w2) ∧ ∀ j, upd S i true j = false → upd f i v j = old a (l ++ [ol]) j) := fun v w2 hq hφ => by
     refine ⟨hJ.1.trans hq, fun j hj hSj => ?_, fun j hSj => ?_⟩
     ·unfold upd at hSj ⊢
      by_cases e : j = i
      ·rw [if_pos e, e]; exact hφ
      ·rw [if_neg e] at hSj ⊢
       exact hmono _ _ _ _ (hJ.2.1 j hj hSj) hq
     ·unfold upd at hSj ⊢
      by_cases e : j = i
      ·rw [if_pos e] at hSj; cases hSj
      ·rw [if_neg e] at hSj ⊢
       exact hJ.2.2 j hSj
    rw [if_neg hu]
    split
    ·rename_i hw
     rw [if_pos hw] at this
     refine Oper.wp_mono (fun a' w2 ⟨v, e, hq, hφ⟩ => ⟨v, e, ?_⟩) this
     exact grow v w2 hq hφ
    ·rename_i hw
     rw [if_neg hw] at this
     exact grow undef w1 (Q.refl _) this)
  (fun S f w1 hall' hJ => by
   rw [if_pos (hall' l.length (by simp))] at hJ
   exact hJ.2)
  (l ++ [ol]).toArray.size (Array.replicate (l ++ [ol]).toArray.size false) (old a (l ++ [ol])) { w with drawn := w.drawn + 1 } (by simp) (by simp) (fun i o ho h => absurd h (by rw [getD_rep]; exact Bool.false_ne_true)) (by
   rw [if_neg (show ¬ _ = true by dsimp only; rw [getD_rep]; exact Bool.false_ne_true)]
   exact ⟨Q.refl _, fun j hj h => absurd h (by dsimp only; rw [getD_rep]; exact Bool.false_ne_true), fun j _ => rfl⟩)
 rw [← hst] at key
 exact key
theorem wp_made_last' {P : Program} {id : Nat} {R : Exit → Act → World → Prop} {a : Act} {w : World} {l : List Oper} {ol : Oper} (hm : P.follows .mixedOrders = true) (hB : chk l = true) (hl : l.getLast? = some ol)
  (hall : ((List.range l.dropLast.length).all fun j => dep l.toArray l.length l.dropLast.length j) = true)
  (φ : Nat → Value → World → Prop) (hmono : ∀ i v w1 w2, φ i v w1 → Q w1 w2 → φ i v w2) (hstep : All (Step P R l a w.drew φ) 0 l.dropLast)
  (hend : ∀ f w', Q w w' → (∀ j, j < l.dropLast.length → φ j (f j) w') →
   if Region.wanted ol (yielded l.toArray (acts f 0 l a).tmps) = true then ol.wp P (acts f 0 l a) w' (fun a' w' => ∃ v, a' = (acts f 0 l a).put ol.dst v ∧ R .normal a' w') R
   else R .normal ((acts f 0 l a).put ol.dst undef) w') : (Code.region id l.toArray true).wp P R a w := by
 have e : l.dropLast ++ [ol] = l := by
  have hne : l ≠ [] := fun h => by rw [h] at hl; cases hl
  rw [List.getLast?_eq_some_getLast hne] at hl
  rw [← Option.some.inj hl]
  exact List.dropLast_concat_getLast hne
 have := wp_made_last (id := id) (P := P) (R := R) (a := a) (w := w) (l := l.dropLast) (ol := ol) hm (by rw [e]; exact hB) (by rw [e]; exact hall) φ hmono (by rw [e]; exact hstep) (by rw [e]; exact hend)
 rw [e] at this
 exact this
/-! what stands in the frame -/
theorem acts_get_lt {f : Nat → Value} {d : Tmp} {v : Value} : ∀ (l : List Oper) (k : Nat) (a : Act), apartD (some d) l = true → (acts f k l (a.put (some d) v)).tmps.getD d undef = (a.put (some d) v).tmps.getD d undef
 | [], k, a, _ => rfl
 | o :: r, k, a, h => by
  obtain ⟨h1, h2⟩ := apart_ne h
  have hc := Act.put_comm a (x := o.dst) (y := some d) (f k) v (fun x hx e => h1 x hx e)
  rw [acts, ← hc, acts_get_lt r (k + 1) _ h2, hc]
  cases hod : o.dst with
  | none => rfl
  | some x =>
   have hne : x ≠ d := fun e => h1 x hod (by rw [e])
   simp only [Act.put, Array.getD_eq_getD_getElem?]
   rw [Array.getElem?_setIfInBounds_ne hne]
theorem acts_size {f : Nat → Value} : ∀ (l : List Oper) (k : Nat) (a : Act), (acts f k l a).tmps.size = a.tmps.size
 | [], k, a => rfl
 | o :: r, k, a => by
  rw [acts, acts_size r]
  cases o.dst <;> simp [Act.put]
theorem acts_get {f : Nat → Value} {d : Tmp} {i : Nat} : ∀ (l : List Oper) (k : Nat) (a : Act), dstsB l = true → k ≤ i → ((l[i - k]?).bind (·.dst)) = some d → d < a.tmps.size → (acts f k l a).eval (.tmp d) = f i
 | [], k, a, _, _, h, _ => by simp at h
 | p :: r, k, a, hd, hk, h, hs => by
  rw [dstsB, Bool.and_eq_true] at hd
  by_cases e : i = k
  ·subst e
   have hp : p.dst = some d := by simpa using h
   have hd1 := hd.1
   rw [hp] at hd1
   show (acts f (i + 1) r (a.put p.dst (f i))).tmps.getD d undef = f i
   rw [hp, acts_get_lt r (i + 1) a hd1]
   simp [Act.put, hs]
  ·rw [acts]
   exact acts_get r (k + 1) _ hd.2 (by omega) (by
    rw [show i - k = (i - (k + 1)) + 1 by omega] at h
    simpa using h) (by cases p.dst <;> simpa [Act.put] using hs)
theorem acts_same {f : Nat → Value} {d : Tmp} : ∀ (l : List Oper) (k : Nat) (a : Act), apartD (some d) l = true → (acts f k l a).eval (.tmp d) = a.eval (.tmp d)
 | [], k, a, _ => rfl
 | o :: r, k, a, h => by
  obtain ⟨h1, h2⟩ := apart_ne h
  rw [acts, acts_same r (k + 1) _ h2]
  cases hod : o.dst with
  | none => rfl
  | some x =>
   have hne : x ≠ d := fun e => h1 x hod (by rw [e])
   simp only [Act.put, Act.eval, Array.getD_eq_getD_getElem?]
   rw [Array.getElem?_setIfInBounds_ne hne]
theorem All.cons {S : Nat → Oper → Prop} {k : Nat} {o : Oper} {r : List Oper} (h : S k o) (t : All S (k + 1) r) : All S k (o :: r) := ⟨h, t⟩
theorem All.nil {S : Nat → Oper → Prop} {k : Nat} : All S k [] := trivial
theorem step_of {P : Program} {R : Exit → Act → World → Prop} {l : List Oper} {a : Act} {w0 : World} {φ : Nat → Value → World → Prop} {k : Nat} {o : Oper} (hg : o.guard = none)
  (h : ∀ (f : Nat → Value) (w : World), Q w0 w → (∀ j (_ : dep l.toArray l.length k j = true := by kernel_rfl), φ j (f j) w) → ∀ A : Act, (∀ d i (_ : ((l[i]?).bind (·.dst)) = some d := by kernel_rfl) (_ : d < a.tmps.size := by simp), A.eval (.tmp d) = f i) → (∀ d (_ : apartD (some d) l = true := by kernel_rfl), A.eval (.tmp d) = a.eval (.tmp d)) → (∀ j (_ : dep l.toArray l.length j k = true := by kernel_rfl), f j = old a l j) →
   o.wp P A w (fun a' w' => ∃ v, a' = A.put o.dst v ∧ Q w w' ∧ φ k v w') R) (hd : dstsB l = true) : Step P R l a w0 φ k o := fun f w hq hf ho => by
 rw [if_pos (by simp [Region.wanted, hg])]
 exact h f w hq (fun j hj => hf j hj) _ (fun d i hdi hs => acts_get l 0 a hd (Nat.zero_le _) (by simpa using hdi) hs) (fun d hd' => acts_same l 0 a hd') (fun j hj => ho j hj)
abbrev StepG (P : Program) (R : Exit → Act → World → Prop) (l : List Oper) (a : Act) (w0 : World) (φ : Nat → Value → World → Prop) (k : Nat) (o : Oper) : Prop :=
 o.guard = none ∧ ∀ (f : Nat → Value) (w : World), Q w0 w → (∀ j (_ : dep l.toArray l.length k j = true := by kernel_rfl), φ j (f j) w) → ∀ A : Act, (∀ d i (_ : ((l[i]?).bind (·.dst)) = some d := by kernel_rfl) (_ : d < a.tmps.size := by simp), A.eval (.tmp d) = f i) → (∀ d (_ : apartD (some d) l = true := by kernel_rfl), A.eval (.tmp d) = a.eval (.tmp d)) → (∀ j (_ : dep l.toArray l.length j k = true := by kernel_rfl), f j = old a l j) →
   o.wp P A w (fun a' w' => ∃ v, a' = A.put o.dst v ∧ Q w w' ∧ φ k v w') R
theorem all_imp {S T : Nat → Oper → Prop} (h : ∀ k o, S k o → T k o) : ∀ {l : List Oper} {k : Nat}, All S k l → All T k l
 | [], _, _ => trivial
 | o :: r, k, hA => ⟨h k o hA.1, all_imp h hA.2⟩
theorem made_last {P : Program} {id : Nat} {R : Exit → Act → World → Prop} {a : Act} {w : World} {l : List Oper} {ol : Oper} (φ : Nat → Value → World → Prop) (hm : P.follows .mixedOrders = true) (hB : chk l = true) (hl : l.getLast? = some ol)
  (hall : ((List.range l.dropLast.length).all fun j => dep l.toArray l.length l.dropLast.length j) = true) (hg : ol.guard = none)
  (hmono : ∀ i v w1 w2, φ i v w1 → Q w1 w2 → φ i v w2) (hstep : All (StepG P R l a w.drew φ) 0 l.dropLast)
  (hend : ∀ f w', Q w w' → (∀ j (_ : j < l.dropLast.length := by simp), φ j (f j) w') → ∀ A : Act, A = acts f 0 l a → (∀ d i (_ : ((l[i]?).bind (·.dst)) = some d := by kernel_rfl) (_ : d < a.tmps.size := by simp), A.eval (.tmp d) = f i) → (∀ d (_ : apartD (some d) l = true := by kernel_rfl), A.eval (.tmp d) = a.eval (.tmp d)) →
   ol.wp P A w' (fun a' w' => ∃ v, a' = A.put ol.dst v ∧ R .normal a' w') R) : (Code.region id l.toArray true).wp P R a w := by
 have hd : dstsB l = true := by
  unfold chk at hB
  rw [Bool.and_eq_true] at hB
  exact hB.1
 refine wp_made_last' hm hB hl hall φ hmono (all_imp (fun k o h => step_of h.1 h.2 hd) hstep) (fun f w' hq hf => ?_)
 rw [if_pos (by simp [Region.wanted, hg])]
 exact hend f w' hq (fun j hj => hf j hj) _ rfl (fun d i hdi hs => acts_get l 0 a hd (Nat.zero_le _) (by simpa using hdi) hs) (fun d hd' => acts_same l 0 a hd')
theorem made {P : Program} {id : Nat} {R : Exit → Act → World → Prop} {a : Act} {w : World} {l : List Oper} (φ : Nat → Value → World → Prop) (hm : P.follows .mixedOrders = true) (hB : chk l = true)
  (hmono : ∀ i v w1 w2, φ i v w1 → Q w1 w2 → φ i v w2) (hstep : All (StepG P R l a w.drew φ) 0 l)
  (hend : ∀ f w', Q w w' → (∀ j, j < l.length → φ j (f j) w') → R .normal (acts f 0 l a) w') : (Code.region id l.toArray true).wp P R a w := by
 have hd : dstsB l = true := by
  unfold chk at hB
  rw [Bool.and_eq_true] at hB
  exact hB.1
 exact wp_made hm hB φ hmono (all_imp (fun k o h => step_of h.1 h.2 hd) hstep) hend
theorem wp_val {P : Program} {R : Exit → Act → World → Prop} {o : Oper} {A : Act} {w w' : World} {φ : Value → World → Prop} (v : Value) (h : (execOp A.eval o).run P w = .ok (.value v) w') (hq : Q w w') (hφ : φ v w') :
  o.wp P A w (fun a' w' => ∃ v, a' = A.put o.dst v ∧ Q w w' ∧ φ v w') R := by
 unfold Oper.wp
 rw [h]
 exact ⟨v, rfl, hq, hφ⟩
theorem wp_value {P : Program} {R : Exit → Act → World → Prop} {o : Oper} {A : Act} {w : World} {φ : Value → World → Prop} (v : Value) (h : (execOp A.eval o).run P w = .ok (.value v) w) (hφ : φ v w) :
  o.wp P A w (fun a' w' => ∃ v, a' = A.put o.dst v ∧ Q w w' ∧ φ v w') R := wp_val v h (Q.refl w) hφ
end Ri
section
variable {P : Program} {t e size bytes : Nat} {w : World} {base : Nat}
end
namespace Ri
section
variable {P : Program} {R : Exit → Act → World → Prop} {o : Oper} {A : Act} {w : World} {φ : Value → World → Prop}
theorem wp_struct {ty : TypeId} {parts : Array (Nat × Operand)} {cells : Array Value} (ho : o.op = .build ty parts) (vals : List (Nat × Value)) (hp : (parts.map fun (i, x) => (i, A.eval x)).toList = vals) (hb : P.built ty vals = some cells) (h : φ (.agg cells) w) :
  o.wp P A w (fun a' w' => ∃ v, a' = A.put o.dst v ∧ Q w w' ∧ φ v w') R := by
 refine wp_build ty parts ho (by rw [hp, hb]; rfl) ⟨_, rfl, Q.refl w, ?_⟩
 rw [hp, hb]
 exact h
end
end Ri
theorem grown_setRow (w : World) (g : Nat) (cs : Array Value) : w.grownBy (w.setRow g cs) (some g) :=
 ⟨rfl, rfl, rfl, by simp, fun k _ hk => setRow_other w g k cs (fun e => hk (by rw [e]))⟩
theorem own_lower {w : World} {B B' : Nat} {e : TypeId} {size : Nat} {v : Value} {n : Nat} {xs : List Value} (h : w.ownsRow B e size v n xs) (hb : B' ≤ B) : w.ownsRow B' e size v n xs := by
 refine ⟨h.1, ?_⟩
 rcases h.2 with h2 | ⟨g, cap, cur, h1, h2, h3⟩
 ·exact .inl h2
 ·exact .inr ⟨g, cap, cur, h1, Nat.le_trans hb h2, h3⟩
namespace Ri
section
variable {P : Program} {R : Exit → Act → World → Prop} {o : Oper} {A : Act} {w : World} {φ : Value → World → Prop}
theorem wp_call {f : FuncId} {fn : Func} {args : Array Operand} {ts : Array TypeId} (vals : Array Value) (ho : o.op = .call { callee := .value (.func f), args := args, argTypes := ts }) (ha : args.map A.eval = vals)
  (hfn : P.funcs[f]? = some fn) (hn : (fn.name == "runtime.NumGoroutine") = false) (hb : fn.body.isNone = false) (hc : Calls P f vals w fun e w' => ∃ v, e = .returned v ∧ Q w w' ∧ φ v w') : o.wp P A w (fun a' w' => ∃ v, a' = A.put o.dst v ∧ Q w w' ∧ φ v w') R := by
 have hr : (execOp A.eval o).run P w = .ok (.enter f vals) w := by
  have e : execOp A.eval o = callFunc f (#[] ++ args.map A.eval ++ #[]) := by
   unfold execOp
   rw [ho]
   rfl
  have hn' : ¬ fn.name = "runtime.NumGoroutine" := by simpa using hn
  have hb' : ¬ fn.body = none := fun h => by rw [h] at hb; cases hb
  rw [e, ha]
  simp [callFunc, hfn, hn', hb']
 unfold Oper.wp
 rw [hr]
 refine hc.mono fun e w' ⟨v, he, hq, hφ⟩ => ?_
 subst he
 exact ⟨v, rfl, hq, hφ⟩
end
def Mono (p : Value → World → Prop) : Prop := ∀ v w1 w2, p v w1 → Q w1 w2 → p v w2
theorem Mono.is (c : Value) : Mono fun v _ => v = c := fun _ _ _ h _ => h
def MonoL : List (Value → World → Prop) → Prop
 | [] => True
 | p :: r => Mono p ∧ MonoL r
def phi (ps : List (Value → World → Prop)) (i : Nat) : Value → World → Prop := ps.getD i fun _ _ => True
theorem phi_mono : ∀ {ps : List (Value → World → Prop)}, MonoL ps → ∀ i, Mono (phi ps i)
 | [], _, i => fun _ _ _ _ _ => trivial
 | p :: r, h, 0 => h.1
 | p :: r, h, i + 1 => phi_mono (ps := r) h.2 i
end Ri
structure RdrB (Z : Nat) (P : Program) (t : TypeId) (k : Nat) {α : Type} (enc : α → List Value) (ok : World → α → Prop) : Prop where
 len : ∀ a, (enc a).length = k
 cells : P.cellsOf t = k
 read : ∀ {H : Type} {en : TypeId × Value → H} {w : World} {n : Nat} {cs : List Value} {x : DataW H × List MemPlace}, SizeOf.sizeOf x.1 < Z → DataW.trod en P w 0 (fun _ => true) true n t cs = some x → (∀ m ∈ x.1.weights P t, m ≤ 140737488351232) → ∃ a, cs = enc a ∧ ok w a
theorem Rdr.b {P : Program} {t : TypeId} {k : Nat} {α : Type} {enc : α → List Value} {ok : World → α → Prop} (R : Rdr P t k enc ok) (Z : Nat) : RdrB Z P t k enc ok := ⟨R.len, R.cells, fun _ h hm => R.read h hm⟩
theorem RdrB.all {P : Program} {t : TypeId} {k : Nat} {α : Type} {enc : α → List Value} {ok : World → α → Prop} (R : ∀ Z, RdrB Z P t k enc ok) : Rdr P t k enc ok := ⟨(R 0).len, (R 0).cells, fun {H en w n cs x} h hm => (R (SizeOf.sizeOf x.1 + 1)).read (Nat.lt_succ_self _) h hm⟩
section
variable {P : Program} {t e : TypeId} {Z : Nat}
theorem RdrB.slice {k bb : Nat} {α : Type} [Inhabited α] {enc : α → List Value} {ok : World → α → Prop} (R : RdrB Z P e k enc ok) (hk0 : 0 < k) (hu : P.underlying t = some (.slice e)) (hc : P.cellsOf t = 1) (hb : P.bytesOf e = bb) (hb0 : 0 < bb) : RdrB (Z + 1) P t 1 (encV (α := α)) (SlOk k enc ok) :=
 ⟨fun _ => rfl, hc, fun {H en w n cs x} hz h hm => by
  rcases Go.Deep.open_slice hu h with ⟨h1, h2⟩ | ⟨a, len, cap, m, k', D, Pl, h1, _, hl, hcm, hmm, hx, hcell⟩
  ·exact ⟨⟨none, 0, 0, []⟩, h1, ⟨Sl.nil w, fun _ => ⟨rfl, rfl⟩, fun x hx => (by cases hx), Nat.zero_le _⟩⟩
  ·simp only [if_true] at hmm
   rw [R.cells] at hcell
   have hx1 : x.1 = .slice ((List.range len).map D) ((List.range (m - len)).map fun j => D (len + j)) := by rw [hx]
   have hcap : cap ≤ 140737488351232 := by
    have := hm ((len + (m - len)) * P.bytesOf e) (by rw [hx1]; simp [DataW.weights, hu])
    have h3 : len + (m - len) ≤ (len + (m - len)) * P.bytesOf e := Nat.le_mul_of_pos_right _ (by rw [hb]; exact hb0)
    omega
   obtain ⟨q, hq⟩ := Go.Deep.choose_lt (α := α) (p := fun i y => w.cells? 0 (a.add (i * k)) k = some (enc y) ∧ ok w y) (n := len) (fun i hi => by
    obtain ⟨cs', e1, e2⟩ := hcell i (by omega)
    have hmem : D i ∈ (List.range len).map D := List.mem_map.2 ⟨i, by simp [hi], rfl⟩
    have hsz : SizeOf.sizeOf (D i) < Z := by
     have h3 := List.sizeOf_lt_of_mem hmem
     rw [hx1] at hz
     simp at hz
     omega
    obtain ⟨y, rfl, hy⟩ := R.read hsz e2 (fun m' hm' => hm m' (by
     rw [hx1]
     simp only [DataW.weights, hu, List.mem_cons, List.mem_append]
     exact .inr (.inl (weightsAll_mem' (d := D i) hmem m' hm'))))
    exact ⟨y, e1, hy⟩)
   have hL : (((List.range len).map q).flatMap enc).length = len * k := by rw [flatMap_length R.len]; simp
   refine ⟨⟨some a, len, cap, (List.range len).map q⟩, h1, ⟨⟨Open.rd_of_cells ?_, by simp, hl, Nat.le_trans hcap (by decide)⟩, fun h => (by cases h), fun y hy => ?_, hcap⟩⟩
   ·intro i hi
    rw [hL] at hi
    have hd : i / k < len := (Nat.div_lt_iff_lt_mul hk0).2 hi
    have hmod := Nat.mod_lt i hk0
    have hdm := Nat.div_add_mod i k
    obtain ⟨_, _, hcc⟩ := World.cells?_some (hq (i / k) hd).1
    have h3 := hcc (i % k) hmod
    rw [Go.Deep.add_add, show i / k * k + i % k = i by rw [Nat.mul_comm]; exact hdm] at h3
    rw [h3]
    have hg := flatMap_get R.len ((List.range len).map q) (i / k) (i % k) (q (i / k)) (by simp [hd]) hmod
    rw [show i / k * k + i % k = i by rw [Nat.mul_comm]; exact hdm] at hg
    rw [List.getElem?_eq_getElem (by rw [hL]; exact hi)] at hg
    exact hg.symm
   ·obtain ⟨i, hi, rfl⟩ := List.mem_map.1 hy
    exact (hq i (by simpa using hi)).2⟩
structure RdrFB (Z : Nat) (P : Program) (fs : Array Field) (i off k : Nat) {α : Type} (enc : α → List Value) (ok : World → α → Prop) : Prop where
 len : ∀ a, (enc a).length = k
 read : ∀ {H : Type} {en : TypeId × Value → H} {w : World} {n : Nat} {cs : List Value} {xs : List (DataW H × List MemPlace)}, (∀ x ∈ xs, SizeOf.sizeOf x.1 < Z) → cs.length = off + k →
  (∀ (j : Nat) (f : Field), fs[j]? = some f → DataW.trod en P w 0 (fun _ => true) true n f.type ((cs.drop f.offset).take (P.cellsOf f.type)) = xs[j]?) → xs.length = fs.size →
  (∀ (j : Nat) (f : Field) (x : DataW H × List MemPlace), fs[j]? = some f → xs[j]? = some x → ∀ m ∈ x.1.weights P f.type, m ≤ 140737488351232) → ∃ a, cs.drop off = enc a ∧ ok w a
theorem RdrFB.one {fs : Array Field} {i off k : Nat} {α : Type} {enc : α → List Value} {ok : World → α → Prop} {f : Field} (hf : fs[i]? = some f) (ho : f.offset = off) (R : RdrB Z P f.type k enc ok) : RdrFB Z P fs i off k enc ok :=
 ⟨R.len, fun {H en w n cs xs} hz hl hx hs hm => by
  have h := hx i f hf
  rw [ho, R.cells, List.take_of_length_le (by rw [List.length_drop]; omega)] at h
  obtain ⟨x, e⟩ : ∃ x, xs[i]? = some x := ⟨xs[i]'(by rw [hs]; exact (Array.getElem?_eq_some_iff.1 hf).1), List.getElem?_eq_getElem _⟩
  rw [e] at h
  exact R.read (hz x (List.mem_of_getElem? e)) h (hm i f x hf e)⟩
theorem RdrFB.cons {fs : Array Field} {i off k k' : Nat} {α β : Type} {enc : α → List Value} {ok : World → α → Prop} {enc' : β → List Value} {ok' : World → β → Prop} {f : Field} (hf : fs[i]? = some f) (ho : f.offset = off) (R : RdrB Z P f.type k enc ok)
  (S : RdrFB Z P fs (i + 1) (off + k) k' enc' ok') : RdrFB Z P fs i off (k + k') (fun p : α × β => enc p.1 ++ enc' p.2) (fun w p => ok w p.1 ∧ ok' w p.2) :=
 ⟨fun p => by rw [List.length_append, R.len, S.len], fun {H en w n cs xs} hz hl hx hs hm => by
  have h := hx i f hf
  rw [ho, R.cells] at h
  obtain ⟨x, e⟩ : ∃ x, xs[i]? = some x := ⟨xs[i]'(by rw [hs]; exact (Array.getElem?_eq_some_iff.1 hf).1), List.getElem?_eq_getElem _⟩
  rw [e] at h
  obtain ⟨a, e1, h1⟩ := R.read (hz x (List.mem_of_getElem? e)) h (hm i f x hf e)
  obtain ⟨b, e2, h2⟩ := S.read hz (by omega) hx hs hm
  refine ⟨(a, b), ?_, h1, h2⟩
  rw [← e1, ← e2, ← List.drop_drop, List.take_append_drop]⟩
theorem RdrB.struct {fs : Array Field} {k : Nat} {α : Type} {enc : α → List Value} {ok : World → α → Prop} (hu : P.underlying t = some (.struct fs)) (hc : P.cellsOf t = k) (S : RdrFB Z P fs 0 0 k enc ok) : RdrB (Z + 1) P t k enc ok :=
 ⟨S.len, hc, fun {H en w n cs x} hz h hm => by
  obtain ⟨xs, k', _, rfl, hl, hxl, hf⟩ := DataW.trod_struct hu h
  have := S.read (cs := cs) (fun y hy => by
   have h3 := List.sizeOf_lt_of_mem (List.mem_map.2 ⟨y, hy, rfl⟩ : y.1 ∈ xs.map (·.1))
   simp at hz
   omega) (by rw [hl, hc]; omega) hf hxl (fun j f x hfj hxj m hmj => hm m (by
   simp only [DataW.weights, hu]
   exact DataW.weights_mem_each (j := j) (t := f.type) (d := x.1) (by simpa using ⟨f, by simpa using hfj, rfl⟩) (by simpa using ⟨x.2, hxj⟩) m hmj))
  simpa using this⟩
end
inductive Cel where
 | mk (n : Int) (nul und : Bool) (A : Option Addr) (len cap : Nat) (parts : List Cel)
instance : Inhabited Cel := ⟨.mk 0 false false none 0 0 []⟩
def encC : Cel → List Value
 | .mk n a b A len cap _ => [.int .i64 n, .bool a, .bool b, .slice A len cap]
theorem len_encC (c : Cel) : (encC c).length = 4 := by cases c; rfl
def Cel.v : Cel → Value
 | .mk n a b A len cap _ => .agg #[.int .i64 n, .bool a, .bool b, .slice A len cap]
def Cel.parts : Cel → List Cel
 | .mk _ _ _ _ _ _ ps => ps
inductive CelR (w : World) : Cel → Prop
 | mk {n : Int} {a b : Bool} {A : Option Addr} {len cap : Nat} {parts : List Cel} : (Lit.int .i64 n).wf = true → Sl 4 encC w A len cap parts → (A = none → len = 0 ∧ cap = 0) → len ≤ 140737488351232 → (∀ p ∈ parts, CelR w p) → CelR w (.mk n a b A len cap parts)
theorem CelR.up {w w' : World} {c : Cel} (h : CelR w c) (hq : Q w w') : CelR w' c := by
 induction h with
 | mk h1 h2 h3 h4 _ ih => exact .mk h1 (h2.up hq) h3 h4 ih
def sameC : Cel → Cel → Bool
 | .mk n x y _ _ _ ps, .mk m u v _ _ _ qs => n == m && (x == u && (y == v && (ps.length == qs.length && (ps.attach.zip qs).all fun z => sameC z.1.1 z.2)))
termination_by c => SizeOf.sizeOf c
decreasing_by
 have := List.sizeOf_lt_of_mem z.1.2
 simp
 omega
theorem zip_attach {α β : Type} (f : α → β → Bool) : ∀ (l : List α) (m : List β), ((l.attach.zip m).all fun z => f z.1.1 z.2) = (l.zip m).all fun z => f z.1 z.2 := by
 intro l m
 have e : (l.zip m) = (l.attach.zip m).map fun z => (z.1.1, z.2) := by
  rw [show (fun z : {x // x ∈ l} × β => (z.1.1, z.2)) = Prod.map Subtype.val id from rfl, ← List.zip_map, List.map_id, List.attach_map_subtype_val]
 rw [e, List.all_map]
 rfl
theorem sameC_mk (n : Int) (x y : Bool) (A : Option Addr) (l c : Nat) (ps : List Cel) (m : Int) (u v : Bool) (B : Option Addr) (k d : Nat) (qs : List Cel) :
  sameC (.mk n x y A l c ps) (.mk m u v B k d qs) = (n == m && (x == u && (y == v && (ps.length == qs.length && (ps.zip qs).all fun z => sameC z.1 z.2)))) := by
 rw [sameC, zip_attach]
theorem zip_take {f : Cel → Cel → Bool} {ps qs : List Cel} {k : Nat} {p q : Cel} (hp : ps[k]? = some p) (hq : qs[k]? = some q) : ((ps.take (k + 1)).zip (qs.take (k + 1))).all (fun z => f z.1 z.2) = (((ps.take k).zip (qs.take k)).all (fun z => f z.1 z.2) && f p q) := by
 have h1 : ps.take (k + 1) = ps.take k ++ [p] := by rw [List.take_add_one, hp]; rfl
 have h2 : qs.take (k + 1) = qs.take k ++ [q] := by rw [List.take_add_one, hq]; rfl
 have hl : (ps.take k).length = (qs.take k).length := by
  have a := (List.getElem?_eq_some_iff.1 hp).1
  have b := (List.getElem?_eq_some_iff.1 hq).1
  rw [List.length_take, List.length_take]
  omega
 rw [h1, h2, List.zip_append hl, List.all_append]
 simp
theorem zip_bad {f : Cel → Cel → Bool} {ps qs : List Cel} {k : Nat} {p q : Cel} (hp : ps[k]? = some p) (hq : qs[k]? = some q) (h : f p q = false) : (ps.zip qs).all (fun z => f z.1 z.2) = false := by
 rw [List.all_eq_false]
 refine ⟨(p, q), List.mem_of_getElem? (i := k) ?_, by simp [h]⟩
 rw [List.getElem?_zip_eq_some]
 exact ⟨hp, hq⟩
theorem cel_step {Z : Nat} (h : RdrB Z Try.prog 31 4 encC CelR) : RdrB (Z + 1 + 1) Try.prog 31 4 encC CelR := by
 have S := RdrB.slice h (by decide) Try.underlying29 (by kernel_rfl) (show Try.prog.bytesOf 31 = 40 by kernel_rfl) (by decide)
 have T : RdrB (Z + 1 + 1) Try.prog 31 4 (fun p : Int × Bool × Bool × SlV Cel => encI .i64 p.1 ++ (encB p.2.1 ++ (encB p.2.2.1 ++ encV p.2.2.2))) (fun w p => (Lit.int .i64 p.1).wf = true ∧ (True ∧ (True ∧ SlOk 4 encC CelR w p.2.2.2))) :=
  RdrB.struct Try.underlying31 (by kernel_rfl) (by
   refine RdrFB.cons (i := 0) (off := 0) (k := 1) (k' := 3) (enc := encI .i64) (enc' := fun p : Bool × Bool × SlV Cel => encB p.1 ++ (encB p.2.1 ++ encV p.2.2)) (ok := fun (_ : World) (a : Int) => (Lit.int .i64 a).wf = true) (ok' := fun w p => True ∧ (True ∧ SlOk 4 encC CelR w p.2.2)) (f := _) (hf := rfl) ?_ ?_ ?_
   ·rfl
   ·exact (Rdr.int Try.underlying3 (by kernel_rfl)).b _
   refine RdrFB.cons (i := 1) (off := 1) (k := 1) (k' := 2) (enc := encB) (enc' := fun p : Bool × SlV Cel => encB p.1 ++ encV p.2) (ok := fun _ _ => True) (ok' := fun w p => True ∧ SlOk 4 encC CelR w p.2) (f := _) (hf := rfl) ?_ ?_ ?_
   ·rfl
   ·exact (Rdr.bool Try.underlying4 (by kernel_rfl)).b _
   refine RdrFB.cons (i := 2) (off := 2) (k := 1) (k' := 1) (enc := encB) (enc' := encV) (ok := fun _ _ => True) (ok' := SlOk 4 encC CelR) (f := _) (hf := rfl) ?_ ?_ ?_
   ·rfl
   ·exact (Rdr.bool Try.underlying4 (by kernel_rfl)).b _
   refine RdrFB.one (f := _) (hf := rfl) ?_ ?_
   ·rfl
   exact S)
 exact ⟨len_encC, T.cells, fun {H en w n cs x} hz hx hm => by
  obtain ⟨⟨a, b, c, s⟩, rfl, h1, -, -, h4⟩ := T.read hz hx hm
  exact ⟨.mk a b c s.A s.n s.c s.xs, rfl, .mk h1 h4.sl h4.nil_ (Nat.le_trans h4.sl.cap h4.big) h4.all⟩⟩
theorem RdrB.less {P : Program} {t : TypeId} {Z Z' k : Nat} {α : Type} {enc : α → List Value} {ok : World → α → Prop} (h : RdrB Z P t k enc ok) (hz : Z' ≤ Z) : RdrB Z' P t k enc ok := ⟨h.len, h.cells, fun hx => h.read (Nat.lt_of_lt_of_le hx hz)⟩
theorem cel_all : ∀ Z, RdrB Z Try.prog 31 4 encC CelR
 | 0 => ⟨len_encC, by kernel_rfl, fun h => absurd h (Nat.not_lt_zero _)⟩
 | Z + 1 => (cel_step (cel_all Z)).less (Nat.le_succ _)
theorem rdCell : Rdr Try.prog 31 4 encC CelR := RdrB.all cel_all
theorem cel_at {w : World} {A : Option Addr} {n c : Nat} {ps : List Cel} (h : Sl 4 encC w A n c ps) {k : Nat} (hk : k < n) :
  ∃ b o m x y B l d qs, A = some ⟨b, o, none⟩ ∧ b < w.heap.size ∧ ps[k]? = some (.mk m x y B l d qs) ∧ w.cell? ⟨b, o + k * 4, none⟩ = some (.int .i64 m) ∧ w.cell? ⟨b, o + k * 4 + 1, none⟩ = some (.bool x) ∧ w.cell? ⟨b, o + k * 4 + 2, none⟩ = some (.bool y) ∧ w.cell? ⟨b, o + k * 4 + 3, none⟩ = some (.slice B l d) := by
 obtain ⟨b, o, x, e, hb, hx, hc⟩ := h.at_ len_encC (by decide) k hk
 cases x with
 | mk m x y B l d qs =>
  exact ⟨b, o, m, x, y, B, l, d, qs, e, hb, hx, (by have h0 := hc 0 _ rfl; rw [Nat.add_zero] at h0; exact h0), hc 1 _ rfl, hc 2 _ rfl, hc 3 _ rfl⟩
set_option maxHeartbeats 4000000 in
theorem Count_any {w : World} {a : Cel} (h : CelR w a) : ∀ W, Q w W → Calls Try.prog 20 #[a.v] W fun e w' => (∃ n : Int, e = .returned (.int .i64 n)) ∧ Q W w' := by
 induction h with
 | @mk n x y A len cap parts hn hsl hnil hcap hall ih =>
  intro W hqW
  have HSL := hide hsl
  have HIH := hide ih
  have HQW := hide hqW
  show Calls _ _ #[.agg #[.int .i64 n, .bool x, .bool y, .slice A len cap]] W _
  obtain ⟨w1, hw1⟩ : ∃ w1, W.alloc (.cells #[.int .i64 n, .bool x, .bool y, .slice A len cap] 31) = w1 := ⟨_, rfl⟩
  have hq1 : Q W w1 := by rw [← hw1]; exact (Q.refl W).alloc _
  have hs1 : W.heap.size < w1.heap.size := by rw [← hw1]; simp
  have K3 := hide (show w1.cell? ⟨W.heap.size, 3, none⟩ = some (.slice A len cap) by rw [← hw1]; simp)
  have hlb : (len : Int) ≤ 140737488351232 := by have := hsl.cap; omega
  have HQ1 := hide hq1
  have HW1 := hide hw1
  clear hn hsl hnil hcap hall ih hqW hq1 hw1
  go_enter Try.func20, Try.ntmps20
  go_wp2_with fail
  rw [HW1.out]
  go_loopw [3, 4] (fun v3 vi wr => ∃ (k : Nat) (m : Int), k ≤ len ∧ v3 = .int .i64 m ∧ vi = .int .i64 k ∧ Q w1 wr) (fun _ vi _ => len - (intOf vi).toNat)
  case atStart => exact ⟨0, 1, by omega, by go_num, by go_num, Q.refl _⟩
  case round =>
   obtain ⟨k, m, hk, rfl, rfl, hq⟩ := hrel
   have k3 := (hq.facts.1 _ 3 hs1).trans K3.out
   have HQ := hide hq
   by_cases hlt : k < len
   ·have hd1 : decide ((k : Int) < (len : Int)) = true := by simp; omega
    have hd0 : decide (k < len) = true := by simp; omega
    have hlti : (k : Int) < (len : Int) := by omega
    obtain ⟨b, o, m', x', y', B, l', d', qs, e, hb, hx, z0, z1, z2, z3⟩ := cel_at (HSL.out.up ((HQW.out.trans HQ1.out).trans hq)) hlt
    cases e
    have HC := hide (HIH.out _ (List.mem_of_getElem? hx) wr ((HQW.out.trans HQ1.out).trans hq))
    unfold Cel.v at HC
    dsimp only at HC
    clear hx hq hk
    go_wp2_with fail
    refine HC.out.mono ?_
    rintro e w2 ⟨⟨m2, rfl⟩, hq2⟩
    have HQ2 := hide (HQ.out.trans hq2)
    clear hq2 z0 z1 z2 z3 k3
    go_wp2_with fail
    go_roundw
    case rel => exact ⟨k + 1, _, by omega, rfl, by go_num, HQ2.out⟩
    case measure => simp [intOf] <;> omega
   ·have hd1 : decide ((k : Int) < (len : Int)) = false := by simp; omega
    have hd0 : decide (k < len) = false := by simp; omega
    obtain rfl : k = len := by omega
    clear hq
    go_wp2_with fail
    go_ret
    exact ⟨⟨_, rfl⟩, HQ1.out.trans HQ.out⟩
theorem cell_blkJ {w : World} {g j : Nat} {cs : Array Value} {ty : TypeId} {u : Value} (h : w.heap[g]? = some (.cells cs ty (0, 0))) (hu : cs[j]? = some u) : w.cell? ⟨g, j, none⟩ = some u := by
 rw [cell_of_row w g j cs ty (0, 0) h]
 exact hu
def SameP (W : World) (f : Nat) (p q : Cel) : Prop := Calls Try.prog f #[p.v, q.v] W fun e w' => e = .returned (.bool (sameC p q)) ∧ Q W w'
set_option maxHeartbeats 4000000 in
theorem rSame_any {w : World} {a : Cel} (h : CelR w a) : ∀ W, Q w W → ∀ b, CelR W b → SameP W 22 a b := by
 induction h with
 | @mk n x y A len cap ps hn hsl hnil hcap hall ih =>
  intro W hqW b hb
  cases hb with
  | @mk m u v B k d qs hm hsl2 hnil2 hcap2 hall2 =>
   unfold SameP
   obtain ⟨r4, hr4⟩ : ∃ r4, (ps.length == qs.length && (ps.zip qs).all fun z => sameC z.1 z.2) = r4 := ⟨_, rfl⟩
   have HSM := hide (show sameC (.mk n x y A len cap ps) (.mk m u v B k d qs) = (n == m && (x == u && (y == v && r4))) by rw [sameC_mk, hr4])
   rw [HSM.out]
   show Calls _ _ #[.agg #[.int .i64 n, .bool x, .bool y, .slice A len cap], .agg #[.int .i64 m, .bool u, .bool v, .slice B k d]] W _
   obtain ⟨w1, hw1⟩ : ∃ w1, W.alloc (.cells #[.int .i64 n, .bool x, .bool y, .slice A len cap] 31) = w1 := ⟨_, rfl⟩
   have hq1 : Q W w1 := by rw [← hw1]; exact (Q.refl W).alloc _
   have hb1 : w1.heap[W.heap.size]? = some (.cells #[.int .i64 n, .bool x, .bool y, .slice A len cap] 31 (0, 0)) := by rw [← hw1]; exact heap_alloc_new W _
   have hs1 : W.heap.size < w1.heap.size := by rw [← hw1]; simp
   obtain ⟨w2, hw2⟩ : ∃ w2, w1.alloc (.cells #[.int .i64 m, .bool u, .bool v, .slice B k d] 31) = w2 := ⟨_, rfl⟩
   have hq2 : Q w1 w2 := by rw [← hw2]; exact (Q.refl w1).alloc _
   have hb2 : w2.heap[w1.heap.size]? = some (.cells #[.int .i64 m, .bool u, .bool v, .slice B k d] 31 (0, 0)) := by rw [← hw2]; exact heap_alloc_new w1 _
   have u0 := (hq2.facts.1 _ 0 hs1).trans (cell_blkJ (j := 0) hb1 rfl)
   have u1 := (hq2.facts.1 _ 1 hs1).trans (cell_blkJ (j := 1) hb1 rfl)
   have u2 := (hq2.facts.1 _ 2 hs1).trans (cell_blkJ (j := 2) hb1 rfl)
   have u3 := (hq2.facts.1 _ 3 hs1).trans (cell_blkJ (j := 3) hb1 rfl)
   have v0 : w2.cell? ⟨w1.heap.size, 0, none⟩ = some (.int .i64 m) := cell_blkJ (j := 0) hb2 rfl
   have v1 : w2.cell? ⟨w1.heap.size, 1, none⟩ = some (.bool u) := cell_blkJ (j := 1) hb2 rfl
   have v2 : w2.cell? ⟨w1.heap.size, 2, none⟩ = some (.bool v) := cell_blkJ (j := 2) hb2 rfl
   have v3 : w2.cell? ⟨w1.heap.size, 3, none⟩ = some (.slice B k d) := cell_blkJ (j := 3) hb2 rfl
   have hsz : w1.heap.size = W.heap.size + 1 := by rw [← hw1]; simp
   have hs2 : W.heap.size + 1 < w2.heap.size := by rw [← hsz, ← hw2]; simp
   have hs0 : W.heap.size < w2.heap.size := by omega
   rw [hsz] at v0 v1 v2 v3
   have HIH := hide (fun W' (hW' : Q w2 W') p (hp : p ∈ ps) q (hq : q ∈ qs) => ih p hp W' ((hqW.trans (hq1.trans hq2)).trans hW') q (((hall2 q hq).up (hq1.trans hq2)).up hW'))
   have H1 := hide (hsl.up (hqW.trans (hq1.trans hq2)))
   have H2 := hide (hsl2.up (hq1.trans hq2))
   have hni : (len : Int) ≤ 140737488351232 := by have := hsl.cap; omega
   have hmi : (k : Int) ≤ 140737488351232 := by have := hsl2.cap; omega
   have HL1 := hide hsl.len
   have HL2 := hide hsl2.len
   have HQ2 := hide (hq1.trans hq2)
   have HW1 := hide hw1
   have HW2 := hide hw2
   have HR4 := hide hr4
   have U3 := hide u3
   have V3 := hide v3
   clear hsz hn hsl hnil hcap hall ih hqW hm hsl2 hnil2 hcap2 hall2 hr4 hq1 hq2 hb1 hb2 hw1 hw2 HSM
   go_enter Try.func22, Try.ntmps22
   go_upto_region 1 with fail
   rw [HW1.out, HW2.out]
   cases h1 : (n == m) with
   | false =>
    have d1 : (n != m) = true := by simp [bne, h1]
    go_wp2_with fail
    go_ret
    exact ⟨by rw [h1]; rfl, HQ2.out⟩
   | true =>
    have d1 : (n != m) = false := by simp [bne, h1]
    cases h2 : (x == u) with
    | false =>
     have d2 : (x != u) = true := by simp [bne, h2]
     go_wp2_with fail
     go_ret
     exact ⟨by rw [h1, h2]; rfl, HQ2.out⟩
    | true =>
     have d2 : (x != u) = false := by simp [bne, h2]
     cases h3 : (y == v) with
     | false =>
      have d3 : (y != v) = true := by simp [bne, h3]
      go_wp2_with fail
      go_ret
      exact ⟨by rw [h1, h2, h3]; rfl, HQ2.out⟩
     | true =>
      have d3 : (y != v) = false := by simp [bne, h3]
      have HE : Hid ((n == m && (x == u && (y == v && r4))) = r4) := hide (by rw [h1, h2, h3]; rfl)
      by_cases hnm : len = k
      ·subst hnm
       have d4 : ((len : Int) != (len : Int)) = false := by simp
       have HLE := hide (show (ps.length == qs.length) = true by rw [HL1.out, HL2.out]; simp)
       go_wp2_with fail
       clear h1 h2 h3 d1 d2 d3 d4 u0 u1 u2 u3 v0 v1 v2 v3
       go_loopw [5] (fun vi wr => ∃ j : Nat, j ≤ len ∧ vi = .int .i64 j ∧ ((ps.take j).zip (qs.take j)).all (fun z => sameC z.1 z.2) = true ∧ Q w2 wr) (fun vi _ => len - (intOf vi).toNat)
       case atStart => exact ⟨0, by omega, by go_num, by simp, Q.refl _⟩
       case round =>
        obtain ⟨j, hj, rfl, hall, hq⟩ := hrel
        obtain ⟨wx, rfl⟩ : ∃ wx : World, wx = wr := ⟨_, rfl⟩
        have HQ := hide hq
        have HALL := hide hall
        have u3 := (hq.facts.1 _ 3 hs0).trans U3.out
        have v3 := (hq.facts.1 _ 3 hs2).trans V3.out
        clear hall
        by_cases hlt : j < len
        ·have hd1 : decide ((j : Int) < (len : Int)) = true := by simp; omega
         have hd0 : decide (j < len) = true := by simp; omega
         have hlti : (j : Int) < (len : Int) := by omega
         obtain ⟨b, o, m1, x1, y1, B1, l1, e1, qs1, e, hb, hx, z0, z1, z2, z3⟩ := cel_at (H1.out.up hq) hlt
         cases e
         obtain ⟨b2, o2, m2, x2, y2, B2, l2, e2, qs2, e, hb2, hx2, t0, t1, t2, t3⟩ := cel_at (H2.out.up hq) hlt
         cases e
         obtain ⟨r, hr⟩ : ∃ r, sameC (.mk m1 x1 y1 B1 l1 e1 qs1) (.mk m2 x2 y2 B2 l2 e2 qs2) = r := ⟨_, rfl⟩
         have HC := hide (fun W' (hW' : Q wx W') => HIH.out W' (hq.trans hW') _ (List.mem_of_getElem? hx) _ (List.mem_of_getElem? hx2))
         unfold SameP at HC
         rw [hr] at HC
         have HR := hide hr
         unfold Cel.v at HC
         dsimp only at HC
         have HX := hide hx
         have HX2 := hide hx2
         have hsx : W.heap.size < wx.heap.size := by have := HQ.out.size; omega
         have hsx1 : W.heap.size + 1 < wx.heap.size := by have := HQ.out.size; omega
         clear hx hx2 hq hr
         go_upto_region 6 with fail
         have hxc := ext_cell
         refine wp_region_ext (by kernel_rfl) (by kernel_rfl) ?_
         repeat (go_big_quiet_step (((go_at_call 22; exact ext_call (HC.out _ (q_ext _ _))))))
         clear hxc
         refine wpQuiet_nil ?_
         intro wz hwwz
         have hqwz := q_of_ext hwwz
         clear hwwz
         obtain ⟨hcwz, hfwz, hzwz⟩ := hqwz.facts
         try simp at hzwz
         try have hs0wz : w.heap.size < wz.heap.size := by omega
         try have hs1wz : w.heap.size + 1 < wz.heap.size := by omega
         clear hcwz hfwz z0 z1 z2 z3 t0 t1 t2 t3 u3 v3
         cases r with
         | true =>
          go_wp2_with fail
          go_roundw
          case rel => exact ⟨j + 1, by omega, by go_num, by rw [zip_take HX.out HX2.out, HALL.out, HR.out]; rfl, HQ.out.trans hqwz⟩
          case measure => simp [intOf] <;> omega
         | false =>
          go_wp2_with fail
          go_ret
          exact ⟨by rw [HE.out, ← HR4.out, zip_bad HX.out HX2.out HR.out, Bool.and_false]; rfl, HQ2.out.trans (HQ.out.trans hqwz)⟩
        ·have hd1 : decide ((j : Int) < (len : Int)) = false := by simp; omega
         have hd0 : decide (j < len) = false := by simp; omega
         obtain rfl : j = len := by omega
         clear hq
         go_wp2_with fail
         go_ret
         have hall := HALL.out
         rw [List.take_of_length_le (by have := HL1.out; omega), List.take_of_length_le (by have := HL2.out; omega)] at hall
         exact ⟨by rw [HE.out, ← HR4.out, HLE.out, hall]; rfl, HQ2.out.trans HQ.out⟩
      ·have d4 : ((len : Int) != (k : Int)) = true := by simp; omega
       have HLE := hide (show (ps.length == qs.length) = false by rw [HL1.out, HL2.out]; simp; omega)
       clear hnm
       go_wp2_with fail
       go_ret
       exact ⟨by rw [HE.out, ← HR4.out, HLE.out]; rfl, HQ2.out⟩
theorem box1 {w w1 : World} {c : Array Value} {t : TypeId} (h : w.alloc (.cells c t) = w1) : Q w w1 ∧ w1.heap.size = w.heap.size + 1 ∧ ∀ (j : Nat) u, c[j]? = some u → w1.cell? ⟨w.heap.size, j, none⟩ = some u := by
 subst h
 exact ⟨(Q.refl w).alloc _, by simp, fun j u hu => cell_blkJ (heap_alloc_new w _) hu⟩
theorem box2 {w w2 : World} {c d : Array Value} {t s : TypeId} (h : (w.alloc (.cells c t)).alloc (.cells d s) = w2) : Q w w2 ∧ w2.heap.size = w.heap.size + 2 ∧ (∀ (j : Nat) u, c[j]? = some u → w2.cell? ⟨w.heap.size, j, none⟩ = some u) ∧ ∀ (j : Nat) u, d[j]? = some u → w2.cell? ⟨w.heap.size + 1, j, none⟩ = some u := by
 obtain ⟨w1, hw1⟩ : ∃ w1, w.alloc (.cells c t) = w1 := ⟨_, rfl⟩
 rw [hw1] at h
 obtain ⟨q1, s1, c1⟩ := box1 hw1
 obtain ⟨q2, s2, c2⟩ := box1 h
 rw [s1] at s2 c2
 exact ⟨q1.trans q2, s2, fun j u hu => (q2.facts.1 _ j (by omega)).trans (c1 j u hu), c2⟩
theorem box3 {w w3 : World} {c d b : Array Value} {t s r : TypeId} (h : ((w.alloc (.cells c t)).alloc (.cells d s)).alloc (.cells b r) = w3) : Q w w3 ∧ w3.heap.size = w.heap.size + 3 ∧ (∀ (j : Nat) u, c[j]? = some u → w3.cell? ⟨w.heap.size, j, none⟩ = some u) ∧ (∀ (j : Nat) u, d[j]? = some u → w3.cell? ⟨w.heap.size + 1, j, none⟩ = some u) ∧ ∀ (j : Nat) u, b[j]? = some u → w3.cell? ⟨w.heap.size + 2, j, none⟩ = some u := by
 obtain ⟨w2, hw2⟩ : ∃ w2, (w.alloc (.cells c t)).alloc (.cells d s) = w2 := ⟨_, rfl⟩
 rw [hw2] at h
 obtain ⟨q1, s1, c1, d1⟩ := box2 hw2
 obtain ⟨q2, s2, c2⟩ := box1 h
 rw [s1] at s2 c2
 exact ⟨q1.trans q2, s2, fun j u hu => (q2.facts.1 _ j (by omega)).trans (c1 j u hu), fun j u hu => (q2.facts.1 _ j (by omega)).trans (d1 j u hu), c2⟩
abbrev lfV (n : Int) : Value := .agg #[.int .i64 2, .int .i64 n, .bool false, .slice none 0 0]
def Lf (n s : Int) : Prop := (n = 8 ∧ s = 1) ∨ (n = 16 ∧ s = 2)
abbrev opV (g : Nat) : Value := .agg #[.int .i64 4, .int .i64 0, .bool false, .slice (some ⟨g, 0, none⟩) 1 1]
structure Op8 (w : World) (g : Nat) : Prop where
 lt : g < w.heap.size
 c0 : w.cell? ⟨g, 0, none⟩ = some (.int .i64 2)
 c1 : w.cell? ⟨g, 1, none⟩ = some (.int .i64 8)
 c2 : w.cell? ⟨g, 2, none⟩ = some (.bool false)
 c3 : w.cell? ⟨g, 3, none⟩ = some (.slice none 0 0)
theorem Op8.up {w w' : World} {g : Nat} (h : Op8 w g) (hq : Q w w') : Op8 w' g := ⟨Nat.lt_of_lt_of_le h.lt hq.size, (hq.facts.1 _ _ h.lt).trans h.c0, (hq.facts.1 _ _ h.lt).trans h.c1, (hq.facts.1 _ _ h.lt).trans h.c2, (hq.facts.1 _ _ h.lt).trans h.c3⟩
abbrev tgV (b : Bool) : Value := .agg #[.int .i64 4, .bool b]
def R1 (w : World) (v : Value) (e : Ending) (w' : World) : Prop := e = .returned v ∧ Q w w'
theorem sum2 (g : Nat) (a b : Int) (w : World) (hg : g < w.heap.size) (h0 : w.cell? ⟨g, 0, none⟩ = some (.int .i64 a)) (h1 : w.cell? ⟨g, 1, none⟩ = some (.int .i64 b)) (ha : 0 ≤ a) (hb : 0 ≤ b) (ha' : a ≤ 4096) (hb' : b ≤ 4096) :
  Calls Try.prog 66 #[.slice (some ⟨g, 0, none⟩) 2 2] w (R1 w (.int .i64 (a + b))) := by
 have m1 : min a 1099511627776 = a := by omega
 have m2 : min b 1099511627776 = b := by omega
 have m3 : min 1099511627776 a = a := by omega
 have m4 : min 1099511627776 (a + b) = a + b := by omega
 have H0 := hide h0
 have H1 := hide h1
 clear h0 h1
 unfold R1
 go_enter Try.func66, Try.ntmps66
 go_wp2_with fail
 go_loopw [3, 8] (fun v3 vi wr => ∃ k : Nat, k ≤ 2 ∧ vi = .int .i64 k ∧ v3 = .int .i64 (if k = 0 then 0 else if k = 1 then a else a + b) ∧ Q w wr) (fun _ vi _ => 2 - (intOf vi).toNat)
 case atStart => exact ⟨0, by omega, by go_num, rfl, Q.refl _⟩
 case round =>
  obtain ⟨k, hk, rfl, rfl, hq⟩ := hrel
  have HQ := hide hq
  have h0 := (hq.facts.1 _ 0 hg).trans H0.out
  have h1 := (hq.facts.1 _ 1 hg).trans H1.out
  clear hq
  match k, hk with
  | 0, _ =>
   go_wp2_with fail
   go_roundw
   case rel => exact ⟨1, by omega, by go_num, by simp [m1, m3], HQ.out⟩
   case measure => simp [intOf]
  | 1, _ =>
   go_wp2_with fail
   go_roundw
   case rel => exact ⟨2, by omega, by go_num, by simp [m2, m4], HQ.out⟩
   case measure => simp [intOf]
  | 2, _ =>
   go_wp2_with fail
   go_ret
   exact ⟨rfl, HQ.out⟩
theorem whole_any {n s : Int} (hn : Lf n s) (w : World) : Calls Try.prog 88 #[.int .i64 n] w (R1 w (.int .i64 s)) := by
 unfold R1
 rcases hn with ⟨rfl, rfl⟩ | ⟨rfl, rfl⟩
 ·go_enter Try.func88, Try.ntmps88
  go_wp2_with fail
  go_loopw [3] (fun v3 wr => v3 = .int .i64 1 ∧ Q w wr) (fun v3 _ => 2 - (intOf v3).toNat)
  case atStart => exact ⟨rfl, Q.refl _⟩
  case round =>
   obtain ⟨rfl, hq⟩ := hrel
   have HQ := hide hq
   clear hq
   go_wp2_with fail
   go_ret
   exact ⟨rfl, HQ.out⟩
 ·go_enter Try.func88, Try.ntmps88
  go_wp2_with fail
  go_loopw [3] (fun v3 wr => (v3 = .int .i64 1 ∨ v3 = .int .i64 2) ∧ Q w wr) (fun v3 _ => 2 - (intOf v3).toNat)
  case atStart => exact ⟨.inl rfl, Q.refl _⟩
  case round =>
   obtain ⟨hs, hq⟩ := hrel
   have HQ := hide hq
   clear hq
   rcases hs with rfl | rfl
   ·go_wp2_with fail
    go_roundw
    case rel => exact ⟨.inr rfl, HQ.out⟩
    case measure => simp [intOf]
   ·go_wp2_with fail
    go_ret
    exact ⟨rfl, HQ.out⟩
theorem up21 (w : World) : Calls Try.prog 65 #[.int .i64 2, .int .i64 1] w (R1 w (.int .i64 2)) := by
 unfold R1
 go_enter Try.func65, Try.ntmps65
 go_wp2_with fail
 go_ret
 exact ⟨rfl, Q.refl _⟩
theorem target_ok (b : Bool) (w : World) : Calls Try.prog 37 #[tgV b] w (R1 w (.int .i64 0)) := by
 unfold R1
 obtain ⟨w1, hw1⟩ : ∃ w1, w.alloc (.cells #[.int .i64 4, .bool b] 26) = w1 := ⟨_, rfl⟩
 obtain ⟨hq1, hs1, hc⟩ := box1 hw1
 have k0 := hc 0 _ rfl
 have HW1 := hide hw1
 clear hw1 hc
 go_enter Try.func37, Try.ntmps37
 go_upto_region 1 with fail
 rw [HW1.out]
 go_wp2_with fail
 go_ret
 exact ⟨rfl, hq1⟩
theorem cells_leaf (n : Int) (w : World) : Calls Try.prog 63 #[lfV n] w (R1 w (.int .i64 1)) := by
 unfold R1
 obtain ⟨w1, hw1⟩ : ∃ w1, w.alloc (.cells #[.int .i64 2, .int .i64 n, .bool false, .slice none 0 0] 24) = w1 := ⟨_, rfl⟩
 obtain ⟨hq1, hs1, hc⟩ := box1 hw1
 have k0 := hc 0 _ rfl
 have k3 := hc 3 _ rfl
 have K0 := hide k0
 have HW1 := hide hw1
 have HQ1 := hide hq1
 have hlt : w.heap.size < w1.heap.size := by omega
 clear hw1 hc k0 hq1
 go_enter Try.func63, Try.ntmps63
 go_upto_region 1 with fail
 rw [HW1.out]
 go_wp2_with fail
 clear k3
 go_loopw [3, 9] (fun v3 vi wr => v3 = .int .i64 0 ∧ vi = .int .i64 0 ∧ Q w1 wr) (fun _ vi _ => 0)
 case atStart => exact ⟨rfl, by go_num, Q.refl _⟩
 case round =>
  obtain ⟨rfl, rfl, hq⟩ := hrel
  have k0 := (hq.facts.1 _ 0 hlt).trans K0.out
  have HQ := hide hq
  obtain ⟨w2, hw2⟩ : ∃ w2, wr.alloc (.cells #[.int .i64 1, .int .i64 0] 3) = w2 := ⟨_, rfl⟩
  obtain ⟨hq2, hs2, hc⟩ := box1 hw2
  have HS := hide (sum2 wr.heap.size 1 0 w2 (by omega) (hc 0 _ rfl) (hc 1 _ rfl) (by omega) (by omega) (by omega) (by omega))
  have HW2 := hide hw2
  have HQ2 := hide hq2
  clear hq hw2 hc hq2
  go_wp2_with fail
  rw [HW2.out]
  refine HS.out.mono ?_
  rintro e w3 ⟨rfl, hq3⟩
  go_wp2_with fail
  go_ret
  exact ⟨rfl, HQ1.out.trans (HQ.out.trans (HQ2.out.trans hq3))⟩
theorem cells_opt (g : Nat) (w : World) (h8 : Op8 w g) : Calls Try.prog 63 #[opV g] w (R1 w (.int .i64 2)) := by
 unfold R1
 obtain ⟨w1, hw1⟩ : ∃ w1, w.alloc (.cells #[.int .i64 4, .int .i64 0, .bool false, .slice (some ⟨g, 0, none⟩) 1 1] 24) = w1 := ⟨_, rfl⟩
 obtain ⟨hq1, hs1, hc⟩ := box1 hw1
 have k0 := hc 0 _ rfl
 have k3 := hc 3 _ rfl
 have K0 := hide k0
 have HW1 := hide hw1
 have HQ1 := hide hq1
 have H8 := hide (h8.up hq1)
 have hlt : w.heap.size < w1.heap.size := by omega
 clear hw1 hc k0 hq1 h8
 go_enter Try.func63, Try.ntmps63
 go_upto_region 1 with fail
 rw [HW1.out]
 go_wp2_with fail
 clear k3
 go_loopw [3, 9] (fun v3 vi wr => ∃ k : Nat, k ≤ 1 ∧ vi = .int .i64 k ∧ v3 = .int .i64 (if k = 0 then 0 else 1) ∧ Q w1 wr) (fun _ vi _ => 1 - (intOf vi).toNat)
 case atStart => exact ⟨0, by omega, by go_num, rfl, Q.refl _⟩
 case round =>
  obtain ⟨k, hk, rfl, rfl, hq⟩ := hrel
  have HQ := hide hq
  have k0 := (hq.facts.1 _ 0 hlt).trans K0.out
  match k, hk with
  | 0, _ =>
   obtain ⟨hl, c0, c1, c2, c3⟩ := H8.out.up hq
   obtain ⟨w2, hw2⟩ : ∃ w2, wr.alloc (.cells #[.int .i64 2, .int .i64 8, .bool false, .slice none 0 0] 24) = w2 := ⟨_, rfl⟩
   obtain ⟨hq2, hs2, hc⟩ := box1 hw2
   have z0 := hc 0 _ rfl
   have z1 := hc 1 _ rfl
   have z2 := hc 2 _ rfl
   have z3 := hc 3 _ rfl
   have HW2 := hide hw2
   have HQ2 := hide (hq.trans hq2)
   have HC := hide (cells_leaf 8 w2)
   clear hq hw2 hc hq2
   go_upto_region 5 with fail
   rw [HW2.out]
   clear c0 c1 c2 c3
   go_wp2_with fail
   refine HC.out.mono ?_
   rintro e w3 ⟨rfl, hq3⟩
   obtain ⟨w4, hw4⟩ : ∃ w4, w3.alloc (.cells #[.int .i64 0, .int .i64 1] 3) = w4 := ⟨_, rfl⟩
   obtain ⟨hq4, hs4, hc⟩ := box1 hw4
   have HS := hide (sum2 w3.heap.size 0 1 w4 (by omega) (hc 0 _ rfl) (hc 1 _ rfl) (by omega) (by omega) (by omega) (by omega))
   have HW4 := hide hw4
   have HQ4 := hide (HQ2.out.trans (hq3.trans hq4))
   clear hw4 hc hq4 hq3 z0 z1 z2 z3
   go_wp2_with fail
   rw [HW4.out]
   refine HS.out.mono ?_
   rintro e w5 ⟨rfl, hq5⟩
   have HQ5 := hide (HQ4.out.trans hq5)
   clear hq5
   go_wp2_with fail
   go_roundw
   case rel => exact ⟨1, by omega, by go_num, rfl, HQ5.out⟩
   case measure => simp [intOf]
  | 1, _ =>
   obtain ⟨w2, hw2⟩ : ∃ w2, wr.alloc (.cells #[.int .i64 1, .int .i64 1] 3) = w2 := ⟨_, rfl⟩
   obtain ⟨hq2, hs2, hc⟩ := box1 hw2
   have HS := hide (sum2 wr.heap.size 1 1 w2 (by omega) (hc 0 _ rfl) (hc 1 _ rfl) (by omega) (by omega) (by omega) (by omega))
   have HW2 := hide hw2
   have HQ2 := hide (hq.trans hq2)
   clear hq hw2 hc hq2
   go_wp2_with fail
   rw [HW2.out]
   refine HS.out.mono ?_
   rintro e w3 ⟨rfl, hq3⟩
   go_wp2_with fail
   go_ret
   exact ⟨rfl, HQ1.out.trans (HQ2.out.trans hq3)⟩
def Cs4 (X : World) (g : Nat) (a b c d : Value) : Prop := X.cell? ⟨g, 0, none⟩ = some a ∧ X.cell? ⟨g, 1, none⟩ = some b ∧ X.cell? ⟨g, 2, none⟩ = some c ∧ X.cell? ⟨g, 3, none⟩ = some d
theorem cs4 {w X : World} {g : Nat} {a b c d : Value} (h : Q w X) (hg : g < w.heap.size) (hc : ∀ (j : Nat) u, #[a, b, c, d][j]? = some u → w.cell? ⟨g, j, none⟩ = some u) : Cs4 X g a b c d := ⟨(h.facts.1 _ 0 hg).trans (hc 0 _ rfl), (h.facts.1 _ 1 hg).trans (hc 1 _ rfl), (h.facts.1 _ 2 hg).trans (hc 2 _ rfl), (h.facts.1 _ 3 hg).trans (hc 3 _ rfl)⟩
def Cs42 (X : World) (g : Nat) (a b c d : Value) (k : Nat) (p q : Value) : Prop := X.cell? ⟨g, 0, none⟩ = some a ∧ X.cell? ⟨g, 1, none⟩ = some b ∧ X.cell? ⟨g, 2, none⟩ = some c ∧ X.cell? ⟨g, 3, none⟩ = some d ∧ X.cell? ⟨k, 0, none⟩ = some p ∧ X.cell? ⟨k, 1, none⟩ = some q
theorem cs42 {w X : World} {g k : Nat} {a b c d p q : Value} (h : Q w X) (hg : g < w.heap.size) (hc : ∀ (j : Nat) u, #[a, b, c, d][j]? = some u → w.cell? ⟨g, j, none⟩ = some u) (hk : k < w.heap.size) (hd : ∀ (j : Nat) u, #[p, q][j]? = some u → w.cell? ⟨k, j, none⟩ = some u) : Cs42 X g a b c d k p q := ⟨(h.facts.1 _ 0 hg).trans (hc 0 _ rfl), (h.facts.1 _ 1 hg).trans (hc 1 _ rfl), (h.facts.1 _ 2 hg).trans (hc 2 _ rfl), (h.facts.1 _ 3 hg).trans (hc 3 _ rfl), (h.facts.1 _ 0 hk).trans (hd 0 _ rfl), (h.facts.1 _ 1 hk).trans (hd 1 _ rfl)⟩
end Go.Proofs.Ytbgbalfhbficaaa
