/- A heap of the program as it lies in memory; what a call turns of it, and what it leaves. Conditions: as each theorem says. -/
import Derived.Test.YtdaklffbfadghaaGreatTm2
import Derived.Test.YtdaklffbfadghaaGreatHpLk
import Derived.Test.YtdaklffbfadghaaGreatTm1
namespace Go.Proofs.YtdaklffbfadghaaGreat
open Go.RowKit HP
set_option linter.unusedVariables false
/-! what a call may turn: the blocks of S -/
structure Turn (S : Nat → Prop) (w w' : World) : Prop where
  os : w'.os = w.os
  tape : w'.tape = w.tape
  output : w'.output = w.output
  size : w.heap.size ≤ w'.heap.size
  block : ∀ i, i < w.heap.size → ¬ S i → w'.heap[i]? = w.heap[i]?
section
variable {S S' : Nat → Prop} {a b c w w' : World}
theorem Turn.of_q (h : Q a b) : Turn S a b := ⟨h.below.os, h.below.tape, h.below.output, h.size, fun i hi _ => h.below.block i hi⟩
theorem Turn.refl (S : Nat → Prop) (w : World) : Turn S w w := .of_q (Q.refl w)
theorem Turn.trans (h : Turn S a b) (k : Turn S' b c) (hs : ∀ i, i < a.heap.size → S' i → S i) : Turn S a c :=
  ⟨k.os.trans h.os, k.tape.trans h.tape, k.output.trans h.output, Nat.le_trans h.size k.size, fun i hi hn => (k.block i (Nat.lt_of_lt_of_le hi h.size) (fun e => hn (hs i hi e))).trans (h.block i hi hn)⟩
theorem Turn.step (h : Turn S a b) (k : Turn S b c) : Turn S a c := h.trans k fun _ _ e => e
theorem Turn.wide (h : Turn S a b) (hs : ∀ i, i < a.heap.size → S i → S' i) : Turn S' a b := ⟨h.os, h.tape, h.output, h.size, fun i hi hn => h.block i hi fun e => hn (hs i hi e)⟩
theorem Turn.q (h : Turn S a b) (k : Q b c) : Turn S a c := h.step (.of_q k)
theorem Turn.set (h : Turn S a b) {p : Addr} (hp : S p.block) (u : Value) : Turn S a (b.setCell p u) :=
  h.step ⟨rfl, rfl, rfl, by simp [World.setCell], fun i _ hn => heap_setCell_other _ _ _ _ (fun e => hn (by rw [e]; exact hp))⟩
theorem Turn.drew (h : Turn S a b) : Turn S a b.drew := ⟨h.os, h.tape, h.output, h.size, h.block⟩
theorem Turn.alloc (h : Turn S a b) (o : Obj) : Turn S a (b.alloc o) := h.q ((Q.refl b).alloc o)
theorem Turn.grown {row : Option Nat} (h : Turn S a b) (hg : b.grownBy c row) (hr : ∀ k, row = some k → k < a.heap.size → S k) : Turn S a c :=
  h.trans (S' := fun i => row = some i) ⟨hg.os, hg.tape, hg.output, hg.size, fun i hi hn => hg.block i hi fun e => hn e.symm⟩ fun i hi e => hr i e hi
theorem Turn.q_of {w0 : World} (hq : Q w0 a) (h : Turn S a b) (hs : ∀ i, S i → w0.heap.size ≤ i) : Q w0 b :=
  q_below (B := w0.heap.size) hq ⟨h.os, h.tape, h.output, h.size, fun i hi => h.block i (by have := hq.size; omega) (fun e => by have := hs i e; omega)⟩ (Nat.le_refl _)
end
/-! a live block, and a heap, as they lie -/
structure Bk where
  pb : PB
  row : Nat
  cap : Nat
def Bk.bv (x : Bk) : Value := .slice (some ⟨x.row, 0, none⟩) x.pb.2.length x.cap
def encBk (x : Bk) : List Value := [.int .i64 x.pb.1, x.bv]
def intsV (l : List Int) : List Value := l.map (Value.int .i64)
/-- what a heap holds, in plain Lean -/
structure HM where
  kind : Int
  piece : Int
  size : Int
  live : List PB
  top : Int
  peak : Int
  calls : Int
  failIn : Int
structure Hp where
  blk : Nat
  mu : Int
  sema : Int
  kind : Int
  piece : Int
  size : Int
  lv : Value
  bks : List Bk
  wb : Nat
  top : Int
  peak : Int
  calls : Int
  failIn : Int
def Hp.m (h : Hp) : HM := ⟨h.kind, h.piece, h.size, h.bks.map (·.pb), h.top, h.peak, h.calls, h.failIn⟩
def Hp.ptr (h : Hp) : Value := .pointer (some ⟨h.blk, 0, none⟩)
def Hp.bptr (h : Hp) : Value := .pointer (some ⟨h.blk, 4, none⟩)
def Hp.way (h : Hp) : Value :=
  if h.kind = 0 then .iface 97 (.agg #[h.bptr])
  else if h.kind = 1 then .iface 98 (.pointer (some ⟨h.wb, 0, none⟩))
  else if h.kind = 2 then .iface 101 (.pointer (some ⟨h.wb, 0, none⟩))
  else .iface 105 (.agg #[h.bptr, .int .i64 h.piece])
def Hp.cells (h : Hp) : Array Value := #[.int .i32 h.mu, .int .u32 h.sema, .int .i64 h.kind, .int .i64 h.piece, .int .i64 h.size, h.lv, h.way, .int .i64 h.peak, .int .i64 h.calls, .int .i64 h.failIn]
def Hp.fp (h : Hp) (b : Nat) : Prop := b = h.blk ∨ h.lv.ownBlock = some b ∨ (∃ x ∈ h.bks, x.row = b) ∨ ((h.kind = 1 ∨ h.kind = 2) ∧ b = h.wb)
def Hp.wrow (h : Hp) : Array Value := #[h.bptr, .int .i64 h.top]
structure HpR (w : World) (h : Hp) : Prop where
  cells : w.heap[h.blk]? = some (.cells h.cells 94 (0, 0))
  live : w.ownsRow 0 111 2 h.lv h.bks.length (h.bks.flatMap encBk)
  rows : ∀ x ∈ h.bks, w.ownsRow 0 3 1 x.bv x.pb.2.length (intsV x.pb.2)
  w1 : h.kind = 1 → w.heap[h.wb]? = some (.cells h.wrow 100 (0, 0))
  w2 : h.kind = 2 → w.heap[h.wb]? = some (.cells h.wrow 103 (0, 0))
  apart : (h.bks.map (·.row)).Nodup
section
variable {w w' : World} {h h' : Hp}
theorem own_blk {w : World} {B e s : Nat} {v : Value} {n : Nat} {xs : List Value} (h : w.ownsRow B e s v n xs) {g : Nat} (hg : v.ownBlock = some g) : ∃ cs, w.heap[g]? = some (.cells cs e (0, 0)) := by
  rcases h.2 with ⟨rfl, _⟩ | ⟨g', cap, cur, rfl, _, hh, _⟩
  · cases hg
  · cases hg; exact ⟨cur, hh⟩
theorem blk_lt {o : Obj} {b : Nat} (h : w.heap[b]? = some o) : b < w.heap.size := (Array.getElem?_eq_some_iff.1 h).1
theorem own_same {w w' : World} {B e s : Nat} {v : Value} {n : Nat} {xs : List Value} (h : w.ownsRow B e s v n xs) (hk : ∀ g, v.ownBlock = some g → w'.heap[g]? = w.heap[g]?) : w'.ownsRow B e s v n xs := by
  refine ⟨h.1, ?_⟩
  rcases h.2 with h2 | ⟨g, cap, cur, rfl, hb, hh, hr⟩
  · exact .inl h2
  · exact .inr ⟨g, cap, cur, rfl, hb, (hk g rfl).trans hh, hr⟩
theorem Bk.own (x : Bk) : x.bv.ownBlock = some x.row := rfl
theorem HpR.lt (H : HpR w h) : ∀ b, h.fp b → b < w.heap.size := fun b hb => by
  rcases hb with rfl | hb | ⟨x, hx, rfl⟩ | ⟨hk, rfl⟩
  · exact blk_lt H.cells
  · exact (H.live.lt _ hb).2
  · exact ((H.rows x hx).lt _ x.own).2
  · rcases hk with hk | hk
    · exact blk_lt (H.w1 hk)
    · exact blk_lt (H.w2 hk)
/-- no block of it has turned -/
theorem HpR.same (H : HpR w h) (hk : ∀ b, h.fp b → w'.heap[b]? = w.heap[b]?) : HpR w' h where
  cells := (hk _ (.inl rfl)).trans H.cells
  live := own_same H.live fun g hg => hk g (.inr (.inl hg))
  rows := fun x hx => own_same (H.rows x hx) fun g hg => hk g (.inr (.inr (.inl ⟨x, hx, by cases hg; rfl⟩)))
  w1 := fun e => (hk _ (.inr (.inr (.inr ⟨.inl e, rfl⟩)))).trans (H.w1 e)
  w2 := fun e => (hk _ (.inr (.inr (.inr ⟨.inr e, rfl⟩)))).trans (H.w2 e)
  apart := H.apart
theorem HpR.turn (H : HpR w h) {S : Nat → Prop} (ht : Turn S w w') (hs : ∀ b, h.fp b → ¬ S b) : HpR w' h := H.same fun b hb => ht.block b (H.lt b hb) (hs b hb)
theorem HpR.q (H : HpR w h) (hq : Q w w') : HpR w' h := H.same fun b hb => hq.below.block b (H.lt b hb)
theorem HpR.drew (H : HpR w h) : HpR w.drew h := H.same fun _ _ => rfl
theorem HpR.cell (H : HpR w h) (j : Nat) : w.cell? ⟨h.blk, j, none⟩ = h.cells[j]? := cell_of_row w h.blk j h.cells _ _ H.cells
theorem HpR.free (H : HpR w h) (j : Nat) : w.frozen? ⟨h.blk, j, none⟩ = false := frozen_of_row w h.blk j h.cells _ H.cells
theorem ty_ne {b b' : Nat} {c c' : Array Value} {t t' : TypeId} {f f' : Nat × Nat} (h1 : w.heap[b]? = some (.cells c t f)) (h2 : w.heap[b']? = some (.cells c' t' f')) (hne : t ≠ t') : b ≠ b' := fun e => by
  subst e
  rw [h1] at h2
  injection h2 with h2
  injection h2 with _ h3 _
  exact hne h3
/-- the blocks of it are apart -/
theorem HpR.ne_live (H : HpR w h) {g : Nat} (hg : h.lv.ownBlock = some g) : g ≠ h.blk := by
  obtain ⟨cs, e⟩ := own_blk H.live hg
  exact ty_ne e H.cells (by decide)
theorem HpR.ne_row (H : HpR w h) {x : Bk} (hx : x ∈ h.bks) : x.row ≠ h.blk := by
  obtain ⟨cs, e⟩ := own_blk (H.rows x hx) x.own
  exact ty_ne e H.cells (by decide)
theorem HpR.ne_wb (H : HpR w h) (hk : h.kind = 1 ∨ h.kind = 2) : h.wb ≠ h.blk := by
  rcases hk with hk | hk
  · exact ty_ne (H.w1 hk) H.cells (by decide)
  · exact ty_ne (H.w2 hk) H.cells (by decide)
theorem HpR.live_row (H : HpR w h) {g : Nat} (hg : h.lv.ownBlock = some g) {x : Bk} (hx : x ∈ h.bks) : x.row ≠ g := by
  obtain ⟨cs, e⟩ := own_blk (H.rows x hx) x.own
  obtain ⟨cs', e'⟩ := own_blk H.live hg
  exact ty_ne e e' (by decide)
theorem HpR.live_wb (H : HpR w h) {g : Nat} (hg : h.lv.ownBlock = some g) (hk : h.kind = 1 ∨ h.kind = 2) : h.wb ≠ g := by
  obtain ⟨cs', e'⟩ := own_blk H.live hg
  rcases hk with hk | hk
  · exact ty_ne (H.w1 hk) e' (by decide)
  · exact ty_ne (H.w2 hk) e' (by decide)
theorem HpR.row_wb (H : HpR w h) {x : Bk} (hx : x ∈ h.bks) (hk : h.kind = 1 ∨ h.kind = 2) : h.wb ≠ x.row := by
  obtain ⟨cs', e'⟩ := own_blk (H.rows x hx) x.own
  rcases hk with hk | hk
  · exact ty_ne (H.w1 hk) e' (by decide)
  · exact ty_ne (H.w2 hk) e' (by decide)
/-- a store into the heap's own cells -/
theorem HpR.upd (H : HpR w h) (i : Nat) (v : Value) (hb : h'.blk = h.blk) (hc : h'.cells = h.cells.setIfInBounds i v) (hl : h'.lv = h.lv) (hk : h'.bks = h.bks) (hwb : h'.wb = h.wb) (ht : h'.top = h.top) (hki : h'.kind = h.kind) : HpR (w.setCell ⟨h.blk, i, none⟩ v) h' where
  cells := by rw [hb, hc]; exact heap_setCell_same w h.blk i h.cells _ v H.cells
  live := by
    rw [hl, hk]
    exact own_same H.live fun g hg => heap_setCell_other _ _ _ _ (H.ne_live hg)
  rows := by
    rw [hk]
    exact fun x hx => own_same (H.rows x hx) fun g hg => by
      cases hg
      exact heap_setCell_other _ _ _ _ (H.ne_row hx)
  w1 := by
    rw [hki, hwb]
    intro e
    rw [heap_setCell_other _ _ _ _ (H.ne_wb (.inl e)), H.w1 e]
    simp only [Hp.wrow, Hp.bptr, hb, ht]
  w2 := by
    rw [hki, hwb]
    intro e
    rw [heap_setCell_other _ _ _ _ (H.ne_wb (.inr e)), H.w2 e]
    simp only [Hp.wrow, Hp.bptr, hb, ht]
  apart := by rw [hk]; exact H.apart
end
/-- what a call has done of a heap: it reads as h' then; only its own blocks may have turned; what it has more is new -/
structure Did (w : World) (h : Hp) (w' : World) (h' : Hp) : Prop where
  rep : HpR w' h'
  turn : Turn h.fp w w'
  blk : h'.blk = h.blk
  fp : ∀ b, h'.fp b → h.fp b ∨ w.heap.size ≤ b
section
variable {w w' w1 w2 : World} {h h1 h2 : Hp}
theorem Did.trans (a : Did w h w1 h1) (b : Did w1 h1 w2 h2) : Did w h w2 h2 :=
  ⟨b.rep, a.turn.trans b.turn fun i hi e => by rcases a.fp i e with e | e
                                               · exact e
                                               · omega, b.blk.trans a.blk, fun i e => by
    rcases b.fp i e with e | e
    · exact a.fp i e
    · exact .inr (Nat.le_trans a.turn.size e)⟩
theorem Did.refl (H : HpR w h) : Did w h w h := ⟨H, .refl _ _, rfl, fun b hb => .inl hb⟩
theorem Did.of_q (H : HpR w h) (hq : Q w w') : Did w h w' h := ⟨H.q hq, .of_q hq, rfl, fun b hb => .inl hb⟩
theorem Did.q (a : Did w h w1 h1) (hq : Q w1 w2) : Did w h w2 h1 := a.trans (.of_q a.rep hq)
/-- a store into its cells -/
theorem Did.set (a : Did w h w1 h1) (i : Nat) (v : Value) (hb : h2.blk = h1.blk) (hc : h2.cells = h1.cells.setIfInBounds i v) (hl : h2.lv = h1.lv) (hk : h2.bks = h1.bks) (hwb : h2.wb = h1.wb) (ht : h2.top = h1.top) (hki : h2.kind = h1.kind) : Did w h (w1.setCell ⟨h1.blk, i, none⟩ v) h2 :=
  a.trans ⟨a.rep.upd i v hb hc hl hk hwb ht hki, (Turn.refl _ _).set (.inl rfl) v, hb, fun b e => .inl (by unfold Hp.fp at e ⊢; rw [hb, hl, hk, hwb, hki] at e; exact e)⟩
end
end Go.Proofs.YtdaklffbfadghaaGreat
