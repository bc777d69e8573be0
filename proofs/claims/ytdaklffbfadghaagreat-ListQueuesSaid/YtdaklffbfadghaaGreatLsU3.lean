/- A heap that a call acts on, beside blocks of other things that turn too. Rows of a heap as they lie: the box with the heap, the pieces, how many, whether closed; beside the heap. Words of 64 bits and their bytes in the language's own operations: plain. No program. Conditions: as each theorem says. -/
import Derived.Test.YtdaklffbfadghaaGreatLsU2
namespace Go.Proofs.YtdaklffbfadghaaGreat
open Go.RowKit HP
set_option linter.unusedVariables false
set_option linter.unusedSimpArgs false
/-- of the world w, in which h was the heap, nothing has turned but the heap and the blocks of S; the heap is m now, and is not held -/
def HS (S : Nat → Prop) (w : World) (h : Hp) (m : HM) (W : World) : Prop :=
  ∃ h' : Hp, HpR W h' ∧ h'.blk = h.blk ∧ h'.mu = 0 ∧ h'.m = m ∧ Turn (fun b => h.fp b ∨ S b) w W ∧ (∀ b, h'.fp b → h.fp b ∨ w.heap.size ≤ b) ∧ ∀ b, S b → b < w.heap.size ∧ ¬ h.fp b
section
variable {S : Nat → Prop} {w W W' : World} {h : Hp} {m : HM}
theorem HS.start (H : HpR w h) (hmu : h.mu = 0) (hS : ∀ b, S b → b < w.heap.size ∧ ¬ h.fp b) : HS S w h h.m w := ⟨h, H, rfl, hmu, rfl, .refl _ _, fun b hb => .inl hb, hS⟩
theorem HS.q (X : HS S w h m W) (hq : Q W W') : HS S w h m W' := by
  obtain ⟨h', h1, h2, h3, h4, h5, h6, h7⟩ := X
  exact ⟨h', h1.q hq, h2, h3, h4, h5.q hq, h6, h7⟩
theorem HS.apart (X : HS S w h m W) {b : Nat} (hb : S b) : b < W.heap.size := by
  obtain ⟨h', h1, h2, h3, h4, h5, h6, h7⟩ := X
  exact Nat.lt_of_lt_of_le (h7 b hb).1 h5.size
theorem HS.set (X : HS S w h m W) (p : Addr) (hb : S p.block) (u : Value) : HS S w h m (W.setCell p u) := by
  obtain ⟨h', h1, h2, h3, h4, h5, h6, h7⟩ := X
  have hn : ∀ b, h'.fp b → b ≠ p.block := fun b hf e => by
    subst e
    rcases h6 _ hf with e | e
    · exact (h7 _ hb).2 e
    · have := (h7 _ hb).1
      omega
  exact ⟨h', h1.same fun b hf => heap_setCell_other _ _ _ _ (hn b hf), h2, h3, h4, h5.set (.inr hb) u, h6, h7⟩
/-- a call has acted on the heap -/
theorem HS.did {h1 h2 : Hp} {m2 : HM} (hT : Turn (fun b => h.fp b ∨ S b) w W) (hf : ∀ b, h1.fp b → h.fp b ∨ w.heap.size ≤ b) (hS : ∀ b, S b → b < w.heap.size ∧ ¬ h.fp b) (hb : h1.blk = h.blk) (D : Did W h1 W' h2) (hmu : h2.mu = 0) (hm : h2.m = m2) : HS S w h m2 W' :=
  ⟨h2, D.rep, D.blk.trans hb, hmu, hm, hT.trans D.turn fun i hi e => by
    rcases hf i e with e | e
    · exact .inl e
    · omega, fun b e => by
    rcases D.fp b e with e | e
    · exact hf b e
    · exact .inr (Nat.le_trans hT.size e), hS⟩
/-- what a block that is neither the heap's nor of S holds -/
theorem HS.block (X : HS S w h m W) {b : Nat} (hb : b < w.heap.size) (h1 : ¬ h.fp b) (h2 : ¬ S b) : W.heap[b]? = w.heap[b]? := by
  obtain ⟨h', x1, x2, x3, x4, x5, x6, x7⟩ := X
  exact x5.block b hb fun e => e.elim h1 h2
theorem HS.ptr (X : HS S w h m W) : ∃ h', HpR W h' ∧ h'.mu = 0 ∧ h'.m = m ∧ h'.ptr = h.ptr ∧ (∀ W' h2 m2, Did W h' W' h2 → h2.mu = 0 → h2.m = m2 → HS S w h m2 W') ∧ ∀ b, S b → ¬ h'.fp b := by
  obtain ⟨h', x1, x2, x3, x4, x5, x6, x7⟩ := X
  refine ⟨h', x1, x3, x4, by unfold Hp.ptr; rw [x2], fun W' h2 m2 D e1 e2 => HS.did x5 x6 x7 x2 D e1 e2, fun b hb e => ?_⟩
  rcases x6 b e with e | e
  · exact (x7 b hb).2 e
  · have := (x7 b hb).1
    omega
/-! the calls -/
theorem hs_load (X : HS S w h m W) (I : Inv m) (at_ : Int) : Calls Tryz.prog 36 #[h.ptr, .int .i64 at_] W fun e W' => e = .returned (.tuple #[.int .i64 (loadM m at_).1, .int .i64 (loadM m at_).2]) ∧ HS S w h m W' := by
  obtain ⟨h', x1, x2, rfl, x4, x5, -⟩ := X.ptr
  rw [← x4]
  refine (load_act h' at_ W x1 I x2).mono ?_
  rintro e W' ⟨h2, he, D, hmu, hm⟩
  exact ⟨he, x5 _ _ _ D hmu hm⟩
theorem hs_store (X : HS S w h m W) (I : Inv m) (at_ b : Int) : Calls Tryz.prog 11 #[h.ptr, .int .i64 at_, .int .i64 b] W fun e W' => e = .returned (.int .i64 (storeM m at_ b).2) ∧ HS S w h (storeM m at_ b).1 W' := by
  obtain ⟨h', x1, x2, rfl, x4, x5, -⟩ := X.ptr
  rw [← x4]
  refine (store_act h' at_ b W x1 I x2).mono ?_
  rintro e W' ⟨h2, he, D, hmu, hm⟩
  exact ⟨he, x5 _ _ _ D hmu hm⟩
theorem hs_alloc (X : HS S w h m W) (I : Inv m) (hc : m.calls < 1000000000) (n al : Int) : Calls Tryz.prog 9 #[h.ptr, .int .i64 n, .int .i64 al] W fun e W' => e = .returned (.tuple #[.int .i64 (allocM m n al).2.1, .int .i64 (allocM m n al).2.2]) ∧ HS S w h (allocM m n al).1 W' := by
  obtain ⟨h', x1, x2, rfl, x4, x5, -⟩ := X.ptr
  rw [← x4]
  refine (alloc_any h' n al W x1 I x2 hc).mono ?_
  rintro e W' ⟨h2, he, D, hmu, hm⟩
  exact ⟨he, x5 _ _ _ D hmu hm⟩
theorem hs_free (X : HS S w h m W) (I : Inv m) (at_ : Int) (ha0 : -9223372036854775808 ≤ at_) (ha1 : at_ ≤ 9223372036854775807) : Calls Tryz.prog 108 #[h.ptr, .int .i64 at_] W fun e W' => e = .returned (.int .i64 (freeM m at_).2) ∧ HS S w h (freeM m at_).1 W' := by
  obtain ⟨h', x1, x2, rfl, x4, x5, -⟩ := X.ptr
  rw [← x4]
  refine (free_act h' at_ W x1 I x2 ha0 ha1).mono ?_
  rintro e W' ⟨h2, he, D, hmu, hm⟩
  exact ⟨he, x5 _ _ _ D hmu hm⟩
end
end Go.Proofs.YtdaklffbfadghaaGreat

namespace Go.Proofs.YtdaklffbfadghaaGreat
open Go.RowKit HP
set_option linter.unusedVariables false
set_option linter.unusedSimpArgs false
structure Rw where
  blk : Nat
  ty : TypeId
  pv : Value
  ps : List Int
  n : Nat
  closed : Bool
  more : List Value
def Rw.cells (r : Rw) (h : Hp) : Array Value := (h.ptr :: r.pv :: .int .i64 r.n :: .bool r.closed :: r.more).toArray
def Rw.fp (r : Rw) (b : Nat) : Prop := b = r.blk ∨ r.pv.ownBlock = some b
/-- a heap and rows beside it -/
structure LR (W : World) (h : Hp) (r : Rw) : Prop where
  heap : HpR W h
  mu : h.mu = 0
  cells : W.heap[r.blk]? = some (.cells (r.cells h) r.ty (0, 0))
  pcs : W.ownsRow 0 3 1 r.pv r.ps.length (intsV r.ps)
  ap1 : ¬ h.fp r.blk
  ap2 : ∀ b, r.pv.ownBlock = some b → ¬ h.fp b ∧ b ≠ r.blk
/-- what a call has done of them -/
structure LDid (W : World) (h : Hp) (r : Rw) (W' : World) (h' : Hp) (r' : Rw) : Prop where
  lr : LR W' h' r'
  hb : h'.blk = h.blk
  rb : r'.blk = r.blk
  rt : r'.ty = r.ty
  turn : Turn (fun b => h.fp b ∨ r.fp b) W W'
  hf : ∀ b, h'.fp b → h.fp b ∨ W.heap.size ≤ b
  rf : ∀ b, r'.fp b → r.fp b ∨ W.heap.size ≤ b
section
variable {W W' W1 W2 : World} {h h' h1 h2 : Hp} {r r' r1 r2 : Rw}
theorem LR.rlt (L : LR W h r) : ∀ b, r.fp b → b < W.heap.size := fun b hb => by
  rcases hb with rfl | hb
  · exact blk_lt L.cells
  · exact (L.pcs.lt _ hb).2
theorem LR.apart (L : LR W h r) : ∀ b, r.fp b → ¬ h.fp b := fun b hb => by
  rcases hb with rfl | hb
  · exact L.ap1
  · exact (L.ap2 b hb).1
theorem LDid.refl (L : LR W h r) : LDid W h r W h r := ⟨L, rfl, rfl, rfl, .refl _ _, fun b e => .inl e, fun b e => .inl e⟩
theorem LDid.trans (a : LDid W h r W1 h1 r1) (c : LDid W1 h1 r1 W2 h2 r2) : LDid W h r W2 h2 r2 :=
  ⟨c.lr, c.hb.trans a.hb, c.rb.trans a.rb, c.rt.trans a.rt, a.turn.trans c.turn fun i hi e => by
    rcases e with e | e
    · rcases a.hf i e with e | e
      · exact .inl e
      · omega
    · rcases a.rf i e with e | e
      · exact .inr e
      · omega, fun b e => by
    rcases c.hf b e with e | e
    · exact a.hf b e
    · exact .inr (Nat.le_trans a.turn.size e), fun b e => by
    rcases c.rf b e with e | e
    · exact a.rf b e
    · exact .inr (Nat.le_trans a.turn.size e)⟩
theorem LDid.q (a : LDid W h r W1 h1 r1) (hq : Q W1 W2) : LDid W h r W2 h1 r1 := by
  have L := a.lr
  refine a.trans ⟨⟨L.heap.q hq, L.mu, (hq.below.block _ (blk_lt L.cells)).trans L.cells, own_same L.pcs fun g hg => hq.below.block g (L.pcs.lt g hg).2, L.ap1, L.ap2⟩, rfl, rfl, rfl, .of_q hq, fun b e => .inl e, fun b e => .inl e⟩
/-- the heap has acted -/
theorem LDid.act (a : LDid W h r W1 h1 r1) (D : Did W1 h1 W2 h2) (hmu : h2.mu = 0) : LDid W h r W2 h2 r1 := by
  have L := a.lr
  have hk : ∀ b, r1.fp b → W2.heap[b]? = W1.heap[b]? := fun b hb => D.turn.block b (L.rlt b hb) (L.apart b hb)
  have hn : ∀ b, r1.fp b → ¬ h2.fp b := fun b hb e => by
    rcases D.fp b e with e | e
    · exact L.apart b hb e
    · have := L.rlt b hb
      omega
  have hc : r1.cells h2 = r1.cells h1 := by unfold Rw.cells Hp.ptr; rw [D.blk]
  refine a.trans ⟨⟨D.rep, hmu, by rw [hc]; exact (hk _ (.inl rfl)).trans L.cells, own_same L.pcs fun g hg => hk g (.inr hg), hn _ (.inl rfl), fun b hb => ⟨hn b (.inr hb), (L.ap2 b hb).2⟩⟩, D.blk, rfl, rfl, D.turn.wide fun i _ e => .inl e, D.fp, fun b e => .inl e⟩
/-- a store into the box -/
theorem LDid.set (a : LDid W h r W1 h1 r1) (i : Nat) (v : Value) (hb : r2.blk = r1.blk) (ht : r2.ty = r1.ty) (hc : r2.cells h1 = (r1.cells h1).setIfInBounds i v) (hp : r2.ps = r1.ps) (hv : r2.pv = r1.pv) : LDid W h r (W1.setCell ⟨r1.blk, i, none⟩ v) h1 r2 := by
  have L := a.lr
  have hfp : ∀ b, r2.fp b ↔ r1.fp b := fun b => by unfold Rw.fp; rw [hb, hv]
  refine a.trans ⟨⟨L.heap.same fun b hf => heap_setCell_other _ _ _ _ (fun e => L.ap1 (by subst e; exact hf)), L.mu, ?_, ?_, by rw [hb]; exact L.ap1, by rw [hv, hb]; exact L.ap2⟩, rfl, hb, ht, (Turn.refl _ _).set (.inr (.inl rfl)) v, fun b e => .inl e, fun b e => .inl ((hfp b).1 e)⟩
  · rw [hb, ht, hc]
    exact heap_setCell_same W1 r1.blk i (r1.cells h1) _ v L.cells
  · rw [hv, hp]
    exact own_same L.pcs fun g hg => heap_setCell_other _ _ _ _ (L.ap2 g hg).2
/-- another row of pieces, laid into the box -/
theorem LDid.row (a : LDid W h r W1 h1 r1) {v : Value} {ps : List Int} (hg : W1.grownBy W2 r1.pv.ownBlock) (hv : W2.ownsRow 0 3 1 v ps.length (intsV ps)) (hn : ∀ b, v.ownBlock = some b → r1.pv.ownBlock = some b ∨ W1.heap.size ≤ b) :
    LDid W h r (W2.setCell ⟨r1.blk, 1, none⟩ v) h1 { r1 with pv := v, ps := ps } := by
  have L := a.lr
  have hkeep : ∀ b, b < W1.heap.size → r1.pv.ownBlock ≠ some b → W2.heap[b]? = W1.heap[b]? := fun b hb hne => hg.block b hb fun e => hne e.symm
  have hbl := blk_lt L.cells
  have hrow : ∀ b, v.ownBlock = some b → b ≠ r1.blk ∧ ¬ h1.fp b := fun b hb => by
    rcases hn b hb with e | e
    · exact ⟨(L.ap2 b e).2, (L.ap2 b e).1⟩
    · refine ⟨by omega, fun e2 => ?_⟩
      have := L.heap.lt b e2
      omega
  have hcell : W2.heap[r1.blk]? = some (.cells (r1.cells h1) r1.ty (0, 0)) := (hkeep _ hbl fun e => (L.ap2 _ e).2 rfl).trans L.cells
  refine a.trans ⟨⟨L.heap.same fun b hf => (heap_setCell_other _ _ _ _ (fun e => L.ap1 (by subst e; exact hf))).trans (hkeep b (L.heap.lt b hf) fun e => (L.ap2 b e).1 hf), L.mu, ?_, ?_, L.ap1, fun b hb => ⟨(hrow b hb).2, (hrow b hb).1⟩⟩, rfl, rfl, rfl, ?_, fun b e => .inl e, fun b e => ?_⟩
  · have := heap_setCell_same W2 r1.blk 1 (r1.cells h1) _ v hcell
    rw [this]
    unfold Rw.cells
    simp
  · exact own_same hv fun g hg => heap_setCell_other _ _ _ _ (hrow g hg).1
  · exact ((Turn.refl _ _).grown hg fun k hk _ => .inr (.inr hk)).set (.inr (.inl rfl)) v
  · rcases e with e | e
    · exact .inl (.inl e)
    · rcases hn b e with e | e
      · exact .inl (.inr e)
      · exact .inr e
/-- a cell of the box -/
theorem LR.cell (L : LR W h r) (j : Nat) : W.cell? ⟨r.blk, j, none⟩ = (r.cells h)[j]? := cell_of_row W r.blk j (r.cells h) _ _ L.cells
theorem LR.free (L : LR W h r) (j : Nat) : W.frozen? ⟨r.blk, j, none⟩ = false := frozen_of_row W r.blk j (r.cells h) _ L.cells
theorem LR.k0 (L : LR W h r) : W.cell? ⟨r.blk, 0, none⟩ = some h.ptr := by rw [L.cell 0]; rfl
theorem LR.k1 (L : LR W h r) : W.cell? ⟨r.blk, 1, none⟩ = some r.pv := by rw [L.cell 1]; rfl
theorem LR.k2 (L : LR W h r) : W.cell? ⟨r.blk, 2, none⟩ = some (.int .i64 r.n) := by rw [L.cell 2]; rfl
theorem LR.k3 (L : LR W h r) : W.cell? ⟨r.blk, 3, none⟩ = some (.bool r.closed) := by rw [L.cell 3]; rfl
end
end Go.Proofs.YtdaklffbfadghaaGreat

namespace Go.Proofs.YtdaklffbfadghaaGreat
open Go.RowKit HP
set_option linter.unusedVariables false
set_option linter.unusedSimpArgs false
theorem u64_or_n (a b : Nat) (ha : a < 18446744073709551616) (hb : b < 18446744073709551616) : bits .or .u64 (a : Int) (b : Int) = ((a ||| b : Nat) : Int) := by
  have hx : a ||| b < 18446744073709551616 := Nat.or_lt_two_pow (n := 64) ha hb
  show IntKind.u64.wrap ((BitVec.ofInt 64 (a : Int) ||| BitVec.ofInt 64 (b : Int)).toNat : Int) = _
  rw [BitVec.toNat_or, BitVec.ofInt_natCast, BitVec.ofInt_natCast, BitVec.toNat_ofNat, BitVec.toNat_ofNat, Nat.mod_eq_of_lt (by simpa using ha), Nat.mod_eq_of_lt (by simpa using hb)]
  simp only [IntKind.wrap, IntKind.bits, IntKind.signed]
  simp
  omega
theorem u64_and_255 (a : Nat) (ha : a < 18446744073709551616) : bits .and .u64 (a : Int) 255 = ((a % 256 : Nat) : Int) := by
  have hx : a &&& 255 = a % 256 := Nat.and_two_pow_sub_one_eq_mod (n := 8) a
  show IntKind.u64.wrap ((BitVec.ofInt 64 (a : Int) &&& BitVec.ofInt 64 ((255 : Nat) : Int)).toNat : Int) = _
  rw [BitVec.toNat_and, BitVec.ofInt_natCast, BitVec.ofInt_natCast, BitVec.toNat_ofNat, BitVec.toNat_ofNat, Nat.mod_eq_of_lt (by simpa using ha), Nat.mod_eq_of_lt (by decide), hx]
  simp only [IntKind.wrap, IntKind.bits, IntKind.signed]
  simp
  omega
theorem word_or (v : Int) (b : Nat) (hb : b < 8) : bits .or .u64 ((wordN v % 2 ^ (8 * b) : Nat) : Int) ((byteN v b * 2 ^ (8 * b) : Nat) : Int) = ((wordN v % 2 ^ (8 * (b + 1)) : Nat) : Int) := by
  have h1 : wordN v % 2 ^ (8 * b) < 18446744073709551616 := Nat.lt_of_le_of_lt (Nat.mod_le _ _) (wordN_lt v)
  have h2 : byteN v b * 2 ^ (8 * b) < 18446744073709551616 := by
    have h3 := byteN_lt v b
    have h4 : (2 : Nat) ^ (8 * b) ≤ 2 ^ 56 := Nat.pow_le_pow_right (by decide) (by omega)
    have h5 : byteN v b * 2 ^ (8 * b) ≤ 255 * 2 ^ 56 := Nat.mul_le_mul (by omega) h4
    omega
  rw [u64_or_n _ _ h1 h2, ← word_step, Nat.shiftLeft_eq]
theorem word_shr (v : Int) (b : Nat) : bits .and .u64 ((wordN v / 2 ^ (8 * b) : Nat) : Int) 255 = ((byteN v b : Nat) : Int) := by
  rw [u64_and_255 _ (Nat.lt_of_le_of_lt (Nat.div_le_self _ _) (wordN_lt v))]
  rfl
end Go.Proofs.YtdaklffbfadghaaGreat
