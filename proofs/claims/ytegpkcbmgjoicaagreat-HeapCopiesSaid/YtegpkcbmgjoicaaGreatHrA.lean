/- Parts of Copy: a heap that is being built. Conditions: as each theorem says. -/
import Derived.Test.YtegpkcbmgjoicaaGreatHqV
namespace Go.Proofs.YtegpkcbmgjoicaaGreat
open Go.RowKit HP
set_option linter.unusedVariables false
namespace Ri
/-- a value laid in a new block -/
theorem wp_box {P : Program} {R : Exit → Act → World → Prop} {o : Oper} {A : Act} {w : World} {φ : Value → World → Prop} {ty : TypeId} {x : Operand} {cs : Array Value} (ho : o.op = .box ty x) (hx : A.eval x = .agg cs) (h : φ (.pointer (some ⟨w.heap.size, 0, none⟩)) (w.alloc (.cells cs ty))) :
    o.wp P A w (fun a' w' => ∃ v, a' = A.put o.dst v ∧ Q w w' ∧ φ v w') R := by
  refine wp_val _ (w' := w.alloc (.cells cs ty)) ?_ ((Q.refl _).alloc _) h
  unfold execOp
  simp only [ho, hx]
  simp [Instr.box, go_sem]
end Ri
/-- a pointer to a block of its own that has such cells -/
def isBox (B : Nat) (cs : Array Value) (t : TypeId) (v : Value) (W : World) : Prop := ∃ b, v = .pointer (some ⟨b, 0, none⟩) ∧ B ≤ b ∧ W.heap[b]? = some (.cells cs t (0, 0))
theorem mono_isBox (B : Nat) (cs : Array Value) (t : TypeId) : Ri.Mono (isBox B cs t) := fun v w1 w2 ⟨b, e, hb, hc⟩ hq => ⟨b, e, hb, (hq.below.block b (blk_lt hc)).trans hc⟩
/-- the cells of a copy whose way is not made yet -/
def partCells (h : Hp) (lv : Value) : Array Value := #[.int .i32 0, .int .u32 0, .int .i64 h.kind, .int .i64 h.piece, .int .i64 h.size, lv, .nilIface, .int .i64 h.peak, .int .i64 h.calls, .int .i64 h.failIn]
/-- a copy of which so many blocks are made -/
structure PartR (W : World) (B g2 : Nat) (h : Hp) (k : Nat) (lv : Value) (bs : List Bk) : Prop where
  blk : W.heap[g2]? = some (.cells (partCells h lv) 62 (0, 0))
  low : B ≤ g2
  live : W.ownsRow B 90 2 lv k (bs.flatMap encBk)
  pbs : bs.map (·.pb) = (h.bks.map (·.pb)).take k
  len : bs.length = k
  rows : ∀ x ∈ bs, W.ownsRow B 3 1 x.bv x.pb.2.length (intsV x.pb.2)
  apart : (bs.map (·.row)).Nodup
theorem PartR.q {W W' : World} {B g2 : Nat} {h : Hp} {k : Nat} {lv : Value} {bs : List Bk} (p : PartR W B g2 h k lv bs) (hq : Q W W') : PartR W' B g2 h k lv bs :=
  ⟨(hq.below.block _ (blk_lt p.blk)).trans p.blk, p.low, own_q p.live hq, p.pbs, p.len, fun x hx => own_q (p.rows x hx) hq, p.apart⟩
/-- what append hands back: one more block -/
def CopyMid (w5 : World) (B : Nat) (lv : Value) (k : Nat) (xs : List Value) (xa : Int) (l : List Int) (v : Value) (W : World) : Prop :=
  ∃ r2 c2, W.ownsRow B 90 2 v (k + 1) (xs ++ [.int .i64 xa, .slice (some ⟨r2, 0, none⟩) l.length c2]) ∧ W.ownsRow w5.heap.size 3 1 (.slice (some ⟨r2, 0, none⟩) l.length c2) l.length (intsV l) ∧ w5.grownBy W lv.ownBlock
theorem PartR.step {w5 W : World} {B g2 : Nat} {h : Hp} {k : Nat} {lv v : Value} {bs : List Bk} {xa : Int} {l : List Int} (p : PartR w5 B g2 h k lv bs) (hB : B ≤ w5.heap.size) (hx : (h.bks.map (·.pb))[k]? = some (xa, l)) (hm : CopyMid w5 B lv k (bs.flatMap encBk) xa l v W) :
    (∃ bs', PartR (W.setCell ⟨g2, 5, none⟩ v) B g2 h (k + 1) v bs') ∧ W.cell? ⟨g2, 5, none⟩ = some lv ∧ W.frozen? ⟨g2, 5, none⟩ = false ∧ (∃ A n c, v = .slice A n c) ∧ (∀ w1, w1.heap.size = B → Q w1 w5 → Q w1 (W.setCell ⟨g2, 5, none⟩ v)) := by
  obtain ⟨r2, c2, ho, hr, hg⟩ := hm
  have hne : ∀ b, lv.ownBlock = some b → b ≠ g2 := fun b hb => by
    obtain ⟨cs, e⟩ := own_blk p.live hb
    exact ty_ne e p.blk (by decide)
  have hblk : W.heap[g2]? = some (.cells (partCells h lv) 62 (0, 0)) := (hg.block _ (blk_lt p.blk) (fun e => hne g2 e.symm rfl)).trans p.blk
  have hrow : ∀ x ∈ bs, (W.setCell ⟨g2, 5, none⟩ v).ownsRow B 3 1 x.bv x.pb.2.length (intsV x.pb.2) := fun x hx => by
    have h1 := p.rows x hx
    obtain ⟨cs, e⟩ := own_blk h1 x.own
    refine own_same h1 fun b hb => ?_
    cases hb
    rw [heap_setCell_other _ _ _ _ (show x.row ≠ g2 from ty_ne e p.blk (by decide))]
    exact hg.block _ (blk_lt e) (fun e2 => by
      obtain ⟨cs', e3⟩ := own_blk p.live e2.symm
      exact ty_ne e e3 (by decide) rfl)
  have hnew : (W.setCell ⟨g2, 5, none⟩ v).ownsRow w5.heap.size 3 1 (.slice (some ⟨r2, 0, none⟩) l.length c2) l.length (intsV l) := own_same hr fun b hb => by
    obtain ⟨cs, e⟩ := own_blk hr hb
    exact heap_setCell_other _ _ _ _ (ty_ne e hblk (by decide))
  have hr2 : w5.heap.size ≤ r2 := (hr.lt r2 rfl).1
  refine ⟨⟨bs ++ [⟨(xa, l), r2, c2⟩], ?_, p.low, ?_, ?_, ?_, ?_, ?_⟩, ?_, ?_, ?_, ?_⟩
  · exact heap_setCell_same W g2 5 _ _ v hblk
  · rw [List.flatMap_append]
    exact own_same ho fun b hb => by
      obtain ⟨cs, e⟩ := own_blk ho hb
      exact heap_setCell_other _ _ _ _ (ty_ne e hblk (by decide))
  · rw [List.map_append, p.pbs, List.take_add_one, hx]
    rfl
  · rw [List.length_append, p.len]
    rfl
  · intro x hx
    rcases List.mem_append.1 hx with hx | hx
    · exact hrow x hx
    · rw [List.mem_singleton.1 hx]
      exact own_low hnew hB
  · rw [List.map_append, List.nodup_append]
    refine ⟨p.apart, by simp, fun a ha b hb => ?_⟩
    obtain ⟨x, hx, rfl⟩ := List.mem_map.1 ha
    have hb : b = r2 := by simpa using hb
    have := ((p.rows x hx).lt _ x.own).2
    show x.row ≠ b
    omega
  · rw [cell_of_row _ _ _ _ _ _ hblk]
    rfl
  · exact frozen_of_row _ _ _ _ _ hblk
  · obtain ⟨A', c', e, -⟩ := own_form ho
    exact ⟨A', _, c', e⟩
  · intro w1 hs hq
    refine Q.set (q_below (B := B) hq ⟨hg.os, hg.tape, hg.output, hg.size, fun i hi => hg.block i (by omega) (fun e => ?_)⟩ (by omega)) (by have := p.low; show w1.heap.size ≤ g2; omega) _
    have := (p.live.lt i e.symm).1
    omega
/-- the way of a copy -/
def isWay (h : Hp) (B g2 : Nat) (v : Value) (W : World) : Prop :=
  ∃ wb, v = wayAt h g2 wb ∧ ((h.kind = 1 ∨ h.kind = 2) → B ≤ wb) ∧ (h.kind = 1 → W.heap[wb]? = some (.cells #[.pointer (some ⟨g2, 4, none⟩), .int .i64 h.top] 68 (0, 0))) ∧ (h.kind = 2 → W.heap[wb]? = some (.cells #[.pointer (some ⟨g2, 4, none⟩), .int .i64 h.top] 71 (0, 0)))
theorem mono_isWay (h : Hp) (B g2 : Nat) : Ri.Mono (isWay h B g2) := fun v w1 w2 ⟨wb, e, hb, h1, h2⟩ hq => ⟨wb, e, hb, fun e1 => (hq.below.block _ (blk_lt (h1 e1))).trans (h1 e1), fun e1 => (hq.below.block _ (blk_lt (h2 e1))).trans (h2 e1)⟩
theorem wayAt_iface (h : Hp) (hk : 0 ≤ h.kind ∧ h.kind ≤ 3) (g2 wb : Nat) : ∃ ty u, wayAt h g2 wb = .iface ty u := by
  unfold wayAt
  rcases kind_cases hk with e | e | e | e
  · exact ⟨_, _, Hp.way0 (by exact e)⟩
  · exact ⟨_, _, Hp.way1 (by exact e)⟩
  · exact ⟨_, _, Hp.way2 (by exact e)⟩
  · exact ⟨_, _, Hp.way3 (by exact e)⟩
/-- the copy, whole -/
def copyH (h : Hp) (g2 wb : Nat) (lv : Value) (bs : List Bk) : Hp := ⟨g2, 0, 0, h.kind, h.piece, h.size, lv, bs, wb, h.top, h.peak, h.calls, h.failIn⟩
theorem PartR.whole {W : World} {B g2 : Nat} {h : Hp} {lv v : Value} {bs : List Bk} (p : PartR W B g2 h h.bks.length lv bs) (hv : isWay h B g2 v W) :
    ∃ h2 : Hp, HpR (W.setCell ⟨g2, 6, none⟩ v) h2 ∧ h2.blk = g2 ∧ h2.mu = 0 ∧ h2.m = h.m ∧ ∀ b, h2.fp b → B ≤ b := by
  obtain ⟨wb, rfl, hb, h1, h2⟩ := hv
  have hne : ∀ (b : Nat) (cs : Array Value) (t : TypeId), W.heap[b]? = some (.cells cs t (0, 0)) → t ≠ 62 → (W.setCell ⟨g2, 6, none⟩ (wayAt h g2 wb)).heap[b]? = W.heap[b]? := fun b cs t e ht => heap_setCell_other _ _ _ _ (ty_ne e p.blk ht)
  have hpb : bs.map (·.pb) = h.bks.map (·.pb) := by
    rw [p.pbs, List.take_of_length_le (by rw [List.length_map]; exact Nat.le_refl _)]
  refine ⟨copyH h g2 wb lv bs, ⟨?_, ?_, ?_, ?_, ?_, p.apart⟩, rfl, rfl, ?_, ?_⟩
  · exact heap_setCell_same W g2 6 _ _ (wayAt h g2 wb) p.blk
  · show (W.setCell ⟨g2, 6, none⟩ (wayAt h g2 wb)).ownsRow 0 _ 2 lv bs.length _
    rw [p.len]
    exact own_low (own_same p.live fun b hb => by
      obtain ⟨cs, e⟩ := own_blk p.live hb
      exact hne b cs _ e (by decide)) (Nat.zero_le _)
  · intro x hx
    exact own_low (own_same (p.rows x hx) fun b hb => by
      obtain ⟨cs, e⟩ := own_blk (p.rows x hx) hb
      exact hne b cs _ e (by decide)) (Nat.zero_le _)
  · intro e
    exact (hne wb _ _ (h1 e) (by decide)).trans (h1 e)
  · intro e
    exact (hne wb _ _ (h2 e) (by decide)).trans (h2 e)
  · unfold Hp.m copyH
    simp only [hpb]
  · intro b e
    rcases e with e | e | ⟨x, hx, e⟩ | ⟨e1, e2⟩
    · have e : b = g2 := e
      have := p.low
      omega
    · exact (p.live.lt b e).1
    · have := ((p.rows x hx).lt _ x.own).1
      omega
    · have e2 : b = wb := e2
      have := hb e1
      omega
end Go.Proofs.YtegpkcbmgjoicaaGreat
