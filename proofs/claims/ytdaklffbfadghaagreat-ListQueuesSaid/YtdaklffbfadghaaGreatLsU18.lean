/- The state of a law on lists, maps and queues: what is known of heap and ground (plain), and how heap, rows and ground lie beside each other and beside other blocks. The acts of the law on lists: the list's and the document's side by side. The law ListPlays, walked: up to the loop. Conditions: as each theorem says. -/
import Derived.Test.YtdaklffbfadghaaGreatLsU17
import Derived.Test.YtdaklffbfadghaaGreatMg
import Derived.Deep.CutRange
import Derived.Deep.DeepCutAuto
import Derived.Deep.CutBlock
import Derived.Deep.LoopGhost
namespace Go.Proofs.YtdaklffbfadghaaGreat
open Go.RowKit HP
set_option linter.unusedVariables false
set_option linter.unusedSimpArgs false
theorem used_fit {size : Int} : ∀ {l : List PB} {a : Int}, (∀ x ∈ l, a ≤ x.1 ∧ pend x ≤ size) → sorted l → a ≤ size → used l ≤ size - a
  | [], a, _, _, ha => by show (0 : Int) ≤ _; omega
  | x :: r, a, h, hs, ha => by
    have h0 := h x (by simp)
    unfold sorted at hs
    rw [List.pairwise_cons] at hs
    have := used_fit (l := r) (a := pend x) (fun y hy => ⟨hs.1 y hy, (h y (by simp [hy])).2⟩) hs.2 h0.2
    show (x.2.length : Int) + used r ≤ size - a
    unfold pend at this
    omega
theorem rest_nil (m : HM) : rest m [] = stretches m := by
  unfold rest
  exact List.filter_eq_self.2 fun x _ => by simp
theorem sum2_nonneg : ∀ {l : List (Int × Int)}, (∀ x ∈ l, 0 ≤ x.2) → 0 ≤ sum2 l
  | [], _ => Int.le_refl _
  | x :: r, h => by
    have h1 := h x (by simp)
    have h2 := sum2_nonneg (l := r) fun y hy => h y (by simp [hy])
    show 0 ≤ x.2 + sum2 r
    omega
/-- what is known of a heap with rows of T numbers in it, and of its ground, behind k acts -/
structure GI (m : HM) (T : Nat) (ps : List Int) (n : Nat) (G : Gd) (k : Nat) : Prop where
  inv : Inv m
  pcs : Pcs m T ps n
  t3 : T ≤ 3
  calls : G.calls = m.calls
  rest : rest m ps = G.others
  used : G.used = sum2 G.others
  most : (n : Int) ≤ G.most ∧ G.most ≤ 64
  low : G.sure = true → Low m T ps
  few : m.calls ≤ 4 + (k : Int)
section
variable {m m' : HM} {T n n' k : Nat} {ps qs : List Int} {G G2 : Gd} {w W W' : World} {h : Hp}
theorem GI.start (I : Inv m) (B : Bg m G) (T : Nat) (hT : T ≤ 3) : GI m T [] 0 G 0 :=
  ⟨I, (Kp.nil m T).pcs, hT, B.calls, by rw [rest_nil, B.others], by rw [B.used, B.others]; exact (sum2_used _).symm, by rw [B.most]; decide, fun e => by
    obtain ⟨a1, a2, a3, a4⟩ := B.sure e
    exact Low.zero a1 a2 a3 a4 T, by have := B.few; omega⟩
theorem kept_gi (R : GR w h G) (g : GI h.m T ps n G k) : Calls Tryz.prog 45 #[.pointer (some ⟨G.blk, 0, none⟩)] w fun e w' => e = .returned (.bool true) ∧ ∃ h2, GS w h G.blk w' h2 G := by
  have h1 := used_own g.inv g.pcs
  have h2 := pcs_bound g.pcs (most := G.most.toNat) (by have := g.most; omega) g.t3
  have h3 := g.most
  have hl := g.inv.len
  have hf := used_fit (l := h.m.live) (a := 0) (size := h.m.size) (fun x hx => ⟨(g.inv.fit.inn x hx).1, (g.inv.fit.inn x hx).2.2⟩) g.inv.fit.ord (by have := g.inv.fit.sz; omega)
  have hsz := g.inv.fit.sz
  have h0 := used_nonneg h.m.live
  have hs : 0 ≤ sum2 (Go.Proofs.YtdaklffbfadghaaGreat.rest h.m ps) := sum2_nonneg fun x hx => by
    obtain ⟨y, hy, rfl⟩ := List.mem_map.1 (mem_rest.1 hx).1
    show (0 : Int) ≤ (y.2.length : Int)
    omega
  rw [g.rest] at h1 hs
  have hu := g.used
  have hm := g.most
  refine kept_any R g.inv (fun x hx => ?_) (by unfold stretches; rw [List.length_map]; omega) ⟨by omega, by omega⟩ ⟨by omega, by omega⟩ ⟨h0, by omega⟩ (by omega)
  rw [← g.rest] at hx
  exact (mem_rest.1 hx).1
theorem left_gi (R : GR w h G) (I : Inv h.m) (hr : rest h.m [] = G.others) : Calls Tryz.prog 40 #[.pointer (some ⟨G.blk, 0, none⟩)] w fun e w' => e = .returned (.bool true) ∧ ∃ h2, GS w h G.blk w' h2 G :=
  left_any R I (by rw [← rest_nil]; exact hr)
/-- what next is asked, and what the ground becomes -/
def NextO (G : Gd) (m : HM) (got want : Int) (lg : Bool) (n : Int) (G2 : Gd) : Prop :=
  (got = want ∧ (lg = true → (got != 0) = true) ∧ G.calls = m.calls ∧ G2 = G) ∨
  (got = 0 ∧ want = 0 ∧ lg = true ∧ G2 = { G with calls := m.calls, most := max G.most n }) ∨
  (got = 3 ∧ want = 0 ∧ lg = true ∧ (G.sure = true → 16 < n) ∧ G2 = { G with calls := m.calls })
theorem NextO.keep {got want n : Int} {lg : Bool} (O : NextO G m got want lg n G2) : G2.blk = G.blk ∧ G2.A = G.A ∧ G2.others = G.others := by
  rcases O with ⟨-, -, -, rfl⟩ | ⟨-, -, -, rfl⟩ | ⟨-, -, -, -, rfl⟩ <;> exact ⟨rfl, rfl, rfl⟩
theorem next_any (R : GR w h G) (I : Inv h.m) {got want n : Int} {lg : Bool} (O : NextO G h.m got want lg n G2) :
    Calls Tryz.prog 39 #[.pointer (some ⟨G.blk, 0, none⟩), .int .i64 got, .int .i64 want, .bool lg, .int .i64 n] w fun e w' => e = .returned (.bool true) ∧ ∃ h2, GS w h G.blk w' h2 G2 := by
  rcases O with ⟨rfl, hl, hc, rfl⟩ | ⟨rfl, rfl, rfl, rfl⟩ | ⟨rfl, rfl, rfl, hs, rfl⟩
  · exact next_quiet R I hc _ _ _ hl
  · exact next_ok R I _ rfl _ _ rfl
  · exact next_large R I _ _ rfl rfl _ hs
theorem GI.fr (g : GI m T ps n G k) (F : Fr m m' ps qs) : Go.Proofs.YtdaklffbfadghaaGreat.rest m' qs = G.others := F.rest.trans g.rest
theorem GI.quiet (g : GI m T ps n G k) (I : Inv m') (F : Fr m m' ps qs) (P : Pcs m' T qs n') (hn : n' ≤ n) (hc : m'.calls = m.calls) (hl : Low m T ps → Low m' T qs) : GI m' T qs n' G (k + 1) :=
  ⟨I, P, g.t3, by rw [hc]; exact g.calls, g.fr F, g.used, by have := g.most; omega, fun e => hl (g.low e), by have := g.few; omega⟩
theorem GI.ok (g : GI m T ps n G k) (I : Inv m') (F : Fr m m' ps qs) (P : Pcs m' T qs n') (hn : n' ≤ 64) (hc : m'.calls ≤ m.calls + 1) (hl : Low m T ps → Low m' T qs) : GI m' T qs n' { G with calls := m'.calls, most := max G.most (n' : Int) } (k + 1) :=
  ⟨I, P, g.t3, rfl, g.fr F, g.used, by have := g.most; show (n' : Int) ≤ max G.most n' ∧ max G.most n' ≤ 64; omega, fun e => hl (g.low e), by have := g.few; omega⟩
theorem GI.no (g : GI m T ps n G k) (I : Inv m') (F : Fr m m' ps qs) (P : Pcs m' T qs n') (hn : n' ≤ n) (hc : m'.calls ≤ m.calls + 1) (hl : Low m T ps → Low m' T qs) : GI m' T qs n' { G with calls := m'.calls } (k + 1) :=
  ⟨I, P, g.t3, rfl, g.fr F, g.used, by have := g.most; show (n' : Int) ≤ G.most ∧ G.most ≤ 64; omega, fun e => hl (g.low e), by have := g.few; omega⟩
theorem GI.more {k2 : Nat} (g : GI m T ps n G k) (h : k ≤ k2) : GI m T ps n G k2 := { g with few := by have := g.few; omega }
end
/-- heap, rows and ground, all made since w, beside each other and beside the blocks of S -/
structure LG (w W : World) (hb : Nat) (m : HM) (r : Rw) (G : Gd) (S : Nat → Prop) : Prop where
  ex : ∃ h : Hp, LR W h r ∧ GR W h G ∧ h.m = m ∧ h.blk = hb ∧ (∀ b, h.fp b → w.heap.size ≤ b) ∧ ∀ b, S b → ¬ h.fp b
  q : Q w W
  rg : ¬ r.fp G.blk
  ro : ∀ b o, G.A = some ⟨b, o, none⟩ → ¬ r.fp b ∧ ¬ S b
  rn : ∀ b, r.fp b → w.heap.size ≤ b
  gn : w.heap.size ≤ G.blk
  ss : ∀ b, S b → b < W.heap.size ∧ w.heap.size ≤ b ∧ ¬ r.fp b ∧ b ≠ G.blk
section
variable {m m' : HM} {w W W' : World} {h : Hp} {r : Rw} {G G2 : Gd} {hb : Nat} {S S' T : Nat → Prop} {f : FuncId} {args : Array Value}
theorem LR.keep (L : LR W h r) (hk : ∀ b, h.fp b ∨ r.fp b → W'.heap[b]? = W.heap[b]?) : LR W' h r :=
  ⟨L.heap.same fun b hf => hk b (.inl hf), L.mu, (hk _ (.inr (.inl rfl))).trans L.cells, own_same L.pcs fun g hg => hk g (.inr (.inr hg)), L.ap1, L.ap2⟩
theorem GR.keep (R : GR W h G) (hs : W.heap.size ≤ W'.heap.size) (hk : ∀ b, h.fp b ∨ b = G.blk ∨ (∃ o, G.A = some ⟨b, o, none⟩) → W'.heap[b]? = W.heap[b]?) : GR W' h G :=
  ⟨R.heap.same fun b hf => hk b (.inl hf), R.mu, (hk _ (.inr (.inl rfl))).trans R.box, R.oth.same hs fun b o e _ => hk b (.inr (.inr ⟨o, e⟩)), R.ap, fun b o e => ⟨Nat.lt_of_lt_of_le (R.apo b o e).1 hs, (R.apo b o e).2⟩, R.few⟩
theorem LG.start (R : GR W h G) (hq : Q W W') (L : LR W' h r) (hr : ∀ b, r.fp b → W.heap.size ≤ b) (hw : Q w W) (hn : ∀ b, h.fp b → w.heap.size ≤ b) (hg : w.heap.size ≤ G.blk) : LG w W' h.blk h.m r G (fun _ => False) := by
  have hbl := blk_lt R.box
  refine ⟨⟨h, L, R.q hq, rfl, rfl, hn, fun b e => e.elim⟩, hw.trans hq, fun e => ?_, fun b o e => ⟨fun e2 => ?_, fun e2 => e2⟩, fun b e => Nat.le_trans hw.size (hr b e), hg, fun b e => e.elim⟩
  · have := hr _ e
    omega
  · have := hr _ e2
    have := (R.apo b o e).1
    omega
/-- some of the blocks apart have turned; some may have come, some be forgotten -/
theorem LG.turn (X : LG w W hb m r G S) (t : Turn T W W') (hT : ∀ b, T b → S b) (hS : ∀ b, S' b → S b ∨ (W.heap.size ≤ b ∧ b < W'.heap.size)) : LG w W' hb m r G S' := by
  obtain ⟨⟨h, L, R, e1, e2, e3, e4⟩, h1, h2, h3, h4, h5, h6⟩ := X
  have nw : ∀ b, S' b → ¬ h.fp b ∧ ¬ r.fp b ∧ b ≠ G.blk ∧ (∀ o, G.A ≠ some ⟨b, o, none⟩) ∧ b < W'.heap.size ∧ w.heap.size ≤ b := fun b hb => by
    rcases hS b hb with e | ⟨e, e'⟩
    · obtain ⟨a1, a2, a3, a4⟩ := h6 b e
      exact ⟨e4 b e, a3, a4, fun o eo => (h3 b o eo).2 e, Nat.lt_of_lt_of_le a1 t.size, a2⟩
    · refine ⟨fun x => ?_, fun x => ?_, fun x => ?_, fun o x => ?_, e', Nat.le_trans h1.size e⟩
      · have := L.heap.lt b x; omega
      · have := L.rlt b x; omega
      · have := blk_lt R.box; omega
      · have := (R.apo b o x).1; omega
  refine ⟨⟨h, L.keep fun b hf => ?_, R.keep t.size fun b hf => ?_, e1, e2, e3, fun b hb => (nw b hb).1⟩, ?_, h2, fun b o e => ⟨(h3 b o e).1, fun hs => (nw b hs).2.2.2.1 o e⟩, h4, h5, fun b hb => ⟨(nw b hb).2.2.2.2.1, (nw b hb).2.2.2.2.2, (nw b hb).2.1, (nw b hb).2.2.1⟩⟩
  · refine t.block b (hf.elim (L.heap.lt b) (L.rlt b)) fun ht => ?_
    rcases hf with x | x
    · exact e4 b (hT b ht) x
    · exact (h6 b (hT b ht)).2.2.1 x
  · rcases hf with x | x | ⟨o, x⟩
    · exact t.block b (L.heap.lt b x) fun ht => e4 b (hT b ht) x
    · subst x
      exact t.block _ (blk_lt R.box) fun ht => (h6 _ (hT _ ht)).2.2.2 rfl
    · exact t.block b (R.apo b o x).1 fun ht => (h3 b o x).2 (hT b ht)
  · exact Turn.q_of h1 t fun i hi => (h6 i (hT i hi)).2.1
theorem LG.q' (X : LG w W hb m r G S) (hq : Q W W') : LG w W' hb m r G S := X.turn (T := fun _ => False) (.of_q hq) (fun b e => e.elim) fun b e => .inl e
/-- a call on the rows -/
theorem LG.list (X : LG w W hb m r G S) {P : Ending → World → HM → Rw → Prop} (hc : ∀ h, LR W h r → h.m = m → h.blk = hb → h.calls = m.calls → Calls Tryz.prog f args W fun e W' => ∃ m2 r2, LS W h r W' m2 r2 ∧ P e W' m2 r2) :
    Calls Tryz.prog f args W fun e W' => ∃ m2 r2, (LG w W' hb m2 r2 G S ∧ r2.blk = r.blk ∧ ∀ b, S b → W'.heap[b]? = W.heap[b]?) ∧ P e W' m2 r2 := by
  obtain ⟨⟨h, L, R, e1, e2, e3, e4⟩, h1, h2, h3, h4, h5, h6⟩ := X
  refine (hc h L e1 e2 (by rw [← e1]; rfl)).mono ?_
  rintro e W' ⟨m2, r2, ⟨h', D, em⟩, hP⟩
  have hbl := blk_lt R.box
  have ag := D.apart hbl R.ap h2
  have asx : ∀ b, S b → W'.heap[b]? = W.heap[b]? ∧ ¬ h'.fp b ∧ ¬ r2.fp b := fun b hb => D.apart (h6 b hb).1 (e4 b hb) (h6 b hb).2.2.1
  have hsz := h1.size
  refine ⟨m2, r2, ⟨⟨⟨h', D.lr, ⟨D.lr.heap, D.lr.mu, ?_, R.oth.same D.turn.size fun b o ea hl => (D.apart hl (R.apo b o ea).2.1 (h3 b o ea).1).1, ag.2.1, fun b o ea => ?_, R.few⟩, em, D.hb.trans e2, fun b hf => ?_, fun b hb => (asx b hb).2.1⟩, Turn.q_of h1 D.turn fun i hi => hi.elim (e3 i) (h4 i), ag.2.2, fun b o ea => ⟨(D.apart (R.apo b o ea).1 (R.apo b o ea).2.1 (h3 b o ea).1).2.2, (h3 b o ea).2⟩, fun b hf => ?_, h5, fun b hb => ⟨Nat.lt_of_lt_of_le (h6 b hb).1 D.turn.size, (h6 b hb).2.1, (asx b hb).2.2, (h6 b hb).2.2.2⟩⟩, D.rb, fun b hb => (asx b hb).1⟩, hP⟩
  · rw [ag.1, R.box]
    unfold Gd.cells Hp.ptr
    rw [D.hb]
  · obtain ⟨a1, a2, a3⟩ := R.apo b o ea
    exact ⟨Nat.lt_of_lt_of_le a1 D.turn.size, (D.apart a1 a2 (h3 b o ea).1).2.1, a3⟩
  · rcases D.hf b hf with x | x
    · exact e3 b x
    · omega
  · rcases D.rf b hf with x | x
    · exact h4 b x
    · omega
/-- a call on the ground -/
theorem LG.grd (X : LG w W hb m r G S) {P : Ending → Prop} (hA : G2.A = G.A) (hc : ∀ h, GR W h G → h.m = m → Calls Tryz.prog f args W fun e W' => P e ∧ ∃ h2, GS W h G.blk W' h2 G2) :
    Calls Tryz.prog f args W fun e W' => P e ∧ LG w W' hb m r G2 S ∧ G2.blk = G.blk ∧ ∀ b, S b → W'.heap[b]? = W.heap[b]? := by
  obtain ⟨⟨h, L, R, e1, e2, e3, e4⟩, h1, h2, h3, h4, h5, h6⟩ := X
  refine (hc h R e1).mono ?_
  rintro e W' ⟨hP, h', g⟩
  have hsz := h1.size
  have keep : ∀ b, b < W.heap.size → ¬ h.fp b → b ≠ G.blk → W'.heap[b]? = W.heap[b]? ∧ ¬ h'.fp b := fun b hl n1 n2 => ⟨g.turn.block b hl fun e => e.elim n1 n2, fun e => (g.hf b e).elim n1 (by omega)⟩
  have kr : ∀ b, r.fp b → W'.heap[b]? = W.heap[b]? ∧ ¬ h'.fp b := fun b hf => keep b (L.rlt b hf) (L.apart b hf) fun e => h2 (e ▸ hf)
  have hp : h'.ptr = h.ptr := by unfold Hp.ptr; rw [g.hb]
  have ks : ∀ b, S b → W'.heap[b]? = W.heap[b]? ∧ ¬ h'.fp b := fun b hb => keep b (h6 b hb).1 (e4 b hb) (h6 b hb).2.2.2
  refine ⟨hP, ⟨⟨h', ⟨g.gr.heap, g.gr.mu, ?_, own_same L.pcs fun b hg => (kr b (.inr hg)).1, (kr _ (.inl rfl)).2, fun b hb => ⟨(kr b (.inr hb)).2, (L.ap2 b hb).2⟩⟩, g.gr, g.m.trans e1, g.hb.trans e2, fun b hf => ?_, fun b hb => (ks b hb).2⟩, Turn.q_of h1 g.turn fun i hi => ?_, by rw [g.bk]; exact h2, by rw [hA]; exact h3, h4, by rw [g.bk]; exact h5, fun b hb => ⟨Nat.lt_of_lt_of_le (h6 b hb).1 g.turn.size, (h6 b hb).2.1, (h6 b hb).2.2.1, by rw [g.bk]; exact (h6 b hb).2.2.2⟩⟩, g.bk, fun b hb => (ks b hb).1⟩
  · rw [(kr _ (.inl rfl)).1, L.cells]
    unfold Rw.cells
    rw [hp]
  · rcases g.hf b hf with x | x
    · exact e3 b x
    · omega
  · rcases hi with x | x
    · exact e3 i x
    · subst x
      exact h5
end
end Go.Proofs.YtdaklffbfadghaaGreat

namespace Go.Proofs.YtdaklffbfadghaaGreat
open Go.RowKit HP
set_option linter.unusedVariables false
set_option linter.unusedSimpArgs false
/-- the state within a round: heap, rows, ground; the model's box mb and its row; the act's box ab; the next model's box nb and its row -/
structure AS (w W : World) (hb lb gb mb ab nb : Nat) (v v3 : Value) (m : HM) (r : Rw) (G : Gd) (op A B : Int) (xs ys : List Int) : Prop where
  rb : r.blk = lb
  gk : G.blk = gb
  lg : LG w W hb m r G (fun b => b = mb ∨ b = ab ∨ b = nb ∨ v.ownBlock = some b ∨ v3.ownBlock = some b)
  mbox : W.heap[mb]? = some (.cells #[v] 47 (0, 0))
  vown : W.ownsRow w.heap.size 3 1 v xs.length (intsV xs)
  abox : W.heap[ab]? = some (.cells #[.int .i64 op, .int .i64 A, .int .i64 B] 53 (0, 0))
  nbox : W.heap[nb]? = some (.cells #[v3] 47 (0, 0))
  nown : W.ownsRow w.heap.size 3 1 v3 ys.length (intsV ys)
  ne : mb ≠ nb ∧ ab ≠ nb ∧ v.ownBlock ≠ some nb
section
variable {w W W' : World} {hb lb gb mb ab nb k g c : Nat} {v v3 : Value} {m m2 : HM} {r r2 : Rw} {G G2 : Gd} {op A B : Int} {xs ys zs : List Int} {f : FuncId} {args : Array Value}
theorem AS.q (X : AS w W hb lb gb mb ab nb v v3 m r G op A B xs ys) (hq : Q W W') : AS w W' hb lb gb mb ab nb v v3 m r G op A B xs ys :=
  ⟨X.rb, X.gk, X.lg.q' hq, (hq.below.block _ (blk_lt X.mbox)).trans X.mbox, own_q X.vown hq, (hq.below.block _ (blk_lt X.abox)).trans X.abox, (hq.below.block _ (blk_lt X.nbox)).trans X.nbox, own_q X.nown hq, X.ne⟩
theorem AS.list (X : AS w W hb lb gb mb ab nb v v3 m r G op A B xs ys) {P : Ending → World → HM → Rw → Prop} (hc : ∀ h, LR W h r → h.m = m → h.calls = m.calls → Calls Tryz.prog f args W fun e W' => ∃ m2 r2, LS W h r W' m2 r2 ∧ P e W' m2 r2) :
    Calls Tryz.prog f args W fun e W' => ∃ m2 r2, AS w W' hb lb gb mb ab nb v v3 m2 r2 G op A B xs ys ∧ P e W' m2 r2 := by
  refine (X.lg.list fun h L e1 e2 e3 => hc h L e1 e3).mono ?_
  rintro e W' ⟨m2, r2, ⟨hl, hb, hs⟩, hP⟩
  exact ⟨m2, r2, ⟨hb.trans X.rb, X.gk, hl, (hs _ (.inl rfl)).trans X.mbox, own_same X.vown fun g hg => hs g (.inr (.inr (.inr (.inl hg)))), (hs _ (.inr (.inl rfl))).trans X.abox, (hs _ (.inr (.inr (.inl rfl)))).trans X.nbox, own_same X.nown fun g hg => hs g (.inr (.inr (.inr (.inr hg)))), X.ne⟩, hP⟩
theorem AS.grd (X : AS w W hb lb gb mb ab nb v v3 m r G op A B xs ys) {P : Ending → Prop} (hA : G2.A = G.A) (hc : ∀ h, GR W h G → h.m = m → Calls Tryz.prog f args W fun e W' => P e ∧ ∃ h2, GS W h G.blk W' h2 G2) :
    Calls Tryz.prog f args W fun e W' => P e ∧ AS w W' hb lb gb mb ab nb v v3 m r G2 op A B xs ys := by
  refine (X.lg.grd hA hc).mono ?_
  rintro e W' ⟨hP, hl, hb, hs⟩
  exact ⟨hP, X.rb, hb.trans X.gk, hl, (hs _ (.inl rfl)).trans X.mbox, own_same X.vown fun g hg => hs g (.inr (.inr (.inr (.inl hg)))), (hs _ (.inr (.inl rfl))).trans X.abox, (hs _ (.inr (.inr (.inl rfl)))).trans X.nbox, own_same X.nown fun g hg => hs g (.inr (.inr (.inr (.inr hg)))), X.ne⟩
/-- the document's list has another row -/
theorem AS.ref (X : AS w W hb lb gb mb ab nb v v3 m r G op A B xs ys) (hr : RefOk W nb zs W') : ∃ v4, AS w W' hb lb gb mb ab nb v v4 m r G op A B xs zs := by
  obtain ⟨v4, hb4, ho4, t⟩ := hr
  have hsz := X.lg.q.size
  have hl := X.lg.ss
  obtain ⟨n1, n2, n3⟩ := X.ne
  have keep : ∀ b, b < W.heap.size → b ≠ nb → W'.heap[b]? = W.heap[b]? := fun b h1 h2 => t.block b h1 h2
  refine ⟨v4, X.rb, X.gk, X.lg.turn t (fun b e => .inr (.inr (.inl e))) fun b e => ?_, (keep _ (blk_lt X.mbox) n1).trans X.mbox, own_same X.vown fun g hg => keep g (X.vown.lt g hg).2 fun e => n3 (e ▸ hg), (keep _ (blk_lt X.abox) n2).trans X.abox, hb4, own_low ho4 hsz, X.ne⟩
  rcases e with e | e | e | e | e
  · exact .inl (.inl e)
  · exact .inl (.inr (.inl e))
  · exact .inl (.inr (.inr (.inl e)))
  · exact .inl (.inr (.inr (.inr (.inl e))))
  · exact .inr (ho4.lt b e)
theorem AS.cs (X : AS w W hb lb gb mb ab nb v v3 m r G op A B xs ys) : W.cell? ⟨ab, 0, none⟩ = some (.int .i64 op) ∧ W.cell? ⟨ab, 1, none⟩ = some (.int .i64 A) ∧ W.cell? ⟨ab, 2, none⟩ = some (.int .i64 B) ∧ W.cell? ⟨nb, 0, none⟩ = some v3 ∧ W.cell? ⟨mb, 0, none⟩ = some v ∧ ab < W.heap.size ∧ nb < W.heap.size ∧ mb < W.heap.size ∧ W.frozen? ⟨mb, 0, none⟩ = false := by
  refine ⟨?_, ?_, ?_, ?_, ?_, blk_lt X.abox, blk_lt X.nbox, blk_lt X.mbox, frozen_of_row _ _ _ _ _ X.mbox⟩
  · rw [cell_of_row _ _ _ _ _ _ X.abox]; rfl
  · rw [cell_of_row _ _ _ _ _ _ X.abox]; rfl
  · rw [cell_of_row _ _ _ _ _ _ X.abox]; rfl
  · rw [cell_of_row _ _ _ _ _ _ X.nbox]; rfl
  · rw [cell_of_row _ _ _ _ _ _ X.mbox]; rfl
theorem AS.rl (X : AS w W hb lb gb mb ab nb v (.slice (some ⟨g, 0, none⟩) ys.length c) m r G op A B xs ys) : RL W nb g c ys := ⟨X.nbox, own_low X.nown (Nat.zero_le _)⟩
theorem LstR.fit64 {m : HM} {r : Rw} {xs : List Int} (S : LstR m r xs) : xs.length ≤ 64 := by
  have := S.kp.len
  rw [one_len] at this
  exact this
theorem LstR.pcs {m : HM} {r : Rw} {xs : List Int} (S : LstR m r xs) : Pcs m 1 r.ps xs.length := by
  have := S.kp.pcs
  rw [one_len] at this
  exact this
/-- what an act comes to -/
def ActO (m2 : HM) (r2 : Rw) (G G2 : Gd) (k : Nat) (xs ys xs2 : List Int) (got want : Int) (lg : Bool) : Prop :=
  NextO G m2 got want lg ys.length G2 ∧ GI m2 1 r2.ps xs2.length G2 (k + 1) ∧ LstR m2 r2 xs2 ∧ (((got == 0) = true ∧ xs2 = ys) ∨ ((got == 0) = false ∧ xs2 = xs))
theorem ActO.same {got : Int} {lg : Bool} (S : LstR m r xs) (g : GI m 1 r.ps xs.length G k) (h : (got == 0) = false) : ActO m r G G k xs ys xs got got lg :=
  ⟨.inl ⟨rfl, fun _ => by simp only [bne, h]; rfl, g.calls, rfl⟩, g.more (by omega), S, .inr ⟨h, rfl⟩⟩
/-- what the document's next list is -/
def insY (xs : List Int) (i n : Int) : List Int := if insP xs i n = 0 then insAt xs i.toNat [n] else xs
theorem ins_out {i n err : Int} (S : LstR m r xs) (g : GI m 1 r.ps xs.length G k) (O : InsO m m2 r r2 xs i n err) : ∃ G2 xs2, ActO m2 r2 G G2 k xs (insY xs i n) xs2 err (insP xs i n) true := by
  rcases O with ⟨h1, rfl, rfl, rfl⟩ | ⟨h1, h2, rfl, rfl, rfl⟩ | ⟨h1, h2, ok, rfl, S2, I⟩
  · have e : insP xs i n = 1 := by unfold insP; rw [if_pos h1]
    rw [e]
    exact ⟨G, xs, .same S g rfl⟩
  · have e : insP xs i n = 4 := by unfold insP; rw [if_neg (by rw [h1]; decide), if_pos h2]
    rw [e]
    exact ⟨G, xs, .same S g rfl⟩
  · have h64 := S.fit64
    have e : insP xs i n = if 64 ≤ xs.length then 3 else 0 := by unfold insP; rw [if_neg (by rw [h1]; decide), if_neg (fun x => x h2)]
    have P2 := S2.pcs
    by_cases hf : xs.length = 64
    · obtain ⟨e1, e2⟩ := I.full (by rw [one_len]; exact hf)
      subst e1
      rw [if_pos (by omega)] at e
      have ey : insY xs i n = xs := by unfold insY; rw [e, if_neg (by decide)]
      rw [e, ey]
      exact ⟨G, xs, .inl ⟨rfl, fun _ => rfl, by rw [e2]; exact g.calls, rfl⟩, g.quiet S2.inv I.fr P2 (Nat.le_refl _) e2 fun L => (I.low 0 L).1, S2, .inr ⟨rfl, rfl⟩⟩
    · rw [if_neg (by omega)] at e
      have ey : insY xs i n = insAt xs i.toNat [n] := by unfold insY; rw [e, if_pos rfl]
      have hlen : (insAt xs i.toNat [n]).length = xs.length + 1 := by rw [insAt_len _ _ _ (by omega)]; rfl
      rw [e, ey]
      cases ok with
      | true =>
        have P2 : Pcs m2 1 r2.ps (insAt xs i.toNat [n]).length := P2
        refine ⟨{ G with calls := m2.calls, most := max G.most ((insAt xs i.toNat [n]).length : Int) }, insAt xs i.toNat [n], .inr (.inl ⟨rfl, rfl, rfl, rfl⟩), g.ok S2.inv I.fr P2 (by omega) I.calls.2 fun L => (I.low 0 L).1, S2, .inl ⟨rfl, rfl⟩⟩
      | false =>
        have P2 : Pcs m2 1 r2.ps xs.length := P2
        refine ⟨{ G with calls := m2.calls }, xs, .inr (.inr ⟨rfl, rfl, rfl, fun hs => ?_, rfl⟩), g.no S2.inv I.fr P2 (Nat.le_refl _) I.calls.2 fun L => (I.low 0 L).1, S2, .inr ⟨rfl, rfl⟩⟩
        have h16 : ¬ xs.length < 16 := fun h => by
          have := (I.low 0 (g.low hs)).2 (by rw [one_len]; exact h)
          cases this
        omega
def setY (xs : List Int) (i n : Int) : List Int := if setP xs i n = 0 then xs.set i.toNat n else xs
theorem set_out {i n err : Int} (S : LstR m r xs) (g : GI m 1 r.ps xs.length G k) (O : SetO m m2 r r2 xs i n err) : ∃ G2 xs2, ActO m2 r2 G G2 k xs (setY xs i n) xs2 err (setP xs i n) false := by
  rcases O with ⟨h1, rfl, rfl, rfl⟩ | ⟨h1, h2, rfl, rfl, rfl⟩ | ⟨h1, h2, rfl, rfl, S2, I⟩
  · have e : setP xs i n = 1 := by unfold setP; rw [if_pos h1]
    rw [e]
    exact ⟨G, xs, .same S g rfl⟩
  · have e : setP xs i n = 4 := by unfold setP; rw [if_neg (by rw [h1]; decide), if_pos h2]
    rw [e]
    exact ⟨G, xs, .same S g rfl⟩
  · have e : setP xs i n = 0 := by unfold setP; rw [if_neg (by rw [h1]; decide), if_neg (fun x => x h2)]
    have ey : setY xs i n = xs.set i.toNat n := by unfold setY; rw [e, if_pos rfl]
    rw [e, ey]
    exact ⟨G, xs.set i.toNat n, .inl ⟨rfl, (fun e => by cases e), by rw [I.calls]; exact g.calls, rfl⟩, g.quiet S2.inv I.fr S2.pcs (by rw [List.length_set]; exact Nat.le_refl _) I.calls fun L => I.low L, S2, .inl ⟨rfl, rfl⟩⟩
/-- what the document's Remove and Get say -/
def remV (xs : List Int) (i : Int) : Int := if 0 ≤ i ∧ i < (xs.length : Int) then xs.getD i.toNat 0 else 0
def remY (xs : List Int) (i : Int) : List Int := if 0 ≤ i ∧ i < (xs.length : Int) then delAt xs i.toNat 1 else xs
theorem remV_of {i v : Int} (h : 0 ≤ i ∧ i < (xs.length : Int)) (hv : xs[i.toNat]? = some v) : remV xs i = v := by
  unfold remV
  rw [if_pos h, List.getD_eq_getElem?_getD, hv]
  rfl
theorem rem_out {i v err : Int} (S : LstR m r xs) (g : GI m 1 r.ps xs.length G k) (O : RemO m m2 r r2 xs i v err) : v = remV xs i ∧ err = askE xs i ∧ ∃ G2 xs2, ActO m2 r2 G G2 k xs (remY xs i) xs2 err (askE xs i) false := by
  rcases O with ⟨h1, rfl, rfl, rfl, rfl⟩ | ⟨h1, h2, rfl, S2, I⟩
  · have e : askE xs i = 4 := if_neg h1
    rw [e]
    exact ⟨(if_neg h1).symm, rfl, G, xs, .same S g rfl⟩
  · have e : askE xs i = 0 := if_pos h1
    have ey : remY xs i = delAt xs i.toNat 1 := if_pos h1
    rw [e, ey]
    have hl : (delAt xs i.toNat 1).length ≤ xs.length := by rw [delAt_len _ _ _ (by omega)]; omega
    exact ⟨(remV_of h1 h2).symm, rfl, G, delAt xs i.toNat 1, .inl ⟨rfl, (fun e => by cases e), by rw [I.calls]; exact g.calls, rfl⟩, g.quiet S2.inv I.fr S2.pcs hl I.calls fun L => I.low 0 L, S2, .inl ⟨rfl, rfl⟩⟩
theorem get_out {i : Int} (S : LstR m r xs) (g : GI m 1 r.ps xs.length G k) : ∃ G2 xs2, ActO m r G G2 k xs xs xs2 (askE xs i) (askE xs i) false := by
  refine ⟨G, xs, .inl ⟨rfl, (fun e => by cases e), g.calls, rfl⟩, g.more (by omega), S, ?_⟩
  unfold askE
  split
  · exact .inl ⟨rfl, rfl⟩
  · exact .inr ⟨rfl, rfl⟩
/-! the calls -/
theorem AS.ptr (X : AS w W hb lb gb mb ab nb v v3 m r G op A B xs ys) : r.ptr = .pointer (some ⟨lb, 0, none⟩) := by unfold Rw.ptr; rw [X.rb]
theorem as_add (X : AS w W hb lb gb mb ab nb v v3 m r G op A B xs ys) (S : LstR m r xs) (hc : m.calls < 1000000000) (n : Int) :
    Calls Tryz.prog 17 #[.pointer (some ⟨lb, 0, none⟩), .int .i64 n] W fun e W' => ∃ m2 r2, AS w W' hb lb gb mb ab nb v v3 m2 r2 G op A B xs ys ∧ ∃ err, e = .returned (.int .i64 err) ∧ InsO m m2 r r2 xs xs.length n err := by
  refine X.list (P := fun e W' m2 r2 => ∃ err, e = .returned (.int .i64 err) ∧ InsO m m2 r r2 xs xs.length n err) fun h L e1 e2 => ?_
  have := addL_any L (xs := xs) (by rw [e1]; exact S) (by rw [e2]; exact hc) n
  rw [X.ptr, e1] at this
  refine this.mono ?_
  rintro e W' ⟨m2, r2, hX, err, he, hO, -⟩
  exact ⟨m2, r2, hX, err, he, hO⟩
theorem as_ins (X : AS w W hb lb gb mb ab nb v v3 m r G op A B xs ys) (S : LstR m r xs) (hc : m.calls < 1000000000) (i n : Int) :
    Calls Tryz.prog 46 #[.pointer (some ⟨lb, 0, none⟩), .int .i64 i, .int .i64 n] W fun e W' => ∃ m2 r2, AS w W' hb lb gb mb ab nb v v3 m2 r2 G op A B xs ys ∧ ∃ err, e = .returned (.int .i64 err) ∧ InsO m m2 r r2 xs i n err := by
  refine X.list (P := fun e W' m2 r2 => ∃ err, e = .returned (.int .i64 err) ∧ InsO m m2 r r2 xs i n err) fun h L e1 e2 => ?_
  have := insertL_any L (xs := xs) (by rw [e1]; exact S) (by rw [e2]; exact hc) i n
  rw [X.ptr, e1] at this
  refine this.mono ?_
  rintro e W' ⟨err, m2, r2, he, hX, hO, -⟩
  exact ⟨m2, r2, hX, err, he, hO⟩
theorem as_rem (X : AS w W hb lb gb mb ab nb v v3 m r G op A B xs ys) (S : LstR m r xs) (i : Int) :
    Calls Tryz.prog 19 #[.pointer (some ⟨lb, 0, none⟩), .int .i64 i] W fun e W' => ∃ m2 r2, AS w W' hb lb gb mb ab nb v v3 m2 r2 G op A B xs ys ∧ ∃ x err, e = .returned (.tuple #[.int .i64 x, .int .i64 err]) ∧ RemO m m2 r r2 xs i x err := by
  refine X.list (P := fun e W' m2 r2 => ∃ x err, e = .returned (.tuple #[.int .i64 x, .int .i64 err]) ∧ RemO m m2 r r2 xs i x err) fun h L e1 e2 => ?_
  have := removeL_any L (xs := xs) (by rw [e1]; exact S) i
  rw [X.ptr, e1] at this
  refine this.mono ?_
  rintro e W' ⟨m2, r2, hX, x, err, he, hO, -⟩
  exact ⟨m2, r2, hX, x, err, he, hO⟩
theorem as_get (X : AS w W hb lb gb mb ab nb v v3 m r G op A B xs ys) (S : LstR m r xs) (i : Int) :
    Calls Tryz.prog 47 #[.pointer (some ⟨lb, 0, none⟩), .int .i64 i] W fun e W' => e = .returned (.tuple #[.int .i64 (remV xs i), .int .i64 (askE xs i)]) ∧ AS w W' hb lb gb mb ab nb v v3 m r G op A B xs ys := by
  refine (X.list (P := fun e W' m2 r2 => e = .returned (.tuple #[.int .i64 (remV xs i), .int .i64 (askE xs i)]) ∧ m2 = m ∧ r2 = r) fun h L e1 e2 => ?_).mono ?_
  · have := getL_any L (xs := xs) (by rw [e1]; exact S) i
    rw [X.ptr] at this
    refine this.mono ?_
    rintro e W' ⟨m2, r2, hX, x, err, he, e3, e4, hO⟩
    refine ⟨m2, r2, hX, ?_, e3.trans e1, e4⟩
    rcases hO with ⟨h1, rfl, rfl⟩ | ⟨h1, h2, rfl⟩
    · rw [he, show remV xs i = 0 from if_neg h1, show askE xs i = 4 from if_neg h1]
    · rw [he, remV_of h1 h2, show askE xs i = 0 from if_pos h1]
  · rintro e W' ⟨m2, r2, hX, he, rfl, rfl⟩
    exact ⟨he, hX⟩
theorem as_set (X : AS w W hb lb gb mb ab nb v v3 m r G op A B xs ys) (S : LstR m r xs) (i n : Int) :
    Calls Tryz.prog 49 #[.pointer (some ⟨lb, 0, none⟩), .int .i64 i, .int .i64 n] W fun e W' => ∃ m2 r2, AS w W' hb lb gb mb ab nb v v3 m2 r2 G op A B xs ys ∧ ∃ err, e = .returned (.int .i64 err) ∧ SetO m m2 r r2 xs i n err := by
  refine X.list (P := fun e W' m2 r2 => ∃ err, e = .returned (.int .i64 err) ∧ SetO m m2 r r2 xs i n err) fun h L e1 e2 => ?_
  have := setL_any L (xs := xs) (by rw [e1]; exact S) i n
  rw [X.ptr, e1] at this
  refine this.mono ?_
  rintro e W' ⟨m2, r2, hX, err, he, hO, -⟩
  exact ⟨m2, r2, hX, err, he, hO⟩
/-! the document's -/
theorem as_rins (X : AS w W hb lb gb mb ab nb v (.slice (some ⟨g, 0, none⟩) ys.length c) m r G op A B xs ys) (hn : ys.length ≤ 1000) (i n : Int) :
    Calls Tryz.prog 18 #[.pointer (some ⟨nb, 0, none⟩), .int .i64 i, .int .i64 n] W fun e W' => e = .returned (.int .i64 (insP ys i n)) ∧ ∃ v4, AS w W' hb lb gb mb ab nb v v4 m r G op A B xs (insY ys i n) := by
  by_cases h : insP ys i n = 0
  · refine (insertR_ok X.rl i n h).mono ?_
    rintro e W' ⟨he, hr⟩
    rw [h]
    unfold insY
    rw [if_pos h]
    exact ⟨he, X.ref hr⟩
  · refine (insertR_bad X.rl hn i n h).mono ?_
    rintro e W' ⟨he, hq⟩
    unfold insY
    rw [if_neg h]
    exact ⟨he, _, X.q hq⟩
theorem as_rset (X : AS w W hb lb gb mb ab nb v (.slice (some ⟨g, 0, none⟩) ys.length c) m r G op A B xs ys) (hn : ys.length ≤ 1000) (i n : Int) :
    Calls Tryz.prog 50 #[.pointer (some ⟨nb, 0, none⟩), .int .i64 i, .int .i64 n] W fun e W' => e = .returned (.int .i64 (setP ys i n)) ∧ ∃ v4, AS w W' hb lb gb mb ab nb v v4 m r G op A B xs (setY ys i n) := by
  by_cases h : setP ys i n = 0
  · have h0 := h
    unfold setP at h0
    split at h0
    · cases h0
    · rename_i hf
      split at h0
      · cases h0
      · rename_i hi
        have hi : 0 ≤ i ∧ i < (ys.length : Int) := by omega
        obtain ⟨j, rfl⟩ : ∃ j : Nat, i = (j : Int) := ⟨i.toNat, by omega⟩
        refine (setR_ok X.rl hn j n (by simpa using hf) (by omega)).mono ?_
        rintro e W' ⟨he, hr⟩
        rw [h]
        unfold setY
        rw [if_pos h]
        exact ⟨he, X.ref hr⟩
  · refine (setR_bad X.rl hn i n h).mono ?_
    rintro e W' ⟨he, hq⟩
    unfold setY
    rw [if_neg h]
    exact ⟨he, _, X.q hq⟩
theorem as_rget (X : AS w W hb lb gb mb ab nb v (.slice (some ⟨g, 0, none⟩) ys.length c) m r G op A B xs ys) (hn : ys.length ≤ 1000) (i : Int) :
    Calls Tryz.prog 48 #[.pointer (some ⟨nb, 0, none⟩), .int .i64 i] W fun e W' => e = .returned (.tuple #[.int .i64 (remV ys i), .int .i64 (askE ys i)]) ∧ AS w W' hb lb gb mb ab nb v (.slice (some ⟨g, 0, none⟩) ys.length c) m r G op A B xs ys := by
  refine (getR_any X.rl hn i).mono ?_
  rintro e W' ⟨x, err, he, hq, hO⟩
  refine ⟨?_, X.q hq⟩
  rcases hO with ⟨h1, rfl, rfl⟩ | ⟨h1, h2, rfl⟩
  · rw [he, show remV ys i = 0 from if_neg h1, show askE ys i = 4 from if_neg h1]
  · rw [he, remV_of h1 h2, show askE ys i = 0 from if_pos h1]
theorem as_rrem (X : AS w W hb lb gb mb ab nb v (.slice (some ⟨g, 0, none⟩) ys.length c) m r G op A B xs ys) (hn : ys.length ≤ 1000) (i : Int) :
    Calls Tryz.prog 20 #[.pointer (some ⟨nb, 0, none⟩), .int .i64 i] W fun e W' => e = .returned (.tuple #[.int .i64 (remV ys i), .int .i64 (askE ys i)]) ∧ ∃ v4, AS w W' hb lb gb mb ab nb v v4 m r G op A B xs (remY ys i) := by
  by_cases h1 : 0 ≤ i ∧ i < (ys.length : Int)
  · have h1' := h1
    obtain ⟨j, rfl⟩ : ∃ j : Nat, i = (j : Int) := ⟨i.toNat, by omega⟩
    obtain ⟨x, hx⟩ : ∃ x, ys[j]? = some x := ⟨ys[j]'(by omega), List.getElem?_eq_getElem _⟩
    refine (removeR_ok X.rl hn j hx).mono ?_
    rintro e W' ⟨he, hr⟩
    rw [remV_of h1' hx, show askE ys j = 0 from if_pos h1', show remY ys j = delAt ys j 1 from if_pos h1']
    exact ⟨he, X.ref hr⟩
  · refine (removeR_bad X.rl hn i h1).mono ?_
    rintro e W' ⟨he, hq⟩
    rw [show remV ys i = 0 from if_neg h1, show askE ys i = 4 from if_neg h1, show remY ys i = ys from if_neg h1]
    exact ⟨he, _, X.q hq⟩
end
end Go.Proofs.YtdaklffbfadghaaGreat

namespace Go.Proofs.YtdaklffbfadghaaGreat
open Go.RowKit HP
set_option linter.unusedVariables false
set_option linter.unusedSimpArgs false
abbrev Ask3 := Int × Int × Int
def encA (p : Ask3) : List Value := [.int .i64 p.1, .int .i64 p.2.1, .int .i64 p.2.2]
def okI (_ : World) (a : Int) : Prop := (Lit.int .i64 a).wf = true
def okA (_ : World) (p : Ask3) : Prop := (Lit.int .i64 p.1).wf = true ∧ (Lit.int .i64 p.2.1).wf = true ∧ (Lit.int .i64 p.2.2).wf = true
theorem rdI64 : Rdr Tryz.prog 3 1 (encI .i64) okI := Rdr.int Tryz.underlying3 (by kernel_rfl)
theorem rdAct : Rdr Tryz.prog 53 3 encA okA :=
  Rdr.struct Tryz.underlying53 (by kernel_rfl) (by
    refine RdrF.cons (i := 0) (off := 0) (k := 1) (k' := 2) (enc := encI .i64) (enc' := fun p : Int × Int => encI .i64 p.1 ++ encI .i64 p.2) (ok := okI) (ok' := fun (w : World) (p : Int × Int) => okI w p.1 ∧ okI w p.2) (f := _) (hf := rfl) ?_ ?_ ?_
    · rfl
    · exact rdI64
    refine RdrF.cons (i := 1) (off := 1) (k := 1) (k' := 1) (enc := encI .i64) (enc' := encI .i64) (ok := okI) (ok' := okI) (f := _) (hf := rfl) ?_ ?_ ?_
    · rfl
    · exact rdI64
    refine RdrF.one (f := _) (hf := rfl) ?_ ?_
    · rfl
    exact rdI64)
abbrev Pl5 := Int × Int × Int × Int × Int
def encP5 (p : Pl5) : List Value := [.int .i64 p.1, .int .i64 p.2.1, .int .i64 p.2.2.1, .int .i64 p.2.2.2.1, .int .i64 p.2.2.2.2]
def okP5 (w : World) (p : Pl5) : Prop := okI w p.1 ∧ okI w p.2.1 ∧ okI w p.2.2.1 ∧ okI w p.2.2.2.1 ∧ okI w p.2.2.2.2
theorem rdPlace : Rdr Tryz.prog 23 5 encP5 okP5 :=
  Rdr.struct Tryz.underlying23 (by kernel_rfl) (by
    refine RdrF.cons (i := 0) (off := 0) (k := 1) (k' := 4) (enc := encI .i64) (enc' := fun p : Int × Int × Int × Int => encI .i64 p.1 ++ (encI .i64 p.2.1 ++ (encI .i64 p.2.2.1 ++ encI .i64 p.2.2.2))) (ok := okI) (ok' := fun (w : World) (p : Int × Int × Int × Int) => okI w p.1 ∧ okI w p.2.1 ∧ okI w p.2.2.1 ∧ okI w p.2.2.2) (f := _) (hf := rfl) ?_ ?_ ?_
    · rfl
    · exact rdI64
    refine RdrF.cons (i := 1) (off := 1) (k := 1) (k' := 3) (enc := encI .i64) (enc' := fun p : Int × Int × Int => encI .i64 p.1 ++ (encI .i64 p.2.1 ++ encI .i64 p.2.2)) (ok := okI) (ok' := fun (w : World) (p : Int × Int × Int) => okI w p.1 ∧ okI w p.2.1 ∧ okI w p.2.2) (f := _) (hf := rfl) ?_ ?_ ?_
    · rfl
    · exact rdI64
    refine RdrF.cons (i := 2) (off := 2) (k := 1) (k' := 2) (enc := encI .i64) (enc' := fun p : Int × Int => encI .i64 p.1 ++ encI .i64 p.2) (ok := okI) (ok' := fun (w : World) (p : Int × Int) => okI w p.1 ∧ okI w p.2) (f := _) (hf := rfl) ?_ ?_ ?_
    · rfl
    · exact rdI64
    refine RdrF.cons (i := 3) (off := 3) (k := 1) (k' := 1) (enc := encI .i64) (enc' := encI .i64) (ok := okI) (ok' := okI) (f := _) (hf := rfl) ?_ ?_ ?_
    · rfl
    · exact rdI64
    refine RdrF.one (f := _) (hf := rfl) ?_ ?_
    · rfl
    exact rdI64)
instance : Inhabited Ask3 := ⟨(0, 0, 0)⟩
theorem rdActs : Rdr Tryz.prog 24 1 (encV (α := Ask3)) (SlOk 3 encA okA) :=
  Rdr.slice' rdAct (by decide) Tryz.underlying24 (by kernel_rfl) (show Tryz.prog.bytesOf 53 = 24 by kernel_rfl) (by decide)
theorem Sl.ask {w : World} {A : Option Addr} {n c : Nat} {xs : List Ask3} (h : Sl 3 encA w A n c xs) (i : Nat) (hi : i < n) :
    ∃ b o op a1 b1, A = some ⟨b, o, none⟩ ∧ b < w.heap.size ∧ xs[i]? = some (op, a1, b1) ∧ w.cell? ⟨b, o + i * 3, none⟩ = some (.int .i64 op) ∧ w.cell? ⟨b, o + i * 3 + 1, none⟩ = some (.int .i64 a1) ∧ w.cell? ⟨b, o + i * 3 + 2, none⟩ = some (.int .i64 b1) := by
  obtain ⟨b, o, ⟨op, a1, b1⟩, e, hb, hx, hc⟩ := h.at_ (fun _ => rfl) (by decide) i hi
  exact ⟨b, o, op, a1, b1, e, hb, hx, by simpa using hc 0 _ rfl, hc 1 _ rfl, hc 2 _ rfl⟩
section
variable {P : Program} {t e size bytes : Nat} {w : World} {base : Nat} {ops : Array Oper} {rest : List Oper} {o : Oper} {a : Act} {Q' : Exit → Act → World → Prop} {v : Value} {n : Nat} {xs : List Value}
/-- append of another slice's elements to a row that is not nil: the new one is not nil -/
theorem wpList_appsn (hgd : o.guard = none) (E : El P t e size bytes) (s x : Operand) (ho : o.op = .call { callee := .builtin .append, args := #[s, x], argTypes := #[t, t] })
    (hs : a.eval s = v) (hown : w.ownsRow base e size v n xs) (hne : v ≠ .slice none 0 0) {A : Option Addr} {m c B : Nat} {news : List Value} (hx : a.eval x = .slice A m c) (hA : A = none → m = 0 ∧ c = 0) (hl : news.length = m * size) (hr : Rd w B A news) (h1 : ∀ u ∈ news, u.oneCell' = true)
    (hb : (n + m) * bytes ≤ 140737488355328) (hbase : base ≤ w.heap.size)
    (h : ∀ v' w', w'.ownsRow base e size v' (n + m) (xs ++ news) → Below base w w' → v' ≠ .slice none 0 0 → wpList P ops Q' rest (a.put o.dst v') w') : wpList P ops Q' (o :: rest) a w := by
  obtain ⟨i, z, hi, hz, hsz, hby, hzs⟩ := E.inf
  rcases A with _ | ad
  · obtain ⟨rfl, rfl⟩ := hA rfl
    have : news = [] := List.eq_nil_of_length_eq_zero (by simpa using hl)
    subst this
    refine wpList_append_own_none hgd s x t ho base e i size E.und hi v n xs hs hown hx (h v w (by simpa using hown) (Below.refl _ _) hne)
  · have hle : n + m ≤ (n + m) * bytes := Nat.le_mul_of_pos_right _ E.bpos
    refine wpList_append_own _ hgd s x t ho base e i z size bytes E.und hi hz hsz hby hzs E.pos v n xs hs hown ad m c news hx hl (fun j u hu => ?_) h1 (by simp only [maxLen]; omega) hb hbase (fun v' w' h2 h3 h4 => h v' w' h2 (below_own hown h3 hbase) fun e => hne (h4.1 e).1)
    rcases hr with rfl | ⟨b, o, h2, _, h3⟩
    · simp at hu
    · obtain rfl := Option.some.inj h2
      rw [addr_add]
      exact h3 j u hu
end
theorem box_ne {w : World} {b B : Nat} {cs : Array Value} {f : Nat × Nat} {v : Value} {n : Nat} {xs : List Value} (hb : w.heap[b]? = some (.cells cs 47 f)) (h : w.ownsRow B 3 1 v n xs) : v.ownBlock ≠ some b := fun e => by
  obtain ⟨c2, h2⟩ := own_blk h e
  rw [hb] at h2
  injection h2 with h2
  injection h2 with _ h3 _
  exact absurd h3 (by decide)
theorem own_some {w : World} {base : Nat} {e : TypeId} {size : Nat} {v : Value} {n : Nat} {xs : List Value} (h : w.ownsRow base e size v n xs) (hn : v ≠ .slice none 0 0) : ∃ g c, v = .slice (some ⟨g, 0, none⟩) n c := by
  rcases h.2 with ⟨h0, -⟩ | ⟨g, cap, cur, h0, -⟩
  · exact absurd h0 hn
  · exact ⟨g, cap, h0⟩
/-- between two rounds of ListPlays -/
def PX (w : World) (hb lb gb mb : Nat) (i : Nat) (xs : List Int) (v : Value) (W : World) : Prop := ∃ (m : HM) (r : Rw) (G : Gd), r.blk = lb ∧ G.blk = gb ∧ LG w W hb m r G (fun b => b = mb ∨ v.ownBlock = some b) ∧ W.heap[mb]? = some (.cells #[v] 47 (0, 0)) ∧ W.ownsRow w.heap.size 3 1 v xs.length (intsV xs) ∧ LstR m r xs ∧ GI m 1 r.ps xs.length G i
def PR (w : World) (hb lb gb mb n : Nat) (i : Nat) (W : World) : Prop := ∃ (v : Value) (m : HM) (r : Rw) (G : Gd) (xs : List Int), r.blk = lb ∧ G.blk = gb ∧ LG w W hb m r G (fun b => b = mb ∨ v.ownBlock = some b) ∧ W.heap[mb]? = some (.cells #[v] 47 (0, 0)) ∧ W.ownsRow w.heap.size 3 1 v xs.length (intsV xs) ∧ LstR m r xs ∧ GI m 1 r.ps xs.length G i ∧ i ≤ n
theorem act_cells {wr w9 : World} {op a b : Int} (q : Q (wr.alloc (.cells #[.int .i64 op, .int .i64 a, .int .i64 b] 53)) w9) : w9.cell? ⟨wr.heap.size, 0, none⟩ = some (.int .i64 op) ∧ w9.cell? ⟨wr.heap.size, 1, none⟩ = some (.int .i64 a) ∧ w9.cell? ⟨wr.heap.size, 2, none⟩ = some (.int .i64 b) ∧ wr.heap.size < w9.heap.size := by
  have h0 := heap_alloc_new wr (.cells #[.int .i64 op, .int .i64 a, .int .i64 b] 53)
  have h1 : w9.heap[wr.heap.size]? = some (.cells #[.int .i64 op, .int .i64 a, .int .i64 b] 53 (0, 0)) := (q.below.block _ (blk_lt h0)).trans h0
  refine ⟨?_, ?_, ?_, blk_lt h1⟩
  all_goals (rw [cell_of_row _ _ _ _ _ _ h1]; rfl)
theorem AS.make {w wr wa w3 : World} {hb lb gb mb : Nat} {v v3 : Value} {m : HM} {r : Rw} {G : Gd} {op A B : Int} {xs : List Int} (hr : r.blk = lb) (hg : G.blk = gb) (X : LG w wr hb m r G (fun b => b = mb ∨ v.ownBlock = some b)) (hm : wr.heap[mb]? = some (.cells #[v] 47 (0, 0))) (hv : wr.ownsRow w.heap.size 3 1 v xs.length (intsV xs))
    (hwa : wa = wr.alloc (.cells #[.int .i64 op, .int .i64 A, .int .i64 B] 53)) (hq : Q wa w3) (ho : w3.ownsRow wa.heap.size 3 1 v3 xs.length (intsV xs)) : AS w (w3.alloc (.cells #[v3] 47)) hb lb gb mb wr.heap.size w3.heap.size v v3 m r G op A B xs xs := by
  have hs1 : wa.heap.size = wr.heap.size + 1 := by rw [hwa]; simp
  have q1 : Q wr wa := by rw [hwa]; exact (Q.refl _).alloc _
  have hs2 := hq.size
  have q3 : Q w3 (w3.alloc (.cells #[v3] 47)) := (Q.refl _).alloc _
  have hs3 : (w3.alloc (.cells #[v3] 47)).heap.size = w3.heap.size + 1 := by simp
  have q4 := (q1.trans hq).trans q3
  have hml := blk_lt hm
  have hsz := X.q.size
  refine ⟨hr, hg, X.turn (T := fun _ => False) (.of_q q4) (fun b e => e.elim) fun b e => ?_, (q4.below.block _ hml).trans hm, own_q hv q4, ?_, heap_alloc_new _ _, own_low (own_q ho q3) (by omega), ⟨by omega, by omega, fun e => ?_⟩⟩
  · rcases e with e | e | e | e | e
    · exact .inl (.inl e)
    · exact .inr (by omega)
    · exact .inr (by omega)
    · exact .inl (.inr e)
    · have := ho.lt b e
      exact .inr (by omega)
  · have h0 : wa.heap[wr.heap.size]? = some (.cells #[.int .i64 op, .int .i64 A, .int .i64 B] 53 (0, 0)) := by rw [hwa]; exact heap_alloc_new _ _
    exact ((hq.trans q3).below.block _ (blk_lt h0)).trans h0
  · have := (hv.lt _ e).2
    omega
/-- the model takes the next one's row -/
theorem AS.take {w W : World} {hb lb gb mb ab nb k : Nat} {v v3 : Value} {m : HM} {r : Rw} {G : Gd} {op A B : Int} {xs ys : List Int} (X : AS w W hb lb gb mb ab nb v v3 m r G op A B xs ys) (S : LstR m r ys) (g : GI m 1 r.ps ys.length G k) : PX w hb lb gb mb k ys v3 (W.setCell ⟨mb, 0, none⟩ v3) := by
  have hl := blk_lt X.mbox
  have hn := box_ne X.mbox X.nown
  have t : Turn (fun b => b = mb) W (W.setCell ⟨mb, 0, none⟩ v3) := (Turn.refl (fun b => b = mb) W).set (p := ⟨mb, 0, none⟩) rfl v3
  refine ⟨m, r, G, X.rb, X.gk, X.lg.turn t (fun b e => .inl e) (fun b e => .inl (e.elim .inl fun e => .inr (.inr (.inr (.inr e))))), ?_, own_same X.nown fun b e => heap_setCell_other _ _ _ _ fun e2 => hn (by rw [e]; exact congrArg some e2), S, g⟩
  have := heap_setCell_same W mb 0 _ _ v3 X.mbox
  rw [this]
  rfl
theorem AS.leave {w W : World} {hb lb gb mb ab nb k : Nat} {v v3 : Value} {m : HM} {r : Rw} {G : Gd} {op A B : Int} {xs ys : List Int} (X : AS w W hb lb gb mb ab nb v v3 m r G op A B xs ys) (S : LstR m r xs) (g : GI m 1 r.ps xs.length G k) : PX w hb lb gb mb k xs v W :=
  ⟨m, r, G, X.rb, X.gk, X.lg.turn (T := fun _ => False) (.of_q (Q.refl _)) (fun b e => e.elim) (fun b e => .inl (e.elim .inl fun e => .inr (.inr (.inr (.inl e))))), X.mbox, X.vown, S, g⟩
theorem PX.pr {w W : World} {hb lb gb mb i n : Nat} {xs : List Int} {v : Value} (X : PX w hb lb gb mb i xs v W) (hk : i ≤ n) : PR w hb lb gb mb n i W := by
  obtain ⟨m, r, G, a1, a2, a3, a4, a5, a6, a7⟩ := X
  exact ⟨v, m, r, G, xs, a1, a2, a3, a4, a5, a6, a7, hk⟩
theorem PX.q {w W W' : World} {hb lb gb mb i : Nat} {xs : List Int} {v : Value} (X : PX w hb lb gb mb i xs v W) (hq : Q W W') : PX w hb lb gb mb i xs v W' := by
  obtain ⟨m, r, G, a1, a2, a3, a4, a5, a6, a7⟩ := X
  exact ⟨m, r, G, a1, a2, a3.q' hq, (hq.below.block _ (blk_lt a4)).trans a4, own_q a5 hq, a6, a7⟩
theorem PX.k {w W : World} {hb lb gb mb i : Nat} {xs : List Int} {v : Value} (X : PX w hb lb gb mb i xs v W) : W.cell? ⟨mb, 0, none⟩ = some v := by
  obtain ⟨m, r, G, a1, a2, a3, a4, a5, a6, a7⟩ := X
  rw [cell_of_row _ _ _ _ _ _ a4]
  rfl
theorem PX.sl {w W : World} {hb lb gb mb i c : Nat} {xs : List Int} {A : Option Addr} (X : PX w hb lb gb mb i xs (.slice A xs.length c) W) : Sl 1 (encI .i64) W A xs.length c xs := by
  obtain ⟨m, r, G, a1, a2, a3, a4, a5, a6, a7⟩ := X
  exact own_sl rfl a5
theorem PX.len {w W : World} {hb lb gb mb i : Nat} {xs : List Int} {v : Value} (X : PX w hb lb gb mb i xs v W) : xs.length ≤ 64 := by
  obtain ⟨m, r, G, a1, a2, a3, a4, a5, a6, a7⟩ := X
  exact a6.fit64
theorem px_all {w W : World} {hb lb gb mb i : Nat} {xs : List Int} {v : Value} (X : PX w hb lb gb mb i xs v W) : Calls Tryz.prog 52 #[.pointer (some ⟨lb, 0, none⟩)] W fun e W' => ∃ u, e = .returned u ∧ PX w hb lb gb mb i xs v W' ∧ ∃ A c, u = .slice A xs.length c ∧ Sl 1 (encI .i64) W' A xs.length c xs := by
  obtain ⟨m, r, G, rfl, a2, a3, a4, a5, a6, a7⟩ := X
  refine (a3.list (P := fun e W' m2 r2 => ∃ u, e = .returned u ∧ m2 = m ∧ r2 = r ∧ W'.ownsRow W.heap.size 3 1 u xs.length (intsV xs)) fun h L e1 e2 _ => ?_).mono ?_
  · refine (allL_any L (xs := xs) (by rw [e1]; exact a6)).mono ?_
    rintro e W' ⟨m2, r2, hX, rfl, rfl, u, he, ho, -⟩
    exact ⟨_, _, hX, u, he, e1, rfl, ho⟩
  · rintro e W' ⟨m2, r2, ⟨hl, hb, hs⟩, u, he, rfl, rfl, ho⟩
    obtain ⟨A, c, eu, -⟩ := own_form ho
    subst eu
    exact ⟨_, he, ⟨_, _, G, rfl, a2, hl, (hs _ (.inl rfl)).trans a4, own_same a5 fun g hg => hs g (.inr hg), a6, a7⟩, A, c, rfl, own_sl rfl ho⟩
theorem px_kept {w W : World} {hb lb gb mb i : Nat} {xs : List Int} {v : Value} (X : PX w hb lb gb mb i xs v W) : Calls Tryz.prog 45 #[.pointer (some ⟨gb, 0, none⟩)] W fun e W' => e = .returned (.bool true) ∧ PX w hb lb gb mb i xs v W' := by
  obtain ⟨m, r, G, a1, rfl, a3, a4, a5, a6, a7⟩ := X
  refine (a3.grd (P := fun e => e = .returned (.bool true)) (G2 := G) rfl fun h' R' e1 => kept_gi R' (by rw [e1]; exact a7)).mono ?_
  rintro e W' ⟨he, hl, -, hs⟩
  exact ⟨he, m, r, G, a1, rfl, hl, (hs _ (.inl rfl)).trans a4, own_same a5 fun g hg => hs g (.inr hg), a6, a7⟩
theorem as_next {w W : World} {hb lb gb mb ab nb k : Nat} {v v3 : Value} {m : HM} {r : Rw} {G G2 : Gd} {op A B got want : Int} {lg : Bool} {xs ys xs2 : List Int} (X : AS w W hb lb gb mb ab nb v v3 m r G op A B xs ys) (O : ActO m r G G2 k xs ys xs2 got want lg) :
    Calls Tryz.prog 39 #[.pointer (some ⟨gb, 0, none⟩), .int .i64 got, .int .i64 want, .bool lg, .int .i64 (ys.length : Int)] W fun e W' => e = .returned (.bool true) ∧ AS w W' hb lb gb mb ab nb v v3 m r G2 op A B xs ys := by
  refine X.grd (P := fun e => e = .returned (.bool true)) O.1.keep.2.1 fun h R e1 => ?_
  have := next_any R (got := got) (want := want) (lg := lg) (n := (ys.length : Int)) (G2 := G2) (by rw [e1]; exact O.2.1.inv) (by rw [e1]; exact O.1)
  rw [X.gk] at this
  have e := R.box
  simpa [X.gk] using this
/-- behind the acts of a round -/
def CutP (w : World) (hb lb gb mb ab nb : Nat) (op a1 b1 : Int) (k : Nat) (t13 t14 t15 t16 t17 : Value) (W : World) : Prop :=
  ∃ (v v3 : Value) (m : HM) (r : Rw) (G G2 : Gd) (xs ys xs2 : List Int) (got want x : Int) (lg : Bool), t13 = .bool lg ∧ t14 = .int .i64 got ∧ t15 = .int .i64 want ∧ t16 = .int .i64 x ∧ t17 = .int .i64 x ∧ AS w W hb lb gb mb ab nb v v3 m r G op a1 b1 xs ys ∧ ActO m r G G2 k xs ys xs2 got want lg
/-- the list is closed, nothing is left -/
def PC (w : World) (hb lb gb : Nat) (W : World) : Prop := ∃ (m : HM) (r : Rw) (G : Gd), r.blk = lb ∧ G.blk = gb ∧ LG w W hb m r G (fun _ => False) ∧ Inv m ∧ rest m [] = G.others ∧ r.closed = true
theorem pr_close {w W : World} {hb lb gb mb n i : Nat} (X : PR w hb lb gb mb n i W) : Calls Tryz.prog 31 #[.pointer (some ⟨lb, 0, none⟩)] W fun e W' => e = .returned (.int .i64 0) ∧ PC w hb lb gb W' := by
  obtain ⟨v, m, r, G, xs, rfl, rfl, X, -, -, S, g, -⟩ := X
  refine (X.list (P := fun e W' m2 r2 => e = .returned (.int .i64 0) ∧ Clsd m m2 r.ps ∧ r2.closed = true) fun h L e1 e2 _ => ?_).mono ?_
  · refine (closeL_any L (xs := xs) (by rw [e1]; exact S)).mono ?_
    rintro e W' ⟨m2, r2, hX, he, hC, -, -, hcl, -⟩
    rw [e1] at hC
    exact ⟨m2, r2, hX, he, hC, hcl⟩
  · rintro e W' ⟨m2, r2, ⟨hl, hb, hs⟩, he, hC, hcl⟩
    exact ⟨he, m2, r2, G, hb, rfl, hl.turn (T := fun _ => False) (.of_q (Q.refl _)) (fun b e => e.elim) (fun b e => e.elim), hC.inv, hC.fr.rest.trans g.rest, hcl⟩
theorem pc_left {w W : World} {hb lb gb : Nat} (X : PC w hb lb gb W) : Calls Tryz.prog 40 #[.pointer (some ⟨gb, 0, none⟩)] W fun e W' => e = .returned (.bool true) ∧ PC w hb lb gb W' := by
  obtain ⟨m, r, G, rfl, rfl, X, I, hr, hc⟩ := X
  refine (X.grd (P := fun e => e = .returned (.bool true)) (G2 := G) rfl fun h' R' e1 => left_gi R' (by rw [e1]; exact I) (by rw [e1]; exact hr)).mono ?_
  rintro e W' ⟨he, hl, -⟩
  exact ⟨he, m, r, G, rfl, rfl, hl, I, hr, hc⟩
theorem pc_closed {w W : World} {hb lb gb : Nat} (X : PC w hb lb gb W) : Calls Tryz.prog 51 #[.pointer (some ⟨lb, 0, none⟩)] W fun e W' => e = .returned (.bool true) ∧ Q w W' := by
  obtain ⟨m, r, G, rfl, rfl, X, I, hr, hc⟩ := X
  obtain ⟨h, L, -⟩ := X.ex
  refine (listClosed_any (deadL_closed L hc)).mono ?_
  rintro e W' ⟨he, hq⟩
  exact ⟨he, X.q.trans hq⟩
theorem PR.toQ {w W : World} {hb lb gb mb n i : Nat} (X : PR w hb lb gb mb n i W) : Q w W := by
  obtain ⟨v, m, r, G, xs, -, -, X, -⟩ := X
  exact X.q
end Go.Proofs.YtdaklffbfadghaaGreat
