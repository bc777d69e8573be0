/- The ground of a law: how it lies; left, next, kept. The ground of a law: next. The ground of a law: left. The ground of a law: kept. Conditions: as each theorem says. -/
import Derived.Test.YtdaklffbfadghaaGreatLsU14
import Derived.Test.YtdaklffbfadghaaGreatMt
import Derived.Test.YtdaklffbfadghaaGreatLsU13
namespace Go.Proofs.YtdaklffbfadghaaGreat
open Go.RowKit HP
set_option linter.unusedVariables false
set_option linter.unusedSimpArgs false
/-- what the ground knows -/
structure Gd where
  blk : Nat
  A : Option Addr
  c : Nat
  others : List (Int × Int)
  used : Int
  sure : Bool
  calls : Int
  most : Int
def Gd.cells (G : Gd) (h : Hp) : Array Value := #[h.ptr, .slice G.A G.others.length G.c, .int .i64 G.used, .bool G.sure, .int .i64 G.calls, .int .i64 G.most]
def Gd.ptr (G : Gd) : Value := .pointer (some ⟨G.blk, 0, none⟩)
/-- a heap, and a ground beside it -/
structure GR (W : World) (h : Hp) (G : Gd) : Prop where
  heap : HpR W h
  mu : h.mu = 0
  box : W.heap[G.blk]? = some (.cells (G.cells h) 74 (0, 0))
  oth : Sl 2 encP W G.A G.others.length G.c G.others
  ap : ¬ h.fp G.blk
  apo : ∀ b o, G.A = some ⟨b, o, none⟩ → b < W.heap.size ∧ ¬ h.fp b ∧ b ≠ G.blk
  few : G.others.length ≤ 64
section
variable {w W W2 : World} {h h1 : Hp} {G : Gd}
theorem GR.q (R : GR W h G) (hq : Q W W2) : GR W2 h G := ⟨R.heap.q hq, R.mu, (hq.below.block _ (blk_lt R.box)).trans R.box, R.oth.up hq, R.ap, fun b o e => ⟨Nat.lt_of_lt_of_le (R.apo b o e).1 hq.size, (R.apo b o e).2⟩, R.few⟩
theorem Sl.same {α : Type} {k : Nat} {enc : α → List Value} {w w' : World} {A : Option Addr} {n c : Nat} {xs : List α} (h : Sl k enc w A n c xs) (hs : w.heap.size ≤ w'.heap.size) (ha : ∀ b o, A = some ⟨b, o, none⟩ → b < w.heap.size → w'.heap[b]? = w.heap[b]?) : Sl k enc w' A n c xs := by
  refine ⟨?_, h.len, h.cap, h.most⟩
  rcases h.rd with e | ⟨g, o, e1, e2, e3⟩
  · exact .inl e
  · refine .inr ⟨g, o, e1, Nat.lt_of_lt_of_le e2 hs, fun j u hu => ?_⟩
    have := e3 j u hu
    unfold World.cell? at this ⊢
    dsimp only at this ⊢
    rw [ha g o e1 e2]
    exact this
/-- a call that leaves the heap as it is has acted on it -/
theorem GR.did (R : GR W h G) {h2 : Hp} (D : Did W h W2 h2) (hmu : h2.mu = 0) : GR W2 h2 G := by
  have hb : ∀ b, b < W.heap.size → ¬ h.fp b → W2.heap[b]? = W.heap[b]? ∧ ¬ h2.fp b := fun b hb hn => ⟨D.turn.block b hb hn, fun e => (D.fp b e).elim hn (by omega)⟩
  have hbl := blk_lt R.box
  refine ⟨D.rep, hmu, ?_, R.oth.same D.turn.size fun b o e hlt => (hb b hlt (R.apo b o e).2.1).1, (hb _ hbl R.ap).2, fun b o e => ?_, R.few⟩
  · rw [(hb _ hbl R.ap).1, R.box]
    unfold Gd.cells Hp.ptr
    rw [D.blk]
  · obtain ⟨a1, a2, a3⟩ := R.apo b o e
    exact ⟨Nat.lt_of_lt_of_le a1 D.turn.size, (hb b a1 a2).2, a3⟩
theorem GR.k (R : GR W h G) : W.cell? ⟨G.blk, 0, none⟩ = some h.ptr ∧ W.cell? ⟨G.blk, 1, none⟩ = some (.slice G.A G.others.length G.c) ∧ W.cell? ⟨G.blk, 2, none⟩ = some (.int .i64 G.used) ∧ W.cell? ⟨G.blk, 3, none⟩ = some (.bool G.sure) ∧ W.cell? ⟨G.blk, 4, none⟩ = some (.int .i64 G.calls) ∧ W.cell? ⟨G.blk, 5, none⟩ = some (.int .i64 G.most) ∧ G.blk < W.heap.size ∧ W.frozen? ⟨G.blk, 4, none⟩ = false ∧ W.frozen? ⟨G.blk, 5, none⟩ = false := by
  refine ⟨?_, ?_, ?_, ?_, ?_, ?_, blk_lt R.box, frozen_of_row _ _ _ _ _ R.box, frozen_of_row _ _ _ _ _ R.box⟩
  all_goals (rw [cell_of_row _ _ _ _ _ _ R.box]; rfl)
/-- what the ground's own numbers become -/
theorem GR.set4 (R : GR W h G) (v : Int) : GR (W.setCell ⟨G.blk, 4, none⟩ (.int .i64 v)) h { G with calls := v } := by
  have keep : ∀ b, b ≠ G.blk → (W.setCell ⟨G.blk, 4, none⟩ (.int .i64 v)).heap[b]? = W.heap[b]? := fun b hb => heap_setCell_other _ _ _ _ hb
  refine ⟨R.heap.same fun b hf => keep b fun e => R.ap (e ▸ hf), R.mu, ?_, R.oth.same (by simp [World.setCell]) fun b o e _ => keep b (R.apo b o e).2.2, R.ap, fun b o e => ⟨by have := (R.apo b o e).1; simpa [World.setCell] using this, (R.apo b o e).2⟩, R.few⟩
  have := heap_setCell_same W G.blk 4 _ _ (.int .i64 v) R.box
  rw [show ({ G with calls := v } : Gd).blk = G.blk from rfl, this]
  rfl
theorem GR.set5 (R : GR W h G) (v : Int) : GR (W.setCell ⟨G.blk, 5, none⟩ (.int .i64 v)) h { G with most := v } := by
  have keep : ∀ b, b ≠ G.blk → (W.setCell ⟨G.blk, 5, none⟩ (.int .i64 v)).heap[b]? = W.heap[b]? := fun b hb => heap_setCell_other _ _ _ _ hb
  refine ⟨R.heap.same fun b hf => keep b fun e => R.ap (e ▸ hf), R.mu, ?_, R.oth.same (by simp [World.setCell]) fun b o e _ => keep b (R.apo b o e).2.2, R.ap, fun b o e => ⟨by have := (R.apo b o e).1; simpa [World.setCell] using this, (R.apo b o e).2⟩, R.few⟩
  have := heap_setCell_same W G.blk 5 _ _ (.int .i64 v) R.box
  rw [show ({ G with most := v } : Gd).blk = G.blk from rfl, this]
  rfl
/-- a state of calls on a ground: of the world w, in which the heap was h, the heap is as it was, the ground is G1; nothing has turned but both -/
structure GS (w : World) (h : Hp) (gb : Nat) (W : World) (h1 : Hp) (G1 : Gd) : Prop where
  gr : GR W h1 G1
  m : h1.m = h.m
  hb : h1.blk = h.blk
  bk : G1.blk = gb
  turn : Turn (fun b => h.fp b ∨ b = gb) w W
  hf : ∀ b, h1.fp b → h.fp b ∨ w.heap.size ≤ b
theorem GS.start (R : GR w h G) : GS w h G.blk w h G := ⟨R, rfl, rfl, rfl, .refl _ _, fun b e => .inl e⟩
theorem GS.q {gb : Nat} {G1 : Gd} (X : GS w h gb W h1 G1) (hq : Q W W2) : GS w h gb W2 h1 G1 := ⟨X.gr.q hq, X.m, X.hb, X.bk, X.turn.q hq, X.hf⟩
theorem GS.act {gb : Nat} {G1 : Gd} (X : GS w h gb W h1 G1) {h2 : Hp} (D : Did W h1 W2 h2) (hmu : h2.mu = 0) (hm : h2.m = h1.m) : GS w h gb W2 h2 G1 :=
  ⟨X.gr.did D hmu, hm.trans X.m, D.blk.trans X.hb, X.bk, X.turn.trans D.turn fun i hi e => by
    rcases X.hf i e with e | e
    · exact .inl e
    · omega, fun b e => by
    rcases D.fp b e with e | e
    · exact X.hf b e
    · exact .inr (Nat.le_trans X.turn.size e)⟩
theorem GS.set4 {gb : Nat} {G1 : Gd} (X : GS w h gb W h1 G1) (v : Int) : GS w h gb (W.setCell ⟨gb, 4, none⟩ (.int .i64 v)) h1 { G1 with calls := v } := by
  have := X.bk
  subst this
  exact ⟨X.gr.set4 v, X.m, X.hb, rfl, X.turn.set (.inr rfl) _, X.hf⟩
theorem GS.set5 {gb : Nat} {G1 : Gd} (X : GS w h gb W h1 G1) (v : Int) : GS w h gb (W.setCell ⟨gb, 5, none⟩ (.int .i64 v)) h1 { G1 with most := v } := by
  have := X.bk
  subst this
  exact ⟨X.gr.set5 v, X.m, X.hb, rfl, X.turn.set (.inr rfl) _, X.hf⟩
theorem GS.k {gb : Nat} {G1 : Gd} (X : GS w h gb W h1 G1) : W.cell? ⟨gb, 0, none⟩ = some h.ptr ∧ W.cell? ⟨gb, 1, none⟩ = some (.slice G1.A G1.others.length G1.c) ∧ W.cell? ⟨gb, 2, none⟩ = some (.int .i64 G1.used) ∧ W.cell? ⟨gb, 3, none⟩ = some (.bool G1.sure) ∧ W.cell? ⟨gb, 4, none⟩ = some (.int .i64 G1.calls) ∧ W.cell? ⟨gb, 5, none⟩ = some (.int .i64 G1.most) ∧ gb < W.heap.size ∧ W.frozen? ⟨gb, 4, none⟩ = false ∧ W.frozen? ⟨gb, 5, none⟩ = false := by
  have := X.gr.k
  rw [X.bk] at this
  have hp : h1.ptr = h.ptr := by unfold Hp.ptr; rw [X.hb]
  rw [hp] at this
  exact this
theorem gs_calls {gb : Nat} {G1 : Gd} (X : GS w h gb W h1 G1) (I : Inv h.m) : Calls Tryz.prog 88 #[h.ptr] W fun e W' => e = .returned (.int .i64 h.m.calls) ∧ ∃ h2, GS w h gb W' h2 G1 := by
  have hp : h1.ptr = h.ptr := by unfold Hp.ptr; rw [X.hb]
  rw [← hp]
  refine (calls_act h1 W X.gr.heap (by rw [X.m]; exact I) X.gr.mu).mono ?_
  rintro e W' ⟨h2, he, D, hmu, hm⟩
  rw [X.m] at he
  exact ⟨he, h2, X.act D hmu hm⟩
theorem gs_used {gb : Nat} {G1 : Gd} (X : GS w h gb W h1 G1) (I : Inv h.m) : Calls Tryz.prog 10 #[h.ptr] W fun e W' => e = .returned (.int .i64 (used h.m.live)) ∧ ∃ h2, GS w h gb W' h2 G1 := by
  have hp : h1.ptr = h.ptr := by unfold Hp.ptr; rw [X.hb]
  rw [← hp]
  refine (used_act h1 W X.gr.heap (by rw [X.m]; exact I) X.gr.mu).mono ?_
  rintro e W' ⟨h2, he, D, hmu, hm⟩
  have : used h1.m.live = used h.m.live := by rw [X.m]
  rw [this] at he
  exact ⟨he, h2, X.act D hmu hm⟩
/-- rows of pairs are none of the heap's -/
theorem fp_pair (H : HpR W h1) {b : Nat} {cs : Array Value} {k : Nat × Nat} (hc : W.heap[b]? = some (.cells cs 64 k)) : ¬ h1.fp b := by
  intro hf
  rcases hf with hb | hb | ⟨x, hx, hb⟩ | ⟨hk, hb⟩
  · subst hb
    exact ty_ne hc H.cells (by decide) rfl
  · obtain ⟨cs', e'⟩ := own_blk H.live hb
    exact ty_ne hc e' (by decide) rfl
  · subst hb
    obtain ⟨cs', e'⟩ := own_blk (H.rows x hx) x.own
    exact ty_ne hc e' (by decide) rfl
  · subst hb
    rcases hk with hk | hk
    · exact ty_ne hc (H.w1 hk) (by decide) rfl
    · exact ty_ne hc (H.w2 hk) (by decide) rfl
/-- what a region of calls on the ground may turn -/
def GT (w : World) (h : Hp) (gb : Nat) (G1 : Gd) (W W2 : World) : Prop := W.heap.size ≤ W2.heap.size ∧ (∀ (b : Nat) (cs : Array Value) (k : Nat × Nat), W.heap[b]? = some (.cells cs 64 k) → W2.heap[b]? = W.heap[b]?) ∧ ((∃ h1, GS w h gb W h1 G1) → ∃ h2, GS w h gb W2 h2 G1)
theorem GT.refl {gb : Nat} {G1 : Gd} : GT w h gb G1 W W := ⟨Nat.le_refl _, fun _ _ _ _ => rfl, fun x => x⟩
theorem GT.trans {gb : Nat} {G1 : Gd} {W3 : World} (t : GT w h gb G1 W W2) (t2 : GT w h gb G1 W2 W3) : GT w h gb G1 W W3 :=
  ⟨Nat.le_trans t.1 t2.1, fun b cs k e => (t2.2.1 b cs k ((t.2.1 b cs k e).trans e)).trans (t.2.1 b cs k e), fun x => t2.2.2 (t.2.2 x)⟩
theorem GT.of_q {gb : Nat} {G1 : Gd} (hq : Q W W2) : GT w h gb G1 W W2 := ⟨hq.size, fun b cs k e => hq.below.block b (blk_lt e), fun ⟨h1, X⟩ => ⟨h1, X.q hq⟩⟩
def LvP (n : Nat) (L : List (Int × Int)) (v : Value) (W : World) : Prop := ∃ A c, v = .slice A n c ∧ Sl 2 encP W A n c L ∧ ∀ (b o : Nat), A = some ⟨b, o, none⟩ → ∃ (cs : Array Value) (k : Nat × Nat), W.heap[b]? = some (.cells cs 64 k)
theorem LvP.t {gb : Nat} {G1 : Gd} {n : Nat} {L : List (Int × Int)} {v : Value} (x : LvP n L v W) (t : GT w h gb G1 W W2) : LvP n L v W2 := by
  obtain ⟨A, c, e, hS, hc⟩ := x
  refine ⟨A, c, e, hS.same t.1 fun b o ea _ => ?_, fun b o ea => ?_⟩
  · obtain ⟨cs, k, e2⟩ := hc b o ea
    exact t.2.1 b cs k e2
  · obtain ⟨cs, k, e2⟩ := hc b o ea
    exact ⟨cs, k, (t.2.1 b cs k e2).trans e2⟩
theorem gs_live {gb : Nat} {G1 : Gd} (X : GS w h gb W h1 G1) (I : Inv h.m) : Calls Tryz.prog 12 #[h.ptr] W fun e W' => ∃ v, e = .returned v ∧ GT w h gb G1 W W' ∧ LvP (stretches h.m).length (stretches h.m) v W' := by
  have hp : h1.ptr = h.ptr := by unfold Hp.ptr; rw [X.hb]
  rw [← hp]
  refine (live_act h1 W X.gr.heap (by rw [X.m]; exact I) X.gr.mu).mono ?_
  rintro e W' ⟨v, h2, he, ho, D, hmu, hm⟩
  have hl : (stretches h1.m).length = h1.bks.length := by unfold stretches Hp.m; simp
  rw [← hl] at ho
  rw [X.m] at ho
  obtain ⟨A, c, ev, hS⟩ := str_sl ho
  subst ev
  refine ⟨_, he, ⟨D.turn.size, fun b cs k e => D.turn.block b (blk_lt e) (fp_pair X.gr.heap e), fun _ => ⟨h2, X.act D hmu hm⟩⟩, A, c, rfl, hS, fun b o ea => ?_⟩
  subst ea
  have hob : Value.ownBlock (.slice (some ⟨b, o, none⟩) (stretches h.m).length c) = some b := rfl
  obtain ⟨cs, hc⟩ := own_blk ho hob
  exact ⟨cs, _, hc⟩
end
end Go.Proofs.YtdaklffbfadghaaGreat

namespace Go.Proofs.YtdaklffbfadghaaGreat
open Go.RowKit HP
set_option linter.unusedVariables false
set_option linter.unusedSimpArgs false
section
variable {w : World} {h : Hp} {G : Gd}
set_option maxHeartbeats 4000000 in
set_option maxRecDepth 100000 in
/-- a call that makes nothing longer, or is refused -/
theorem next_quiet (R : GR w h G) (I : Inv h.m) (hc : G.calls = h.m.calls) (er : Int) (lg : Bool) (n : Int) (hl : lg = true → (er != 0) = true) :
    Calls Tryz.prog 39 #[.pointer (some ⟨G.blk, 0, none⟩), .int .i64 er, .int .i64 er, .bool lg, .int .i64 n] w fun e w' => e = .returned (.bool true) ∧ ∃ h2, GS w h G.blk w' h2 G := by
  have HC : Hid (∀ W h1 G1, GS w h G.blk W h1 G1 → Calls Tryz.prog 88 #[h.ptr] W fun e W' => e = .returned (.int .i64 G.calls) ∧ ∃ h2, GS w h G.blk W' h2 G1) := fun W h1 G1 X => by rw [hc]; exact gs_calls X I
  have HX0 := hide (GS.start R)
  obtain ⟨k0, -, -, -, -, -, hbl, -, -⟩ := R.k
  have HK : Hid (∀ W h1, GS w h G.blk W h1 G → W.cell? ⟨G.blk, 4, none⟩ = some (.int .i64 G.calls) ∧ W.frozen? ⟨G.blk, 4, none⟩ = false ∧ G.blk < W.heap.size) := fun W h1 X => ⟨X.k.2.2.2.2.1, X.k.2.2.2.2.2.2.2.1, X.k.2.2.2.2.2.2.1⟩
  have HS4 : Hid (∀ W h1, GS w h G.blk W h1 G → ∃ h2, GS w h G.blk (W.setCell ⟨G.blk, 4, none⟩ (.int .i64 G.calls)) h2 G) := fun W h1 X => ⟨h1, by simpa using X.set4 G.calls⟩
  have HL := hide hl
  clear R hl
  obtain ⟨b, eb⟩ : ∃ b, b = G.blk := ⟨_, rfl⟩
  obtain ⟨cl, ecl⟩ : ∃ cl, cl = G.calls := ⟨_, rfl⟩
  rw [← eb] at k0 hbl HK HS4 HC HX0 ⊢
  rw [← ecl] at HK HS4 HC
  clear eb ecl hc
  have dc : (cl == cl) = true := by simp
  have de : (er == er) = true := by simp
  unfold Hp.ptr at k0 HC
  go_enter Tryz.func39, Tryz.ntmps39
  go_wp2_with fail
  cases lg with
  | false =>
    go_wp2_with (go_at_call 88; refine (HC.out _ _ _ HX0.out).mono ?_; rintro e w1 ⟨rfl, h2, hX⟩; obtain ⟨c4, z4, hb1⟩ := HK.out _ _ hX; have HX := hide hX; clear hX k0)
    go_ret
    exact ⟨rfl, HS4.out _ _ HX.out⟩
  | true =>
    have ne := HL.out rfl
    go_wp2_with (go_at_call 88; refine (HC.out _ _ _ HX0.out).mono ?_; rintro e w1 ⟨rfl, h2, hX⟩; obtain ⟨c4, z4, hb1⟩ := HK.out _ _ hX; have HX := hide hX; clear hX k0)
    go_ret
    exact ⟨rfl, HS4.out _ _ HX.out⟩
set_option maxHeartbeats 4000000 in
set_option maxRecDepth 100000 in
/-- a call that makes something longer is done -/
theorem next_ok (R : GR w h G) (I : Inv h.m) (er : Int) (e0 : er = 0) (n : Int) (g1 : Gd) (hg1 : g1 = { G with calls := (h.m.calls : Int), most := max G.most n }) :
    Calls Tryz.prog 39 #[.pointer (some ⟨G.blk, 0, none⟩), .int .i64 er, .int .i64 er, .bool true, .int .i64 n] w fun e w' => e = .returned (.bool true) ∧ ∃ h2, GS w h G.blk w' h2 g1 := by
  have HC : Hid (∀ W h1 G1, GS w h G.blk W h1 G1 → Calls Tryz.prog 88 #[h.ptr] W fun e W' => e = .returned (.int .i64 h.m.calls) ∧ ∃ h2, GS w h G.blk W' h2 G1) := fun W h1 G1 X => gs_calls X I
  have HX0 := hide (GS.start R)
  obtain ⟨k0, -, -, -, -, -, hbl, -, -⟩ := R.k
  have HK : Hid (∀ W h1, GS w h G.blk W h1 G → W.cell? ⟨G.blk, 4, none⟩ = some (.int .i64 G.calls) ∧ W.frozen? ⟨G.blk, 4, none⟩ = false ∧ G.blk < W.heap.size ∧ W.cell? ⟨G.blk, 5, none⟩ = some (.int .i64 G.most) ∧ W.frozen? ⟨G.blk, 5, none⟩ = false) := fun W h1 X => ⟨X.k.2.2.2.2.1, X.k.2.2.2.2.2.2.2.1, X.k.2.2.2.2.2.2.1, X.k.2.2.2.2.2.1, X.k.2.2.2.2.2.2.2.2⟩
  have HS4 : Hid (∀ W h1, GS w h G.blk W h1 G → ∃ h2, GS w h G.blk ((W.setCell ⟨G.blk, 4, none⟩ (.int .i64 h.m.calls)).setCell ⟨G.blk, 5, none⟩ (.int .i64 (max G.most n))) h2 g1) := fun W h1 X => ⟨h1, by rw [hg1]; exact (X.set4 h.m.calls).set5 (max G.most n)⟩
  have n1 : (er != 0) = false := by rw [e0]; rfl
  have n2 : (er == 3) = false := by rw [e0]; rfl
  have n3 : (er == 0) = true := by rw [e0]; rfl
  clear R hg1 e0
  obtain ⟨b, eb⟩ : ∃ b, b = G.blk := ⟨_, rfl⟩
  obtain ⟨c0, ec0⟩ : ∃ c0, c0 = G.calls := ⟨_, rfl⟩
  obtain ⟨ms, ems⟩ : ∃ ms, ms = G.most := ⟨_, rfl⟩
  obtain ⟨cl, ecl⟩ : ∃ cl : Int, cl = h.m.calls := ⟨_, rfl⟩
  rw [← eb] at k0 hbl HK HS4 HC HX0 ⊢
  rw [← ecl] at HS4 HC
  rw [← ems] at HS4 HK
  rw [← ec0] at HK
  clear eb ecl ems ec0
  unfold Hp.ptr at k0 HC
  go_enter Tryz.func39, Tryz.ntmps39
  go_wp2_with fail
  go_wp2_with (go_at_call 88; refine (HC.out _ _ _ HX0.out).mono ?_; rintro e w1 ⟨rfl, h2, hX⟩; obtain ⟨c4, z4, hb1, c5, z5⟩ := HK.out _ _ hX; have HX := hide hX; clear hX k0)
  all_goals
    go_ret
    have h5 := HS4.out _ _ HX.out
    refine ⟨rfl, ?_⟩
    first
      | (rw [show max ms n = ms from by omega] at h5; exact h5)
      | (rw [show max ms n = n from by omega] at h5; exact h5)
set_option maxHeartbeats 4000000 in
set_option maxRecDepth 100000 in
/-- a call that would make something longer is refused for lack of memory -/
theorem next_large (R : GR w h G) (I : Inv h.m) (er we : Int) (e3 : er = 3) (e0 : we = 0) (n : Int) (hs : G.sure = true → 16 < n) :
    Calls Tryz.prog 39 #[.pointer (some ⟨G.blk, 0, none⟩), .int .i64 er, .int .i64 we, .bool true, .int .i64 n] w fun e w' => e = .returned (.bool true) ∧ ∃ h2, GS w h G.blk w' h2 { G with calls := h.m.calls } := by
  have HC : Hid (∀ W h1 G1, GS w h G.blk W h1 G1 → Calls Tryz.prog 88 #[h.ptr] W fun e W' => e = .returned (.int .i64 h.m.calls) ∧ ∃ h2, GS w h G.blk W' h2 G1) := fun W h1 G1 X => gs_calls X I
  have HX0 := hide (GS.start R)
  obtain ⟨k0, -, -, -, -, -, hbl, -, -⟩ := R.k
  have HK : Hid (∀ W h1, GS w h G.blk W h1 G → W.cell? ⟨G.blk, 4, none⟩ = some (.int .i64 G.calls) ∧ W.frozen? ⟨G.blk, 4, none⟩ = false ∧ G.blk < W.heap.size ∧ W.cell? ⟨G.blk, 3, none⟩ = some (.bool G.sure)) := fun W h1 X => ⟨X.k.2.2.2.2.1, X.k.2.2.2.2.2.2.2.1, X.k.2.2.2.2.2.2.1, X.k.2.2.2.1⟩
  have HS4 : Hid (∀ W h1, GS w h G.blk W h1 G → ∃ h2, GS w h G.blk (W.setCell ⟨G.blk, 4, none⟩ (.int .i64 h.m.calls)) h2 { G with calls := (h.m.calls : Int) }) := fun W h1 X => ⟨h1, X.set4 h.m.calls⟩
  have n1 : (we != 0) = false := by rw [e0]; rfl
  have n2 : (er == 3) = true := by rw [e3]; rfl
  have hs' : G.sure = false ∨ (G.sure = true ∧ decide (16 < n) = true) := by
    cases hh : G.sure with
    | false => exact .inl rfl
    | true => exact .inr ⟨rfl, decide_eq_true (hs hh)⟩
  clear R hs e0 e3
  obtain ⟨gg, egg⟩ : ∃ gg : Gd, gg = { G with calls := (h.m.calls : Int) } := ⟨_, rfl⟩
  rw [← egg] at HS4 ⊢
  obtain ⟨b, eb⟩ : ∃ b, b = G.blk := ⟨_, rfl⟩
  obtain ⟨c0, ec0⟩ : ∃ c0, c0 = G.calls := ⟨_, rfl⟩
  obtain ⟨su, esu⟩ : ∃ su, su = G.sure := ⟨_, rfl⟩
  obtain ⟨cl, ecl⟩ : ∃ cl : Int, cl = h.m.calls := ⟨_, rfl⟩
  rw [← eb] at k0 hbl HK HS4 HC HX0 ⊢
  rw [← ecl] at HS4 HC
  rw [← esu] at HK hs'
  rw [← ec0] at HK
  clear eb ecl esu ec0 egg
  unfold Hp.ptr at k0 HC
  go_enter Tryz.func39, Tryz.ntmps39
  go_wp2_with fail
  rcases hs' with rfl | ⟨rfl, hn⟩
  · go_wp2_with (go_at_call 88; refine (HC.out _ _ _ HX0.out).mono ?_; rintro e w1 ⟨rfl, h2, hX⟩; obtain ⟨c4, z4, hb1, c3⟩ := HK.out _ _ hX; have HX := hide hX; clear hX k0)
    go_ret
    exact ⟨rfl, HS4.out _ _ HX.out⟩
  · go_wp2_with (go_at_call 88; refine (HC.out _ _ _ HX0.out).mono ?_; rintro e w1 ⟨rfl, h2, hX⟩; obtain ⟨c4, z4, hb1, c3⟩ := HK.out _ _ hX; have HX := hide hX; clear hX k0)
    go_ret
    exact ⟨rfl, HS4.out _ _ HX.out⟩
end
end Go.Proofs.YtdaklffbfadghaaGreat

namespace Go.Proofs.YtdaklffbfadghaaGreat
open Go.RowKit HP
set_option linter.unusedVariables false
set_option linter.unusedSimpArgs false
section
variable {w : World} {h : Hp} {G : Gd}
set_option maxHeartbeats 4000000 in
set_option maxRecDepth 100000 in
/-- nothing but the others' blocks is left -/
theorem left_any (R : GR w h G) (I : Inv h.m) (hL : stretches h.m = G.others) :
    Calls Tryz.prog 40 #[.pointer (some ⟨G.blk, 0, none⟩)] w fun e w' => e = .returned (.bool true) ∧ ∃ h2, GS w h G.blk w' h2 G := by
  have HX1 := hide (⟨h, GS.start R⟩ : ∃ h1, GS w h G.blk w h1 G)
  have HXD := hide ((⟨h, (GS.start R).q (Q.refl w).drew⟩ : ∃ h1, GS w h G.blk w.drew h1 G))
  have hfew := R.few
  have HLV : Hid (∀ W h1, GS w h G.blk W h1 G → Calls Tryz.prog 12 #[h.ptr] W fun e W' => ∃ v, e = .returned v ∧ GT w h G.blk G W W' ∧ LvP G.others.length G.others v W') := fun W h1 X => by
    rw [← hL]
    exact gs_live X I
  have HK : Hid (∀ W h1, GS w h G.blk W h1 G → W.cell? ⟨G.blk, 0, none⟩ = some h.ptr ∧ W.cell? ⟨G.blk, 1, none⟩ = some (.slice G.A G.others.length G.c)) := fun W h1 X => ⟨X.k.1, X.k.2.1⟩
  have HSM : Hid (∀ W A c h1, GS w h G.blk W h1 G → Sl 2 encP W A G.others.length c G.others → Calls Tryz.prog 16 #[.slice A G.others.length c, .slice G.A G.others.length G.c] W fun e w' => e = .returned (.bool true) ∧ Q W w') := fun W A c h1 X hS => SameStr_same _ _ _ _ _ _ _ hS X.gr.oth (by omega)
  clear R hL
  obtain ⟨b, eb⟩ : ∃ b, b = G.blk := ⟨_, rfl⟩
  obtain ⟨A0, eA⟩ : ∃ A, A = G.A := ⟨_, rfl⟩
  obtain ⟨c0, ec⟩ : ∃ c, c = G.c := ⟨_, rfl⟩
  obtain ⟨n, en⟩ : ∃ n, n = G.others.length := ⟨_, rfl⟩
  obtain ⟨L, eL⟩ : ∃ L, L = G.others := ⟨_, rfl⟩
  rw [← eb, ← en] at HLV HK HSM
  rw [← eA, ← ec] at HK HSM
  rw [← eL] at HLV HSM
  rw [← eb] at HX1 HXD ⊢
  clear eb eA ec en eL hfew
  unfold Hp.ptr at HLV HK
  go_enter Tryz.func40, Tryz.ntmps40
  go_wp2_with fail
  go_wp2_with fail
  refine Ri.madeT (T := (GT w h b G)) (fun _ => GT.refl) (fun _ _ _ h k => GT.trans h k) (Ri.phi [Ri.isV (.pointer (some ⟨b, 0, none⟩)), Ri.isV (.pointer (some ⟨b, 0, none⟩)), Ri.isV (.pointer (some ⟨b, 0, none⟩)), Ri.isV (.pointer (some ⟨h.blk, 0, none⟩)), (LvP n L), Ri.isV (.pointer (some ⟨b, 0, none⟩)), Ri.isV (.pointer (some ⟨b, 0, none⟩)), Ri.isV (.pointer (some ⟨b, 1, none⟩)), Ri.isV (.slice A0 n c0), Ri.isV (.bool true), Ri.isV (.bool true)]) (by kernel_rfl) (by kernel_rfl) (fun i => Ri.phi_monoT ?_ i) ?_ ?_
  · exact ⟨Ri.mono_isT _, Ri.mono_isT _, Ri.mono_isT _, Ri.mono_isT _, (fun v w1 w2 h _ ht => h.t ht), Ri.mono_isT _, Ri.mono_isT _, Ri.mono_isT _, Ri.mono_isT _, Ri.mono_isT _, Ri.mono_isT _, trivial⟩
  · refine Ri.All.cons ?_ (Ri.All.cons ?_ (Ri.All.cons ?_ (Ri.All.cons ?_ (Ri.All.cons ?_ (Ri.All.cons ?_ (Ri.All.cons ?_ (Ri.All.cons ?_ (Ri.All.cons ?_ (Ri.All.cons ?_ (Ri.All.cons ?_ (Ri.All.nil)))))))))))
    · refine Ri.StepT.q (fun _ _ _ h => GT.of_q h) ⟨rfl, fun f W hq hf A hA hB hO => ?_⟩
      have e1 := (hB 0 (by kernel_rfl)).trans (show _ = .pointer (some ⟨b, 0, none⟩) by simp [Act.eval])
      exact Ri.wp_value _ (Ri.run_mv rfl e1) rfl
    · refine Ri.StepT.q (fun _ _ _ h => GT.of_q h) ⟨rfl, fun f W hq hf A hA hB hO => ?_⟩
      have e1 := (hA 3 0 (by kernel_rfl) (by simp)).trans (show f 0 = _ from hf 0 (by kernel_rfl))
      exact Ri.wp_value _ (Ri.run_nil rfl e1) rfl
    · refine Ri.StepT.q (fun _ _ _ h => GT.of_q h) ⟨rfl, fun f W hq hf A hA hB hO => ?_⟩
      have e1 := (hA 4 1 (by kernel_rfl) (by simp)).trans (show f 1 = _ from hf 1 (by kernel_rfl))
      exact Ri.wp_value _ (Ri.run_fld (f := _) rfl e1 Tryz.underlying74 rfl (sz := 0) (by kernel_rfl)) rfl
    · refine Ri.StepT.q (fun _ _ _ h => GT.of_q h) ⟨rfl, fun f W hq hf A hA hB hO => ?_⟩
      obtain ⟨h1, X⟩ := hq.2.2 HXD.out
      have e1 := (hA 5 2 (by kernel_rfl) (by simp)).trans (show f 2 = _ from hf 2 (by kernel_rfl))
      exact Ri.wp_value _ (Ri.run_ld1 rfl e1 Tryz.underlying25 rfl ((HK.out W h1 X).1)) rfl
    · refine ⟨rfl, fun f W hq hf A hA hB hO => ?_⟩
      obtain ⟨h1, X⟩ := hq.2.2 HXD.out
      have e1 := (hA 6 3 (by kernel_rfl) (by simp)).trans (show f 3 = _ from hf 3 (by kernel_rfl))
      exact Ri.wp_callT #[.pointer (some ⟨h.blk, 0, none⟩)] rfl (by simp [e1]) Tryz.func12 (by kernel_rfl) (by kernel_rfl) (HLV.out W h1 X)
    · refine Ri.StepT.q (fun _ _ _ h => GT.of_q h) ⟨rfl, fun f W hq hf A hA hB hO => ?_⟩
      have e1 := (hB 0 (by kernel_rfl)).trans (show _ = .pointer (some ⟨b, 0, none⟩) by simp [Act.eval])
      exact Ri.wp_value _ (Ri.run_mv rfl e1) rfl
    · refine Ri.StepT.q (fun _ _ _ h => GT.of_q h) ⟨rfl, fun f W hq hf A hA hB hO => ?_⟩
      have e1 := (hA 8 5 (by kernel_rfl) (by simp)).trans (show f 5 = _ from hf 5 (by kernel_rfl))
      exact Ri.wp_value _ (Ri.run_nil rfl e1) rfl
    · refine Ri.StepT.q (fun _ _ _ h => GT.of_q h) ⟨rfl, fun f W hq hf A hA hB hO => ?_⟩
      have e1 := (hA 9 6 (by kernel_rfl) (by simp)).trans (show f 6 = _ from hf 6 (by kernel_rfl))
      exact Ri.wp_value _ (Ri.run_fld (f := _) rfl e1 Tryz.underlying74 rfl (sz := 0) (by kernel_rfl)) rfl
    · refine Ri.StepT.q (fun _ _ _ h => GT.of_q h) ⟨rfl, fun f W hq hf A hA hB hO => ?_⟩
      obtain ⟨h1, X⟩ := hq.2.2 HXD.out
      have e1 := (hA 10 7 (by kernel_rfl) (by simp)).trans (show f 7 = _ from hf 7 (by kernel_rfl))
      exact Ri.wp_value _ (Ri.run_ld1 rfl e1 Tryz.underlying33 rfl ((HK.out W h1 X).2)) rfl
    · refine Ri.StepT.q (fun _ _ _ h => GT.of_q h) ⟨rfl, fun f W hq hf A hA hB hO => ?_⟩
      obtain ⟨h1, X⟩ := hq.2.2 HXD.out
      obtain ⟨A, c, e4, hS, -⟩ : LvP n L (f 4) W := hf 4 (by kernel_rfl)
      have e1 := (hA 7 4 (by kernel_rfl) (by simp)).trans e4
      have e2 := (hA 11 8 (by kernel_rfl) (by simp)).trans (show f 8 = _ from hf 8 (by kernel_rfl))
      refine Ri.wp_call #[.slice A n c, .slice A0 n c0] rfl (by simp [e1, e2]) Tryz.func16 (by kernel_rfl) (by kernel_rfl) ((HSM.out W A c h1 X hS).mono ?_)
      rintro e w3 ⟨rfl, hq3⟩
      exact ⟨_, rfl, hq3, rfl⟩
    · refine Ri.StepT.q (fun _ _ _ h => GT.of_q h) ⟨rfl, fun f W hq hf A hA hB hO => ?_⟩
      have e1 := (hA 12 9 (by kernel_rfl) (by simp)).trans (show f 9 = _ from hf 9 (by kernel_rfl))
      exact Ri.wp_value _ (Ri.run_asg rfl e1) rfl
  · intro f W hq hf
    have e10 : f 10 = .bool true := hf 10 (by simp)
    obtain ⟨h1, X⟩ := hq.2.2 HXD.out
    simp only [Ri.acts, Act.put, List.setIfInBounds_toArray, List.set_cons_zero, List.set_cons_succ, Nat.zero_add, Nat.reduceAdd]
    rw [e10]
    clear hf hq
    go_wp2_with fail
    go_ret
    exact ⟨rfl, h1, X⟩
end
end Go.Proofs.YtdaklffbfadghaaGreat

namespace Go.Proofs.YtdaklffbfadghaaGreat
open Go.RowKit HP
set_option linter.unusedVariables false
set_option linter.unusedSimpArgs false
theorem pair_beq (x y x' y' : Int) : (x == x' && y == y') = decide ((x, y) = (x', y')) := by
  by_cases h1 : x = x' <;> by_cases h2 : y = y' <;> simp [h1, h2]
theorem fnd_step {L : List (Int × Int)} {k : Nat} {p q : Int × Int} (hk : L[k]? = some p) : decide (q ∈ L.take (k + 1)) = (decide (q ∈ L.take k) || decide (p = q)) := by
  obtain ⟨h1, h2⟩ := List.getElem?_eq_some_iff.1 hk
  rw [List.take_succ_eq_append_getElem h1, h2]
  simp [List.mem_append, eq_comm]
section
variable {w : World} {h : Hp} {G : Gd}
set_option maxHeartbeats 4000000 in
set_option maxRecDepth 100000 in
/-- the others' blocks are there, and no more memory is taken than may be -/
theorem kept_any (R : GR w h G) (I : Inv h.m) (hL : ∀ x ∈ G.others, x ∈ stretches h.m) (hn : (stretches h.m).length ≤ 1000) (hu : 0 ≤ G.used ∧ G.used ≤ 4096) (hm : 0 ≤ G.most ∧ G.most ≤ 1000) (hv : 0 ≤ used h.m.live ∧ used h.m.live ≤ 4096) (hk : used h.m.live - G.used ≤ 64 * G.most + 64) :
    Calls Tryz.prog 45 #[.pointer (some ⟨G.blk, 0, none⟩)] w fun e w' => e = .returned (.bool true) ∧ ∃ h2, GS w h G.blk w' h2 G := by
  have HX0 := hide (GS.start R)
  obtain ⟨k0, -, -, -, -, -, hbl, -, -⟩ := R.k
  have hfew := R.few
  have HLV : Hid (∀ W h1, GS w h G.blk W h1 G → Calls Tryz.prog 12 #[h.ptr] W fun e W' => ∃ v, e = .returned v ∧ GT w h G.blk G W W' ∧ LvP (stretches h.m).length (stretches h.m) v W') := fun W h1 X => gs_live X I
  have HUS : Hid (∀ W, (∃ h1, GS w h G.blk W h1 G) → Calls Tryz.prog 10 #[h.ptr] W fun e W' => e = .returned (.int .i64 (used h.m.live)) ∧ ∃ h2, GS w h G.blk W' h2 G) := fun W ⟨h1, X⟩ => gs_used X I
  have HK : Hid (∀ W, (∃ h1, GS w h G.blk W h1 G) → W.cell? ⟨G.blk, 0, none⟩ = some h.ptr ∧ W.cell? ⟨G.blk, 1, none⟩ = some (.slice G.A G.others.length G.c) ∧ W.cell? ⟨G.blk, 2, none⟩ = some (.int .i64 G.used) ∧ W.cell? ⟨G.blk, 5, none⟩ = some (.int .i64 G.most) ∧ G.blk < W.heap.size) := fun W ⟨h1, X⟩ => ⟨X.k.1, X.k.2.1, X.k.2.2.1, X.k.2.2.2.2.2.1, X.k.2.2.2.2.2.2.1⟩
  have HO : Hid (∀ W, (∃ h1, GS w h G.blk W h1 G) → Sl 2 encP W G.A G.others.length G.c G.others) := fun W ⟨h1, X⟩ => X.gr.oth
  have HJQ : Hid (∀ W W2, (∃ h1, GS w h G.blk W h1 G) → Q W W2 → ∃ h1, GS w h G.blk W2 h1 G) := fun W W2 ⟨h1, X⟩ hq => ⟨h1, X.q hq⟩
  have HL := hide hL
  clear R hL
  obtain ⟨b, eb⟩ : ∃ b, b = G.blk := ⟨_, rfl⟩
  obtain ⟨A0, eA⟩ : ∃ A, A = G.A := ⟨_, rfl⟩
  obtain ⟨c0, ec⟩ : ∃ c, c = G.c := ⟨_, rfl⟩
  obtain ⟨L0, eL⟩ : ∃ L, L = G.others := ⟨_, rfl⟩
  obtain ⟨m, em⟩ : ∃ m, m = G.others.length := ⟨_, rfl⟩
  obtain ⟨L, eM⟩ : ∃ L, L = stretches h.m := ⟨_, rfl⟩
  obtain ⟨n, en⟩ : ∃ n, n = L.length := ⟨_, rfl⟩
  obtain ⟨us, eus⟩ : ∃ us : Int, us = used h.m.live := ⟨_, rfl⟩
  obtain ⟨u0, eu0⟩ : ∃ u, u = G.used := ⟨_, rfl⟩
  obtain ⟨ms, ems⟩ : ∃ u, u = G.most := ⟨_, rfl⟩
  have hus0 : 0 ≤ us := by omega
  have hus1 : us ≤ 4096 := by omega
  rw [← eM] at HLV HL hn
  rw [← en] at HLV hn
  rw [← eb] at HX0 k0 hbl HLV HUS HK HO HJQ ⊢
  rw [← em, ← eA, ← ec] at HK HO
  rw [← eL] at HO HL
  rw [← eus] at hk HUS
  rw [← eu0] at hk hu HK
  rw [← ems] at hk hm HK
  rw [← em] at hfew
  have HLN : Hid (L.length = n) := hide en.symm
  obtain ⟨hu0, hu1⟩ := hu
  obtain ⟨hm0, hm1⟩ := hm
  clear hv eb eA ec eL em eM en eus eu0 ems
  obtain ⟨JJ, hJJ⟩ : ∃ J : World → Prop, J = fun W => ∃ h1, GS w h b W h1 G := ⟨_, rfl⟩
  have HJ0 : Hid (JJ w) := by rw [hJJ]; exact ⟨h, HX0.out⟩
  have HLJ : Hid (Calls Tryz.prog 12 #[h.ptr] w fun e W' => ∃ A c, e = .returned (.slice A n c) ∧ JJ W' ∧ Sl 2 encP W' A n c L) := by
    refine (HLV.out w h HX0.out).mono ?_
    rintro e W' ⟨v, he, ht, A, c, rfl, hS, -⟩
    rw [hJJ]
    exact ⟨A, c, he, ht.2.2 ⟨h, HX0.out⟩, hS⟩
  have HFJ : Hid (∀ W, JJ W → ∃ h1, GS w h b W h1 G) := fun W hj => by rw [hJJ] at hj; exact hj
  have HUS2 : Hid (∀ W, JJ W → Calls Tryz.prog 10 #[h.ptr] W fun e W' => e = .returned (.int .i64 us) ∧ JJ W') := by rw [hJJ]; exact HUS.out
  have HK2 : Hid (∀ W, JJ W → W.cell? ⟨b, 0, none⟩ = some h.ptr ∧ W.cell? ⟨b, 1, none⟩ = some (.slice A0 m c0) ∧ W.cell? ⟨b, 2, none⟩ = some (.int .i64 u0) ∧ W.cell? ⟨b, 5, none⟩ = some (.int .i64 ms) ∧ b < W.heap.size) := by rw [hJJ]; exact HK.out
  have HO2 : Hid (∀ W, JJ W → Sl 2 encP W A0 m c0 L0) := by rw [hJJ]; exact HO.out
  have HJQ2 : Hid (∀ W W2, JJ W → Q W W2 → JJ W2) := by rw [hJJ]; exact HJQ.out
  clear HX0 HLV HUS HK HO HJQ hJJ
  unfold Hp.ptr at k0 HLJ HUS2 HK2
  have hni : (n : Int) ≤ 1000 := by omega
  have hmi : (m : Int) ≤ 64 := by omega
  have hlast : decide (us - u0 ≤ 64 * ms + 64) = true := decide_eq_true hk
  have HLA := hide hlast
  clear hlast hk
  go_enter Tryz.func45, Tryz.ntmps45
  go_wp2_with fail
  go_wp2_with (go_at_call 12; refine HLJ.out.mono ?_; rintro e w1 ⟨A, c, rfl, hj1, hS1⟩; have HJ1 := hide hj1; have HS1 := hide hS1; clear hj1 hS1 k0 hbl)
  go_loopw [4] (fun vi wr => ∃ i : Nat, i ≤ m ∧ vi = .int .i64 (i : Int) ∧ Q w1 wr) (fun vi _ => m - (intOf vi).toNat)
  case atStart => exact ⟨0, by omega, by go_num, Q.refl _⟩
  case round =>
    obtain ⟨i, hi, rfl, hqr⟩ := hrel
    have HQR := hide hqr
    obtain ⟨-, q1, -, -, hbr⟩ := HK2.out _ (HJQ2.out _ _ HJ1.out hqr)
    clear hqr
    by_cases hlt : i < m
    · have hd1 : decide ((i : Int) < (m : Int)) = true := by simp; omega
      have hd0 : decide (i < m) = true := by simp; omega
      have hlti : (i : Int) < (m : Int) := by omega
      obtain ⟨b8, o8, p3, p4, hA8, hb8, hx8, z3, z4⟩ := (HO2.out _ (HJQ2.out _ _ HJ1.out HQR.out)).pr i hlt
      subst hA8
      have HMEM : Hid ((p3, p4) ∈ L) := HL.out _ (List.mem_of_getElem? hx8)
      clear z3 z4
      have HX8 := hide hx8
      clear hx8
      go_wp2_with fail
      go_loopw [5, 6] (fun vf vk wr2 => ∃ k : Nat, k ≤ n ∧ vk = .int .i64 (k : Int) ∧ vf = .bool (decide ((p3, p4) ∈ L.take k)) ∧ Q w1 wr2) (fun _ vk _ => n - (intOf vk).toNat)
      case atStart => exact ⟨0, by omega, by go_num, by simp, HQR.out⟩
      case round =>
        obtain ⟨k, hk, rfl, rfl, hqr⟩ := hrel
        have HQ2 := hide hqr
        obtain ⟨-, q1, -, -, hbr⟩ := HK2.out _ (HJQ2.out _ _ HJ1.out hqr)
        by_cases hlt2 : k < n
        · have hd1 : decide ((k : Int) < (n : Int)) = true := by simp; omega
          have hd0 : decide (k < n) = true := by simp; omega
          have hlti : (k : Int) < (n : Int) := by omega
          obtain ⟨b7, o7, p1, p2, hA7, hb7, hx7, z1, z2⟩ := (HS1.out.up hqr).pr k hlt2
          subst hA7
          obtain ⟨b9, o9, p5, p6, hA9, hb9, hx9, z3, z4⟩ := (HO2.out _ (HJQ2.out _ _ HJ1.out hqr)).pr i hlt
          rw [HX8.out] at hx9
          injection hx9 with hx9
          injection hx9 with e5 e6
          subst e5
          subst e6
          injection hA9 with hA9
          injection hA9 with e7 e8
          subst e7
          subst e8
          have HF : Hid (decide ((p3, p4) ∈ L.take (k + 1)) = (decide ((p3, p4) ∈ L.take k) || (p1 == p3 && p2 == p4))) := by
            show _ = _
            rw [fnd_step hx7, pair_beq]
          obtain ⟨fd, efd⟩ : ∃ fd, fd = decide ((p3, p4) ∈ L.take k) := ⟨_, rfl⟩
          rw [← efd] at HF ⊢
          have hpg := eql_pairG
          clear hqr hx7 efd
          go_wp2_with fail
          cases fd with
          | true =>
            have hxc := ext_cell
            refine wp_region_ext (by kernel_rfl) (by kernel_rfl) ?_
            repeat (go_big_quiet_step ((fail)))
            clear hxc
            refine wpQuiet_nil ?_
            intro w13 hww13
            have hqw13 := q_of_ext hww13
            clear hww13
            obtain ⟨hcw13, hfw13, hzw13⟩ := hqw13.facts
            try simp at hzw13
            try have hs0w13 : w.heap.size < w13.heap.size := by omega
            try have hs1w13 : w.heap.size + 1 < w13.heap.size := by omega
            go_wp2_with fail
            go_roundw
            case rel => exact ⟨k + 1, by omega, by go_num, by rw [HF.out]; simp, HQ2.out.trans hqw13⟩
            case measure => simp [intOf] <;> omega
          | false =>
            have hxc := ext_cell
            refine wp_region_ext (by kernel_rfl) (by kernel_rfl) ?_
            repeat (go_big_quiet_step ((fail)))
            clear hxc
            refine wpQuiet_nil ?_
            intro w13 hww13
            have hqw13 := q_of_ext hww13
            clear hww13
            obtain ⟨hcw13, hfw13, hzw13⟩ := hqw13.facts
            try simp at hzw13
            try have hs0w13 : w.heap.size < w13.heap.size := by omega
            try have hs1w13 : w.heap.size + 1 < w13.heap.size := by omega
            go_wp2_with fail
            go_roundw
            case rel => exact ⟨k + 1, by omega, by go_num, by rw [HF.out]; simp, HQ2.out.trans hqw13⟩
            case measure => simp [intOf] <;> omega
        · have hd1 : decide ((k : Int) < (n : Int)) = false := by simp; omega
          have hd0 : decide (k < n) = false := by simp; omega
          obtain rfl : k = n := by omega
          have hall : decide ((p3, p4) ∈ L.take k) = true := by
            rw [List.take_of_length_le (Nat.le_of_eq HLN.out)]
            exact decide_eq_true HMEM.out
          rw [hall]
          clear hall hqr
          go_wp2_with fail
          go_roundw
          case rel => exact ⟨i + 1, by omega, by go_num, HQ2.out⟩
          case measure => simp [intOf] <;> omega
    · have hd1 : decide ((i : Int) < (m : Int)) = false := by simp; omega
      have hd0 : decide (i < m) = false := by simp; omega
      obtain rfl : i = m := by omega
      have HJ3 := hide (HJQ2.out _ _ HJ1.out HQR.out)
      have HJD := hide (HJQ2.out _ _ HJ3.out (Q.refl wr).drew)
      have hx0 : ∀ kk, (Ri.jx JJ wr kk).cell? ⟨b, 0, none⟩ = some (.pointer (some ⟨h.blk, 0, none⟩)) := fun kk => (HK2.out _ (Ri.j_jx HJ3.out kk)).1
      have hx2 : ∀ kk, (Ri.jx JJ wr kk).cell? ⟨b, 2, none⟩ = some (.int .i64 u0) := fun kk => (HK2.out _ (Ri.j_jx HJ3.out kk)).2.2.1
      have hx5 : ∀ kk, (Ri.jx JJ wr kk).cell? ⟨b, 5, none⟩ = some (.int .i64 ms) := fun kk => (HK2.out _ (Ri.j_jx HJ3.out kk)).2.2.2.1
      have hla := HLA.out
      go_wp2_with fail
      refine Ri.wp_region_jx (J := JJ) HJD.out (by kernel_rfl) (by kernel_rfl) ?_
      repeat (go_big_quiet_step ((go_at_call 10; exact Ri.jx_call (HUS2.out _ (Ri.j_jx HJ3.out _)))))
      refine wpQuiet_nil ?_
      rintro w3 ⟨k3, hk3⟩
      have HJ4 : Hid (JJ w3) := hide (by rw [hk3]; exact Ri.j_jx HJ3.out _)
      clear hk3 hx0 hx2 hx5
      go_wp2_with fail
      go_ret
      exact ⟨rfl, HFJ.out _ HJ4.out⟩
end
end Go.Proofs.YtdaklffbfadghaaGreat
