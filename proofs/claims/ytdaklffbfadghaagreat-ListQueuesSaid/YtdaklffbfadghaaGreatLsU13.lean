/- Close of a map; NewList, NewMap, NewQueue. What a map and a queue that cannot be used answer. SameInts, SameStretches of the document; == of two pairs. Conditions: as each theorem says. -/
import Derived.Test.YtdaklffbfadghaaGreatLsU12
import Derived.Test.YtdaklffbfadghaaGreatLsU8
namespace Go.Proofs.YtdaklffbfadghaaGreat
open Go.RowKit HP Go.Maps
set_option linter.unusedVariables false
set_option linter.unusedSimpArgs false
theorem run_clear_map {P : Program} {t e k ty : TypeId} {w : World} {mb : Nat} {es : Array MapEntry} {clock : Nat} (ht : P.underlying t = some (.map k e)) (hb : w.heap[mb]? = some (.map es clock)) :
    (Builtin.clear_ #[t] ty #[.map (some mb)]).run P w = .ok (.tuple #[]) { w with heap := w.heap.setIfInBounds mb (.map #[] clock) } := by
  simp [Builtin.clear_, run_underlying ht, MapKept.run_getObj_map hb, MapKept.run_setObj_map _ hb, Result.andThen]
section
variable {w W W2 : World} {h h1 : Hp} {r r1 : Rw} {mb n : Nat} {m : HM} {D : DM} {kv : List (Int × Int)}
/-- of the world w, in which heap, rows and map lay so: the heap is m now, the rows are r1 -/
structure MC (w : World) (h : Hp) (r : Rw) (mb : Nat) (W : World) (m : HM) (r1 : Rw) (h1 : Hp) : Prop where
  lr : LR W h1 r1
  hm : h1.m = m
  hb : h1.blk = h.blk
  rb : r1.blk = r.blk
  rt : r1.ty = r.ty
  turn : Turn (fun b => h.fp b ∨ r.fp b ∨ b = mb) w W
  hf : ∀ b, h1.fp b → h.fp b ∨ w.heap.size ≤ b
  rf : ∀ b, r1.fp b → r.fp b ∨ w.heap.size ≤ b
theorem MS.mc (X : MS w h r mb W m r1 n D h1) : MC w h r mb W m r1 h1 := ⟨X.lr, X.hm, X.hb, X.rb, X.rt, X.turn, X.hf, X.rf⟩
theorem MS.cleared (X : MS w h r mb W m r1 n D h1) (hg : W.grownBy W2 (some mb)) : MC w h r mb W2 m r1 h1 := by
  have L := X.lr
  have k1 : ∀ g, h1.fp g → W2.heap[g]? = W.heap[g]? := fun g hf => hg.block g (L.heap.lt g hf) fun e => X.ap.1 (by injection e with e; rw [← e]; exact hf)
  have k2 : ∀ g, r1.fp g → W2.heap[g]? = W.heap[g]? := fun g hf => hg.block g (L.rlt g hf) fun e => X.ap.2 (by injection e with e; rw [← e]; exact hf)
  exact ⟨⟨L.heap.same k1, L.mu, (k2 _ (.inl rfl)).trans L.cells, own_same L.pcs fun g hg => k2 g (.inr hg), L.ap1, L.ap2⟩, X.hm, X.hb, X.rb, X.rt, X.turn.grown hg fun k hk _ => by cases hk; exact .inr (.inr rfl), X.hf, X.rf⟩
theorem MS.close2 (X : MS w h r mb W m r1 n D h1) (I : Inv m) (hn : r1.n ≤ 64) (P : Pcs m 2 r1.ps r1.n) :
    Calls Tryz.prog 87 #[r.ptr] W fun e W' => e = .returned (.tuple #[]) ∧ ∃ m2 r2 h2, MS w h r mb W' m2 r2 n D h2 ∧ Clsd m m2 r1.ps ∧ r2.ps = [] ∧ r2.n = 0 ∧ r2.closed = true ∧ r2.more = r1.more := by
  have hrb := X.rb
  refine (X.call (P := fun e W' m2 r2 => e = .returned (.tuple #[]) ∧ Clsd m m2 r1.ps ∧ r2.ps = [] ∧ r2.n = 0 ∧ r2.closed = true ∧ r2.more = r1.more) fun h3 L e1 e2 e3 => ?_).mono ?_
  · have := close2_any L (by rw [e1]; exact I) hn (by rw [e1]; exact P)
    unfold Rw.ptr at this ⊢
    rw [hrb, e1] at this
    refine this.mono ?_
    rintro e W' ⟨m', r2, he, hX, hG⟩
    exact ⟨m', r2, hX, he, hG⟩
  · rintro e W' ⟨m2, r2, h2, hX, he, hG⟩
    exact ⟨he, m2, r2, h2, hX, hG⟩
set_option maxHeartbeats 4000000 in
set_option maxRecDepth 100000 in
theorem closeM_any (L : LR w h r) (S : MapR h.m r kv) (X0 : MS w h r mb w h.m r n D h) (hmo : r.more = [.map (some mb)]) :
    Calls Tryz.prog 35 #[r.ptr] w fun e w' => e = .returned (.int .i64 0) ∧ ∃ m' r2 h2, MC w h r mb w' m' r2 h2 ∧ Clsd h.m m' r.ps ∧ r2.ps = [] ∧ r2.n = 0 ∧ r2.closed = true ∧ r2.more = r.more := by
  have HX0 := hide X0
  have HAS : Hid (∀ W : World, Q w W → Calls Tryz.prog 71 #[r.ptr, .slice none 0 0] W fun e w' => e = .returned (.int .i64 0) ∧ Q W w') := fun W hq => askedM_zero L S.op W hq
  have HCL : Hid (∀ W, MS w h r mb W h.m r n D h → Calls Tryz.prog 87 #[r.ptr] W fun e W' => e = .returned (.tuple #[]) ∧ ∃ m2 r2 h2, MS w h r mb W' m2 r2 n D h2 ∧ Clsd h.m m2 r.ps ∧ r2.ps = [] ∧ r2.n = 0 ∧ r2.closed = true ∧ r2.more = r.more) := fun W X => X.close2 S.inv S.le (by have := S.kp.pcs; rw [two_len, S.n] at this; exact this)
  have HKC : Hid (∀ W m1 r1 D1 h1, MS w h r mb W m1 r1 n D1 h1 → r1.more = r.more → W.cell? ⟨r.blk, 4, none⟩ = some (.map (some mb)) ∧ r.blk < W.heap.size) := fun W m1 r1 D1 h1 X e => ⟨(X.k (e.trans hmo)).2.2.1, (X.k (e.trans hmo)).2.2.2⟩
  have hrp : r.ptr = .pointer (some ⟨r.blk, 0, none⟩) := rfl
  rw [hrp] at HAS HCL ⊢
  obtain ⟨b, eb⟩ : ∃ b, b = r.blk := ⟨_, rfl⟩
  rw [← eb] at HAS HCL HKC ⊢
  clear hrp eb S X0 hmo L
  go_enter Tryz.func35, Tryz.ntmps35
  go_wp2_with (first
    | (go_at_call 71; refine (HAS.out _ (Q.refl _)).mono ?_; rintro e w1 ⟨rfl, hq1⟩)
    | (go_at_call 87; go_loud (refine (HCL.out _ (HX0.out.q hq1)).mono ?_; rintro e w3 ⟨rfl, m3, r3, h3, hX3, hC3⟩; have HX3 := hide hX3; have HC3 := hide hC3; obtain ⟨c4, hbl⟩ := HKC.out _ _ _ _ _ hX3 hC3.2.2.2.2; obtain ⟨es, clock, hmb, -⟩ := hX3.own; have hrun := (fun ty => run_clear_map (P := Tryz.prog) (ty := ty) Tryz.underlying119 hmb); clear hX3 hC3)))
  go_ret
  refine ⟨rfl, m3, r3, h3, HX3.out.cleared ⟨rfl, rfl, rfl, by simp, fun k hk hne => ?_⟩, HC3.out⟩
  have hne2 : mb ≠ k := fun e => hne (by rw [e])
  simp [Array.getElem?_setIfInBounds_ne hne2]
end
section
variable {w : World} {h : Hp}
def newRw (b : Nat) (ty : TypeId) (more : List Value) : Rw := ⟨b, ty, .slice none 0 0, [], 0, false, more⟩
theorem new_lr (H : HpR w h) (hmu : h.mu = 0) {W : World} {b : Nat} {ty : TypeId} {more : List Value} (hq : Q w W) (hb : w.heap.size ≤ b) (hc : W.heap[b]? = some (.cells (#[h.ptr, .slice none 0 0, .int .i64 0, .bool false] ++ more.toArray) ty (0, 0))) : LR W h (newRw b ty more) := by
  refine ⟨H.q hq, hmu, ?_, World.ownsRow_nil _ _ _ _, fun e => by have := H.lt b e; omega, fun g hg => by cases hg⟩
  rw [show (newRw b ty more).blk = b from rfl, hc]
  unfold Rw.cells newRw
  simp
set_option maxHeartbeats 4000000 in
set_option maxRecDepth 100000 in
theorem newList_any (H : HpR w h) (hmu : h.mu = 0) : Calls Tryz.prog 13 #[h.ptr] w fun e w' => e = .returned (.tuple #[.pointer (some ⟨w.heap.size, 0, none⟩), .int .i64 0]) ∧ Q w w' ∧ LR w' h (newRw w.heap.size 117 []) := by
  have HH := hide H
  have HM := hide hmu
  have HF : Hid (LR (w.alloc (.cells #[h.ptr, .slice none 0 0, .int .i64 0, .bool false] 117)) h (newRw w.heap.size 117 [])) := new_lr H hmu ((Q.refl _).alloc _) (Nat.le_refl _) (heap_alloc_new w _)
  unfold Hp.ptr at HF ⊢
  obtain ⟨g, eg⟩ : ∃ g, g = h.blk := ⟨_, rfl⟩
  rw [← eg] at HF ⊢
  clear H hmu eg
  go_enter Tryz.func13, Tryz.ntmps13
  go_wp2_with fail
  go_ret2
  exact ⟨rfl, (Q.refl _).alloc _, HF.out⟩
set_option maxHeartbeats 4000000 in
set_option maxRecDepth 100000 in
theorem newQueue_any (H : HpR w h) (hmu : h.mu = 0) : Calls Tryz.prog 15 #[h.ptr] w fun e w' => e = .returned (.tuple #[.pointer (some ⟨w.heap.size, 0, none⟩), .int .i64 0]) ∧ Q w w' ∧ LR w' h (newRw w.heap.size 124 [.int .i64 0]) := by
  have HF : Hid (LR (w.alloc (.cells #[h.ptr, .slice none 0 0, .int .i64 0, .bool false, .int .i64 0] 124)) h (newRw w.heap.size 124 [.int .i64 0])) := new_lr H hmu ((Q.refl _).alloc _) (Nat.le_refl _) (heap_alloc_new w _)
  unfold Hp.ptr at HF ⊢
  obtain ⟨g, eg⟩ : ∃ g, g = h.blk := ⟨_, rfl⟩
  rw [← eg] at HF ⊢
  clear H hmu eg
  go_enter Tryz.func15, Tryz.ntmps15
  go_wp2_with fail
  go_ret2
  exact ⟨rfl, (Q.refl _).alloc _, HF.out⟩
set_option maxHeartbeats 4000000 in
set_option maxRecDepth 100000 in
theorem newMap_any (H : HpR w h) (hmu : h.mu = 0) : Calls Tryz.prog 14 #[h.ptr] w fun e w' => e = .returned (.tuple #[.pointer (some ⟨w.heap.size + 1, 0, none⟩), .int .i64 0]) ∧ Q w w' ∧ LR w' h (newRw (w.heap.size + 1) 121 [.map (some w.heap.size)]) ∧ World.keeps w' w.heap.size 0 (.map []) := by
  have hmm := @run_makeMap Tryz.prog
  have HQ : Hid (Q w ((w.alloc (.map #[] 0)).alloc (.cells #[h.ptr, .slice none 0 0, .int .i64 0, .bool false, .map (some w.heap.size)] 121))) := ((Q.refl _).alloc _).alloc _
  have HF : Hid (LR ((w.alloc (.map #[] 0)).alloc (.cells #[h.ptr, .slice none 0 0, .int .i64 0, .bool false, .map (some w.heap.size)] 121)) h (newRw (w.heap.size + 1) 121 [.map (some w.heap.size)])) := new_lr H hmu HQ.out (by omega) (by have := heap_alloc_new (w.alloc (.map #[] 0)) (.cells #[h.ptr, .slice none 0 0, .int .i64 0, .bool false, .map (some w.heap.size)] 121); simpa using this)
  have HO : Hid (World.keeps ((w.alloc (.map #[] 0)).alloc (.cells #[h.ptr, .slice none 0 0, .int .i64 0, .bool false, .map (some w.heap.size)] 121)) w.heap.size 0 (.map [])) := (World.ownsMap_made _ _ _ _).alloc _
  unfold Hp.ptr at HF HQ HO ⊢
  obtain ⟨g, eg⟩ : ∃ g, g = h.blk := ⟨_, rfl⟩
  rw [← eg] at HF HQ HO ⊢
  clear H hmu eg
  go_enter Tryz.func14, Tryz.ntmps14
  go_wp2_with fail
  go_ret2
  exact ⟨rfl, HQ.out, HF.out, HO.out⟩
set_option maxHeartbeats 4000000 in
set_option maxRecDepth 100000 in
theorem newList_nil (w : World) : Calls Tryz.prog 13 #[.pointer none] w fun e w' => e = .returned (.tuple #[.pointer none, .int .i64 1]) ∧ Q w w' := by
  go_enter Tryz.func13, Tryz.ntmps13
  go_wp2_with fail
  go_ret2
  exact ⟨rfl, Q.refl _⟩
set_option maxHeartbeats 4000000 in
set_option maxRecDepth 100000 in
theorem newMap_nil (w : World) : Calls Tryz.prog 14 #[.pointer none] w fun e w' => e = .returned (.tuple #[.pointer none, .int .i64 1]) ∧ Q w w' := by
  go_enter Tryz.func14, Tryz.ntmps14
  go_wp2_with fail
  go_ret2
  exact ⟨rfl, Q.refl _⟩
set_option maxHeartbeats 4000000 in
set_option maxRecDepth 100000 in
theorem newQueue_nil (w : World) : Calls Tryz.prog 15 #[.pointer none] w fun e w' => e = .returned (.tuple #[.pointer none, .int .i64 1]) ∧ Q w w' := by
  go_enter Tryz.func15, Tryz.ntmps15
  go_wp2_with fail
  go_ret2
  exact ⟨rfl, Q.refl _⟩
end
theorem newList_r (m : HM) (I : Inv m) (b : Nat) : LstR m (newRw b 117 []) [] := ⟨I, Kp.nil m 1, rfl, rfl, fun x hx => by cases hx⟩
theorem newMap_r (m : HM) (I : Inv m) (b mb : Nat) : MapR m (newRw b 121 [.map (some mb)]) [] := ⟨I, Kp.nil m 2, rfl, rfl, (fun x hx => by cases hx), List.Pairwise.nil⟩
end Go.Proofs.YtdaklffbfadghaaGreat

namespace Go.Proofs.YtdaklffbfadghaaGreat
open Go.RowKit HP
set_option linter.unusedVariables false
set_option linter.unusedSimpArgs false
section
variable {w : World} {h : Hp} {r : Rw}
set_option maxHeartbeats 4000000 in
set_option maxRecDepth 100000 in
theorem askedQ_any (L : LR w h r) (A : Option Addr) (n c : Nat) (l : List Int) (hl : l.length = n) (hr : Rd w w.heap.size A (intsV l)) (hn : n ≤ 1000) :
    Calls Tryz.prog 77 #[r.ptr, .slice A n c] w fun e w' => e = .returned (.int .i64 (if r.closed then 9 else if l.all fitsB then 0 else 1)) ∧ Q w w' := by
  have c3 := L.k3
  have HAN : Hid (Calls Tryz.prog 89 #[.slice A n c] w fun e w' => e = .returned (.bool (l.all fitsB)) ∧ Q w w') := areNumbers_any A n c l w hl hr hn
  unfold Rw.ptr
  obtain ⟨b, eb⟩ : ∃ b, b = r.blk := ⟨_, rfl⟩
  obtain ⟨cl, ec⟩ : ∃ c, c = r.closed := ⟨_, rfl⟩
  rw [← eb, ← ec] at c3
  rw [← eb, ← ec]
  clear eb ec L hr hl hn
  cases cl
  · cases ha : l.all fitsB
    · rw [ha] at HAN
      clear ha
      go_enter Tryz.func77, Tryz.ntmps77
      go_wp2_with (go_at_call 89; refine HAN.out.mono ?_; rintro e w1 ⟨rfl, hq1⟩)
      go_ret
      exact ⟨rfl, hq1⟩
    · rw [ha] at HAN
      clear ha
      go_enter Tryz.func77, Tryz.ntmps77
      go_wp2_with (go_at_call 89; refine HAN.out.mono ?_; rintro e w1 ⟨rfl, hq1⟩)
      go_ret
      exact ⟨rfl, hq1⟩
  · go_enter Tryz.func77, Tryz.ntmps77
    go_wp2_with fail
    go_ret
    exact ⟨rfl, Q.refl _⟩
set_option maxHeartbeats 4000000 in
set_option maxRecDepth 100000 in
theorem askedQ_nil (s : Value) (w : World) : Calls Tryz.prog 77 #[.pointer none, s] w fun e w' => e = .returned (.int .i64 9) ∧ Q w w' := by
  go_enter Tryz.func77, Tryz.ntmps77
  go_wp2_with fail
  go_ret
  exact ⟨rfl, Q.refl _⟩
set_option maxHeartbeats 4000000 in
set_option maxRecDepth 100000 in
theorem askedQ_closed (L : LR w h r) (hc : r.closed = true) (s : Value) : Calls Tryz.prog 77 #[r.ptr, s] w fun e w' => e = .returned (.int .i64 9) ∧ Q w w' := by
  have c3 := L.k3
  unfold Rw.ptr
  obtain ⟨b, eb⟩ : ∃ b, b = r.blk := ⟨_, rfl⟩
  rw [← eb, hc] at c3
  rw [← eb]
  clear eb L hc
  go_enter Tryz.func77, Tryz.ntmps77
  go_wp2_with fail
  go_ret
  exact ⟨rfl, Q.refl _⟩
theorem askedQ_two (L : LR w h r) (hop : r.closed = false) (k v : Int) (W : World) (hq : Q w W) : Calls Tryz.prog 77 #[r.ptr, .slice (some ⟨W.heap.size, 0, none⟩) 2 2] (W.alloc (.cells #[.int .i64 k, .int .i64 v] 3)) fun e w' => e = .returned (.int .i64 (if fitsB k && fitsB v then 0 else 1)) ∧ Q (W.alloc (.cells #[.int .i64 k, .int .i64 v] 3)) w' := by
  have := askedQ_any ((LDid.refl L).q (hq.alloc (.cells #[.int .i64 k, .int .i64 v] 3))).lr (some ⟨W.heap.size, 0, none⟩) 2 2 [k, v] rfl (.inr ⟨W.heap.size, 0, rfl, by simp, fun j u hu => by
    rw [World.cell?_alloc_new]
    simpa [intsV] using hu⟩) (by decide)
  rw [hop] at this
  simpa using this
theorem askedQ_zero (L : LR w h r) (hop : r.closed = false) (W : World) (hq : Q w W) : Calls Tryz.prog 77 #[r.ptr, .slice none 0 0] W fun e w' => e = .returned (.int .i64 0) ∧ Q W w' := by
  have := askedQ_any ((LDid.refl L).q hq).lr none 0 0 [] rfl (Rd.nil _ _ _) (by decide)
  rw [hop] at this
  simpa using this
end
/-- it is nil or closed -/
def DeadM (v : Value) (w : World) : Prop := ∀ W s, Q w W → Calls Tryz.prog 71 #[v, s] W fun e w' => e = .returned (.int .i64 9) ∧ Q W w'
theorem deadM_nil (w : World) : DeadM (.pointer none) w := fun W s _ => askedM_nil s W
theorem deadM_closed {h : Hp} {r : Rw} {w : World} (L : LR w h r) (hc : r.closed = true) : DeadM r.ptr w := fun W s hq => askedM_closed ((LDid.refl L).q hq).lr hc s
theorem DeadM.q {v : Value} {w w' : World} (D : DeadM v w) (hq : Q w w') : DeadM v w' := fun W s h => D W s (hq.trans h)
section
variable {v : Value} {w : World}
set_option maxHeartbeats 4000000 in
set_option maxRecDepth 100000 in
theorem deadM_Put (D : DeadM v w) (k : Int) (u : Int) : Calls Tryz.prog 21 #[v, .int .i64 k, .int .i64 u] w fun e w' => e = .returned (.tuple #[.int .i64 0, .bool false, .int .i64 9]) ∧ Q w w' := by
  have HD := hide D
  clear D
  go_enter Tryz.func21, Tryz.ntmps21
  go_wp2_with (go_at_call 71; refine (HD.out _ _ ((Q.refl _).alloc _)).mono ?_; rintro e w1 ⟨rfl, hq1⟩)
  refine bodyPost_ret (results_tmp3 rfl _ _) rfl ⟨rfl, ((Q.refl _).alloc _).trans hq1⟩
set_option maxHeartbeats 4000000 in
set_option maxRecDepth 100000 in
theorem deadM_Get (D : DeadM v w) (k : Int) : Calls Tryz.prog 42 #[v, .int .i64 k] w fun e w' => e = .returned (.tuple #[.int .i64 0, .bool false, .int .i64 9]) ∧ Q w w' := by
  have HD := hide D
  clear D
  go_enter Tryz.func42, Tryz.ntmps42
  go_wp2_with (go_at_call 71; refine (HD.out _ _ ((Q.refl _).alloc _)).mono ?_; rintro e w1 ⟨rfl, hq1⟩)
  refine bodyPost_ret (results_tmp3 rfl _ _) rfl ⟨rfl, ((Q.refl _).alloc _).trans hq1⟩
set_option maxHeartbeats 4000000 in
set_option maxRecDepth 100000 in
theorem deadM_Delete (D : DeadM v w) (k : Int) : Calls Tryz.prog 23 #[v, .int .i64 k] w fun e w' => e = .returned (.tuple #[.int .i64 0, .bool false, .int .i64 9]) ∧ Q w w' := by
  have HD := hide D
  clear D
  go_enter Tryz.func23, Tryz.ntmps23
  go_wp2_with (go_at_call 71; refine (HD.out _ _ ((Q.refl _).alloc _)).mono ?_; rintro e w1 ⟨rfl, hq1⟩)
  refine bodyPost_ret (results_tmp3 rfl _ _) rfl ⟨rfl, ((Q.refl _).alloc _).trans hq1⟩
set_option maxHeartbeats 4000000 in
set_option maxRecDepth 100000 in
theorem deadM_Close (D : DeadM v w) : Calls Tryz.prog 35 #[v] w fun e w' => e = .returned (.int .i64 9) ∧ Q w w' := by
  have HD := hide D
  clear D
  go_enter Tryz.func35, Tryz.ntmps35
  go_wp2_with (go_at_call 71; refine (HD.out _ _ (Q.refl _)).mono ?_; rintro e w1 ⟨rfl, hq1⟩)
  go_ret
  exact ⟨rfl, hq1⟩
set_option maxHeartbeats 4000000 in
set_option maxRecDepth 100000 in
theorem deadM_Keys (D : DeadM v w) : Calls Tryz.prog 34 #[v] w fun e w' => e = .returned (.slice none 0 0) ∧ Q w w' := by
  have HD := hide D
  clear D
  go_enter Tryz.func34, Tryz.ntmps34
  go_wp2_with (go_at_call 71; refine (HD.out _ _ (Q.refl _)).mono ?_; rintro e w1 ⟨rfl, hq1⟩)
  go_ret
  exact ⟨rfl, hq1⟩
end
/-- it is nil or closed -/
def DeadQ (v : Value) (w : World) : Prop := ∀ W s, Q w W → Calls Tryz.prog 77 #[v, s] W fun e w' => e = .returned (.int .i64 9) ∧ Q W w'
theorem deadQ_nil (w : World) : DeadQ (.pointer none) w := fun W s _ => askedQ_nil s W
theorem deadQ_closed {h : Hp} {r : Rw} {w : World} (L : LR w h r) (hc : r.closed = true) : DeadQ r.ptr w := fun W s hq => askedQ_closed ((LDid.refl L).q hq).lr hc s
theorem DeadQ.q {v : Value} {w w' : World} (D : DeadQ v w) (hq : Q w w') : DeadQ v w' := fun W s h => D W s (hq.trans h)
section
variable {v : Value} {w : World}
set_option maxHeartbeats 4000000 in
set_option maxRecDepth 100000 in
theorem deadQ_Push (D : DeadQ v w) (k : Int) (u : Int) : Calls Tryz.prog 25 #[v, .int .i64 k, .int .i64 u] w fun e w' => e = .returned (.int .i64 9) ∧ Q w w' := by
  have HD := hide D
  clear D
  go_enter Tryz.func25, Tryz.ntmps25
  go_wp2_with (go_at_call 77; refine (HD.out _ _ ((Q.refl _).alloc _)).mono ?_; rintro e w1 ⟨rfl, hq1⟩)
  go_ret
  exact ⟨rfl, ((Q.refl _).alloc _).trans hq1⟩
set_option maxHeartbeats 4000000 in
set_option maxRecDepth 100000 in
theorem dead_Peek (D : DeadQ v w) : Calls Tryz.prog 53 #[v] w fun e w' => e = .returned (.tuple #[.int .i64 0, .int .i64 0, .bool false, .int .i64 9]) ∧ Q w w' := by
  have HD := hide D
  clear D
  go_enter Tryz.func53, Tryz.ntmps53
  go_wp2_with (go_at_call 77; refine (HD.out _ _ (Q.refl _)).mono ?_; rintro e w1 ⟨rfl, hq1⟩)
  refine bodyPost_ret (results_tmp4 rfl _ _) rfl ⟨rfl, hq1⟩
set_option maxHeartbeats 4000000 in
set_option maxRecDepth 100000 in
theorem deadQ_Pop (D : DeadQ v w) : Calls Tryz.prog 27 #[v] w fun e w' => e = .returned (.tuple #[.int .i64 0, .int .i64 0, .bool false, .int .i64 9]) ∧ Q w w' := by
  have HD : Hid (∀ W, Q w W → Calls Tryz.prog 53 #[v] W fun e w' => e = .returned (.tuple #[.int .i64 0, .int .i64 0, .bool false, .int .i64 9]) ∧ Q W w') := fun W hq => dead_Peek (D.q hq)
  clear D
  go_enter Tryz.func27, Tryz.ntmps27
  go_wp2_with (go_at_call 53; refine (HD.out _ (Q.refl _)).mono ?_; rintro e w1 ⟨rfl, hq1⟩)
  refine bodyPost_ret (results_tmp4 rfl _ _) rfl ⟨rfl, hq1⟩
set_option maxHeartbeats 4000000 in
set_option maxRecDepth 100000 in
theorem deadQ_Len (D : DeadQ v w) : Calls Tryz.prog 56 #[v] w fun e w' => e = .returned (.int .i64 0) ∧ Q w w' := by
  have HD := hide D
  clear D
  go_enter Tryz.func56, Tryz.ntmps56
  go_wp2_with (go_at_call 77; refine (HD.out _ _ (Q.refl _)).mono ?_; rintro e w1 ⟨rfl, hq1⟩)
  go_ret
  exact ⟨rfl, hq1⟩
set_option maxHeartbeats 4000000 in
set_option maxRecDepth 100000 in
theorem deadQ_Close (D : DeadQ v w) : Calls Tryz.prog 32 #[v] w fun e w' => e = .returned (.int .i64 9) ∧ Q w w' := by
  have HD := hide D
  clear D
  go_enter Tryz.func32, Tryz.ntmps32
  go_wp2_with (go_at_call 77; refine (HD.out _ _ (Q.refl _)).mono ?_; rintro e w1 ⟨rfl, hq1⟩)
  go_ret
  exact ⟨rfl, hq1⟩
end
end Go.Proofs.YtdaklffbfadghaaGreat

namespace Go.Proofs.YtdaklffbfadghaaGreat
open Go.RowKit HP
set_option linter.unusedVariables false
set_option linter.unusedSimpArgs false
theorem equalIn_int' (w : World) (d : Nat) (a b : Int) : (Op.equalIn (d + 1) 3 (.int .i64 a) (.int .i64 b)).run Tryz.prog w = .ok (a == b) w :=
  run_equalIn_int w d _ _ _ a b Tryz.underlying3
theorem equalIn_pairG (w : World) (d : Nat) (a b a' b' : Int) : (Op.equalIn (d + 1 + 1) 64 (.agg #[.int .i64 a, .int .i64 b]) (.agg #[.int .i64 a', .int .i64 b'])).run Tryz.prog w = .ok (a == a' && b == b') w := by
  have hs : (sizeOf 3).run Tryz.prog w = .ok 1 w := by kernel_rfl
  have hp0 : (part 3 #[.int .i64 a, .int .i64 b] 0).run Tryz.prog w = .ok (.int .i64 a) w := by kernel_rfl
  have hp1 : (part 3 #[.int .i64 a, .int .i64 b] 1).run Tryz.prog w = .ok (.int .i64 b) w := by kernel_rfl
  have hp2 : (part 3 #[.int .i64 a', .int .i64 b'] 0).run Tryz.prog w = .ok (.int .i64 a') w := by kernel_rfl
  have hp3 : (part 3 #[.int .i64 a', .int .i64 b'] 1).run Tryz.prog w = .ok (.int .i64 b') w := by kernel_rfl
  have hq := equalIn_int' w d
  have hr : (List.range' 0 2 1) = [0, 1] := rfl
  unfold Op.equalIn
  by_cases h1 : a = a'
  · subst h1
    by_cases h2 : b = b'
    · subst h2
      simp [Sem.run_bind, run_underlying Tryz.underlying64, hs, Result.andThen, hp0, hp1, hp2, hp3, hq, hr]
    · simp [Sem.run_bind, run_underlying Tryz.underlying64, hs, Result.andThen, hp0, hp1, hp2, hp3, hq, hr, h2]
  · simp [Sem.run_bind, run_underlying Tryz.underlying64, hs, Result.andThen, hp0, hp1, hp2, hp3, hq, hr, h1]
theorem neq_pairG (w : World) (a b a' b' : Int) : (binOp .neq 64 (.agg #[.int .i64 a, .int .i64 b]) (.agg #[.int .i64 a', .int .i64 b'])).run Tryz.prog w = .ok (.bool (!(a == a' && b == b'))) w := by
  rw [run_neq_struct]
  rw [equalIn_pairG w 9998 a b a' b']
  rfl
theorem eql_pairG (w : World) (a b a' b' : Int) : (binOp .eql 64 (.agg #[.int .i64 a, .int .i64 b]) (.agg #[.int .i64 a', .int .i64 b'])).run Tryz.prog w = .ok (.bool (a == a' && b == b')) w := by
  rw [run_eql_struct]
  rw [equalIn_pairG w 9998 a b a' b']
  rfl
theorem neq_pair (w : World) (a b : Int) : (binOp .neq 64 (.agg #[.int .i64 a, .int .i64 b]) (.agg #[.int .i64 a, .int .i64 b])).run Tryz.prog w = .ok (.bool false) w := by
  rw [neq_pairG]
  simp
theorem Sl.pr {w : World} {A : Option Addr} {n c : Nat} {xs : List (Int × Int)} (h : Sl 2 encP w A n c xs) (i : Nat) (hi : i < n) :
    ∃ b o x y, A = some ⟨b, o, none⟩ ∧ b < w.heap.size ∧ xs[i]? = some (x, y) ∧ w.cell? ⟨b, o + i * 2, none⟩ = some (.int .i64 x) ∧ w.cell? ⟨b, o + i * 2 + 1, none⟩ = some (.int .i64 y) := by
  obtain ⟨b, o, ⟨x, y⟩, e, hb, hx, hc⟩ := h.at_ (fun _ => rfl) (by decide) i hi
  exact ⟨b, o, x, y, e, hb, hx, by simpa using hc 0 _ rfl, hc 1 _ rfl⟩
theorem Sl.i1 {w : World} {A : Option Addr} {n c : Nat} {xs : List Int} (h : Sl 1 (encI .i64) w A n c xs) (i : Nat) (hi : i < n) :
    ∃ b o x, A = some ⟨b, o, none⟩ ∧ b < w.heap.size ∧ xs[i]? = some x ∧ w.cell? ⟨b, o + i, none⟩ = some (.int .i64 x) := by
  obtain ⟨b, o, x, e, hb, hx, hc⟩ := h.at_ (fun _ => rfl) (by decide) i hi
  exact ⟨b, o, x, e, hb, hx, by have := hc 0 _ rfl; simpa using this⟩
theorem str_sl {w : World} {B : Nat} {v : Value} {l : List (Int × Int)} (h : w.ownsRow B 64 2 v l.length (l.flatMap encP)) : ∃ A c, v = .slice A l.length c ∧ Sl 2 encP w A l.length c l := by
  obtain ⟨A, c, rfl, -⟩ := own_form h
  exact ⟨A, c, rfl, Sl.own (own_low h (Nat.zero_le _)) (fun _ => rfl) (by decide)⟩
theorem flat_ints (l : List Int) : l.flatMap (encI .i64) = intsV l := by
  unfold intsV
  induction l with
  | nil => rfl
  | cons x r ih => rw [List.flatMap_cons, ih]; rfl
theorem ints_sl {w : World} {B : Nat} {v : Value} {l : List Int} (h : w.ownsRow B 3 1 v l.length (intsV l)) : ∃ A c, v = .slice A l.length c ∧ Sl 1 (encI .i64) w A l.length c l := by
  obtain ⟨A, c, rfl, -⟩ := own_form h
  rw [← flat_ints] at h
  exact ⟨A, c, rfl, Sl.own (own_low h (Nat.zero_le _)) (fun _ => rfl) (by decide)⟩
set_option maxHeartbeats 4000000 in
set_option maxRecDepth 100000 in
theorem SameInts_same (A1 : Option Addr) (n c1 : Nat) (A2 : Option Addr) (c2 : Nat) (xs : List Int) (w : World) (h1 : Sl 1 (encI .i64) w A1 n c1 xs) (h2 : Sl 1 (encI .i64) w A2 n c2 xs) (hn : n ≤ 100000) :
    Calls Tryz.prog 33 #[.slice A1 n c1, .slice A2 n c2] w fun e w' => e = .returned (.bool true) ∧ Q w w' := by
  have d : ((n : Int) != (n : Int)) = false := by simp
  have H1 := hide h1
  have H2 := hide h2
  have hni : (n : Int) ≤ 100000 := by omega
  clear h1 h2
  go_enter Tryz.func33, Tryz.ntmps33
  go_wp2_with fail
  go_loopw [5] (fun vi wr => ∃ i : Nat, i ≤ n ∧ vi = .int .i64 i ∧ Q w wr) (fun vi _ => n - (intOf vi).toNat)
  case atStart => exact ⟨0, by omega, by go_num, Q.refl _⟩
  case round =>
    obtain ⟨i, hi, rfl, hq⟩ := hrel
    have hsz := hq.size
    by_cases hlt : i < n
    · have hd1 : decide ((i : Int) < (n : Int)) = true := by simp; omega
      have hd0 : decide (i < n) = true := by simp; omega
      have hlti : (i : Int) < (n : Int) := by omega
      obtain ⟨b1, o1, x, rfl, hb1, g1, k1⟩ := (H1.out.up hq).i1 i hlt
      obtain ⟨b2, o2, y, rfl, hb2, g2, k2⟩ := (H2.out.up hq).i1 i hlt
      rw [g1] at g2
      obtain rfl := Option.some.inj g2
      have f : (x != x) = false := by simp
      clear g1 g2
      go_wp2_with fail
      have hxc := ext_cell
      refine wp_region_ext (by kernel_rfl) (by kernel_rfl) ?_
      repeat (go_big_quiet_step ((fail)))
      clear hxc
      refine wpQuiet_nil ?_
      intro wz hwwz
      have hqwz := q_of_ext hwwz
      clear hwwz
      obtain ⟨hcwz, hfwz, hzwz⟩ := hqwz.facts
      try simp at hzwz
      try have hs0wz : w.heap.size < wz.heap.size := by omega
      try have hs1wz : w.heap.size + 1 < wz.heap.size := by omega
      clear hcwz hfwz k1 k2
      go_wp2_with fail
      go_roundw
      case rel => exact ⟨i + 1, by omega, by go_num, hq.trans hqwz⟩
      case measure => simp [intOf] <;> omega
    · have hd1 : decide ((i : Int) < (n : Int)) = false := by simp; omega
      have hd0 : decide (i < n) = false := by simp; omega
      obtain rfl : i = n := by omega
      go_wp2_with fail
      go_ret
      exact ⟨rfl, hq⟩
set_option maxHeartbeats 4000000 in
set_option maxRecDepth 100000 in
theorem SameStr_same (A1 : Option Addr) (n c1 : Nat) (A2 : Option Addr) (c2 : Nat) (xs : List (Int × Int)) (w : World) (h1 : Sl 2 encP w A1 n c1 xs) (h2 : Sl 2 encP w A2 n c2 xs) (hn : n ≤ 100000) :
    Calls Tryz.prog 16 #[.slice A1 n c1, .slice A2 n c2] w fun e w' => e = .returned (.bool true) ∧ Q w w' := by
  have d : ((n : Int) != (n : Int)) = false := by simp
  have H1 := hide h1
  have H2 := hide h2
  have hni : (n : Int) ≤ 100000 := by omega
  have hnp := neq_pair
  clear h1 h2
  go_enter Tryz.func16, Tryz.ntmps16
  go_wp2_with fail
  go_loopw [5] (fun vi wr => ∃ i : Nat, i ≤ n ∧ vi = .int .i64 i ∧ Q w wr) (fun vi _ => n - (intOf vi).toNat)
  case atStart => exact ⟨0, by omega, by go_num, Q.refl _⟩
  case round =>
    obtain ⟨i, hi, rfl, hq⟩ := hrel
    have hsz := hq.size
    by_cases hlt : i < n
    · have hd1 : decide ((i : Int) < (n : Int)) = true := by simp; omega
      have hd0 : decide (i < n) = true := by simp; omega
      have hlti : (i : Int) < (n : Int) := by omega
      obtain ⟨b1, o1, x1, y1, rfl, hb1, g1, k1, k1'⟩ := (H1.out.up hq).pr i hlt
      obtain ⟨b2, o2, x2, y2, rfl, hb2, g2, k2, k2'⟩ := (H2.out.up hq).pr i hlt
      rw [g1] at g2
      injection g2 with g2
      injection g2 with e3 e4
      subst e3
      subst e4
      clear g1
      go_wp2_with fail
      have hxc := ext_cell
      refine wp_region_ext (by kernel_rfl) (by kernel_rfl) ?_
      repeat (go_big_quiet_step ((fail)))
      clear hxc
      refine wpQuiet_nil ?_
      intro wz hwwz
      have hqwz := q_of_ext hwwz
      clear hwwz
      obtain ⟨hcwz, hfwz, hzwz⟩ := hqwz.facts
      try simp at hzwz
      try have hs0wz : w.heap.size < wz.heap.size := by omega
      try have hs1wz : w.heap.size + 1 < wz.heap.size := by omega
      clear hcwz hfwz k1 k2 k1' k2'
      go_wp2_with fail
      go_roundw
      case rel => exact ⟨i + 1, by omega, by go_num, hq.trans hqwz⟩
      case measure => simp [intOf] <;> omega
    · have hd1 : decide ((i : Int) < (n : Int)) = false := by simp; omega
      have hd0 : decide (i < n) = false := by simp; omega
      obtain rfl : i = n := by omega
      go_wp2_with fail
      go_ret
      exact ⟨rfl, hq⟩
end Go.Proofs.YtdaklffbfadghaaGreat
