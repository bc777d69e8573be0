/- Two heaps of the call's own and their references, in hand: they lie apart, and each act keeps that. The reference's Same. Conditions: as each theorem says. -/
import Derived.Test.YtegpkcbmgjoicaaGreatHtU2
import Derived.Test.YtegpkcbmgjoicaaGreatHrE
namespace Go.Proofs.YtegpkcbmgjoicaaGreat
open Go.RowKit HP
set_option linter.unusedVariables false
/-- two heaps of the reference, apart from some blocks -/
structure Mod2 (S : Nat → Prop) (w : World) (v1 v2 : RV) : Prop where
  r1 : RmR w v1
  r2 : RmR w v2
  a1 : Apt S v1.A
  b1 : Apt S v1.B
  a2 : Apt S v2.A
  b2 : Apt S v2.B
theorem Apt.grow {t : TypeId} {w : World} {S S' : Nat → Prop} {A : Option Addr} (hT : TyA t w A) (h : Apt S A) (hs : ∀ b, S' b → S b ∨ w.heap.size ≤ b) : Apt S' A := fun g o e hb => by
  obtain ⟨cs, hc⟩ := hT g o e
  have := blk_lt hc
  rcases hs g hb with hb | hb
  · exact h g o e hb
  · omega
theorem Mod2.turn {S T : Nat → Prop} {w w' : World} {v1 v2 : RV} (M : Mod2 S w v1 v2) (ht : Turn T w w') (hs : ∀ b, T b → S b) : Mod2 S w' v1 v2 :=
  ⟨M.r1.turn ht (M.a1.mono hs) (M.b1.mono hs), M.r2.turn ht (M.a2.mono hs) (M.b2.mono hs), M.a1, M.b1, M.a2, M.b2⟩
theorem Mod2.grow {S S' : Nat → Prop} {w : World} {v1 v2 : RV} (M : Mod2 S w v1 v2) (hs : ∀ b, S' b → S b ∨ w.heap.size ≤ b) : Mod2 S' w v1 v2 :=
  ⟨M.r1, M.r2, M.a1.grow M.r1.ta hs, M.b1.grow M.r1.tb hs, M.a2.grow M.r2.ta hs, M.b2.grow M.r2.tb hs⟩
theorem Mod2.q {S : Nat → Prop} {w w' : World} {v1 v2 : RV} (M : Mod2 S w v1 v2) (hq : Q w w') : Mod2 S w' v1 v2 := ⟨M.r1.up hq, M.r2.up hq, M.a1, M.b1, M.a2, M.b2⟩
theorem Mod2.did {T : Nat → Prop} {w w' : World} {h h' : Hp} {v1 v2 : RV} (M : Mod2 (fun b => h.fp b ∨ T b) w v1 v2) (D : Did w h w' h') : Mod2 (fun b => h'.fp b ∨ T b) w' v1 v2 :=
  ((M.grow (S' := fun b => (h'.fp b ∨ T b) ∨ h.fp b) fun b hb => by
    rcases hb with (hb | hb) | hb
    · rcases D.fp b hb with e | e
      · exact .inl (.inl e)
      · exact .inr e
    · exact .inl (.inr hb)
    · exact .inl (.inl hb)).turn D.turn fun b hb => .inr hb).grow fun b hb => .inl (.inl hb)
/-- two heaps of the call's own, two of the reference, and two boxes -/
def OR2 (w0 w : World) (g1 : Nat) (m1 : HM) (g2 : Nat) (m2 : HM) (v1 v2 : RV) (bM bN : Nat) : Prop :=
  ∃ h1 h2 : Hp, h1.blk = g1 ∧ h2.blk = g2 ∧ HpR w h1 ∧ HpR w h2 ∧ h1.mu = 0 ∧ h2.mu = 0 ∧ h1.m = m1 ∧ h2.m = m2 ∧ Q w0 w ∧ (∀ b, h1.fp b → w0.heap.size ≤ b) ∧ (∀ b, h2.fp b → w0.heap.size ≤ b) ∧ (∀ b, h1.fp b → ¬ h2.fp b) ∧ Mod2 (fun b => h1.fp b ∨ h2.fp b ∨ b = bM ∨ b = bN) w v1 v2
section
variable {w0 w w' : World} {g1 g2 : Nat} {m1 m2 : HM} {v1 v2 : RV} {bM bN : Nat}
theorem OR2.swap (O : OR2 w0 w g1 m1 g2 m2 v1 v2 bM bN) : OR2 w0 w g2 m2 g1 m1 v1 v2 bM bN := by
  obtain ⟨h1, h2, a, b, c, d, e, f, g, h, i, j, k, l, M⟩ := O
  exact ⟨h2, h1, b, a, d, c, f, e, h, g, i, k, j, fun b hb hb' => l b hb' hb, M.grow fun b hb => .inl (by rcases hb with hb | hb | hb <;> simp [hb])⟩
theorem OR2.toQ (O : OR2 w0 w g1 m1 g2 m2 v1 v2 bM bN) : Q w0 w := by
  obtain ⟨h1, h2, a, b, c, d, e, f, g, h, i, -⟩ := O
  exact i
theorem OR2.q (O : OR2 w0 w g1 m1 g2 m2 v1 v2 bM bN) (hq : Q w w') : OR2 w0 w' g1 m1 g2 m2 v1 v2 bM bN := by
  obtain ⟨h1, h2, a, b, c, d, e, f, g, h, i, j, k, l, M⟩ := O
  exact ⟨h1, h2, a, b, c.q hq, d.q hq, e, f, g, h, i.trans hq, j, k, l, M.q hq⟩
/-- what is done of the first one -/
theorem OR2.did {h1 h2 h1' : Hp} (r2 : HpR w h2) (u2 : h2.mu = 0) (hq : Q w0 w) (f1 : ∀ b, h1.fp b → w0.heap.size ≤ b) (f2 : ∀ b, h2.fp b → w0.heap.size ≤ b) (hd : ∀ b, h1.fp b → ¬ h2.fp b) (M : Mod2 (fun b => h1.fp b ∨ h2.fp b ∨ b = bM ∨ b = bN) w v1 v2) (D : Did w h1 w' h1') (hmu : h1'.mu = 0) : OR2 w0 w' h1.blk h1'.m h2.blk h2.m v1 v2 bM bN := by
  refine ⟨h1', h2, D.blk, rfl, D.rep, r2.turn D.turn (fun b hb hb' => hd b hb' hb), hmu, u2, rfl, rfl, Turn.q_of hq D.turn f1, (fun b hb => ?_), f2, (fun b hb hb' => ?_), ?_⟩
  · rcases D.fp b hb with e | e
    · exact f1 b e
    · exact Nat.le_trans hq.size e
  · rcases D.fp b hb with e | e
    · exact hd b e hb'
    · have := r2.lt b hb'
      omega
  · exact Mod2.did (T := fun b => h2.fp b ∨ b = bM ∨ b = bN) M D
theorem or2_act (O : OR2 w0 w g1 m1 g2 m2 v1 v2 bM bN) (I : Inv m1) (hc : m1.calls < 1000000000) (op a b : Int) (ha : -9223372036854775808 ≤ a ∧ a ≤ 9223372036854775807) :
    Calls Tryz.prog 9 #[.pointer (some ⟨g1, 0, none⟩), .agg #[.int .i64 op, .int .i64 a, .int .i64 b]] w fun e w' => e = .returned (.tuple #[.int .i64 (actM m1 op a b).2.1, .int .i64 (actM m1 op a b).2.2]) ∧ OR2 w0 w' g1 (actM m1 op a b).1 g2 m2 v1 v2 bM bN ∧ KeepM w w' := by
  obtain ⟨h1, h2, rfl, rfl, r1, r2, u1, u2, rfl, rfl, hq, f1, f2, hd, M⟩ := O
  refine (act_any h1 op a b w r1 I u1 hc ha.1 ha.2).mono ?_
  rintro e w' ⟨h', he, D, hmu, hm⟩
  have O' := OR2.did r2 u2 hq f1 f2 hd M D hmu
  rw [hm] at O'
  exact ⟨he, O', D.keepM r1⟩
theorem or2_shows1 (O : OR2 w0 w g1 m1 g2 m2 v1 v2 bM bN) (I : Inv m1) (S : Sim m1 v1.m) (hc : m1.calls < 1000000) :
    Calls Tryz.prog 11 #[.pointer (some ⟨g1, 0, none⟩), v1.val] w fun e w' => e = .returned (.bool true) ∧ OR2 w0 w' g1 m1 g2 m2 v1 v2 bM bN ∧ KeepM w w' := by
  obtain ⟨h1, h2, rfl, rfl, r1, r2, u1, u2, rfl, rfl, hq, f1, f2, hd, M⟩ := O
  refine (shows_any h1 v1 w r1 I u1 M.r1 S hc (M.a1.mono fun b hb => .inl hb) (M.b1.mono fun b hb => .inl hb)).mono ?_
  rintro e w' ⟨h', he, D, hmu, hm⟩
  have O' := OR2.did r2 u2 hq f1 f2 hd M D hmu
  rw [hm] at O'
  exact ⟨he, O', D.keepM r1⟩
theorem or2_shows2 (O : OR2 w0 w g1 m1 g2 m2 v1 v2 bM bN) (I : Inv m1) (S : Sim m1 v2.m) (hc : m1.calls < 1000000) :
    Calls Tryz.prog 11 #[.pointer (some ⟨g1, 0, none⟩), v2.val] w fun e w' => e = .returned (.bool true) ∧ OR2 w0 w' g1 m1 g2 m2 v1 v2 bM bN ∧ KeepM w w' := by
  obtain ⟨h1, h2, rfl, rfl, r1, r2, u1, u2, rfl, rfl, hq, f1, f2, hd, M⟩ := O
  refine (shows_any h1 v2 w r1 I u1 M.r2 S hc (M.a2.mono fun b hb => .inl hb) (M.b2.mono fun b hb => .inl hb)).mono ?_
  rintro e w' ⟨h', he, D, hmu, hm⟩
  have O' := OR2.did r2 u2 hq f1 f2 hd M D hmu
  rw [hm] at O'
  exact ⟨he, O', D.keepM r1⟩
theorem FrA.apt2 {α : Type} {w : World} {S : Nat → Prop} {A A' : Option Addr} {xs xs' : List α} (hS : ∀ b, S b → b < w.heap.size) (hF : FrA w.heap.size A A' xs xs') (ha : Apt S A) : Apt S A' := by
  rcases hF with ⟨rfl, rfl⟩ | hF
  · exact ha
  · intro b o e hb'
    have := hF b o e
    have := hS b hb'
    omega
theorem OR2.ref {v2' : RV} (O : OR2 w0 w g1 m1 g2 m2 v1 v2 bM bN) (hR : RmR w' v2') (hF : Fr w.heap.size v2 v2') (hq : Q w w') (hbM : bM < w.heap.size) (hbN : bN < w.heap.size) : OR2 w0 w' g1 m1 g2 m2 v1 v2' bM bN := by
  obtain ⟨h1, h2, a, b, c, d, e, f, g, h, i, j, k, l, M⟩ := O
  have hS : ∀ b, (h1.fp b ∨ h2.fp b ∨ b = bM ∨ b = bN) → b < w.heap.size := fun b hb => by
    rcases hb with hb | hb | hb | hb
    · exact c.lt b hb
    · exact d.lt b hb
    · omega
    · omega
  exact ⟨h1, h2, a, b, c.q hq, d.q hq, e, f, g, h, i.trans hq, j, k, l, M.r1.up hq, hR, M.a1, M.b1, FrA.apt2 hS hF.1 M.a2, FrA.apt2 hS hF.2 M.b2⟩
theorem or2_ref (O : OR2 w0 w g1 m1 g2 m2 v1 v2 bM bN) (K : RmK v2.m) (hbM : bM < w.heap.size) (hbN : bN < w.heap.size) (op a b : Int) :
    Calls Tryz.prog 10 #[v2.val, .agg #[.int .i64 op, .int .i64 a, .int .i64 b]] w fun e w' => ∃ v', e = .returned (.tuple #[v'.val, .int .i64 (ractM v2.m op a b).2.1, .int .i64 (ractM v2.m op a b).2.2]) ∧ v'.m = (ractM v2.m op a b).1 ∧ OR2 w0 w' g1 m1 g2 m2 v1 v' bM bN ∧ Q w w' := by
  obtain ⟨h1, h2, -, -, -, -, -, -, -, -, -, -, -, -, M⟩ := id O
  refine (rAct_any v2 op a b w M.r2 K).mono ?_
  rintro e w' ⟨v', he, hm, hR, hF, hq⟩
  exact ⟨v', he, hm, O.ref hR hF hq hbM hbN, hq⟩
theorem OR2.alien (O : OR2 w0 w g1 m1 g2 m2 v1 v2 bM bN) {b : Nat} {cs : Array Value} (hb : w.heap[b]? = some (.cells cs MT (0, 0))) (ht : Turn (fun i => i = b) w w') (hw : w0.heap.size ≤ b) (h1 : Apt (fun i => i = b) v1.A) (h2 : Apt (fun i => i = b) v1.B) (h3 : Apt (fun i => i = b) v2.A) (h4 : Apt (fun i => i = b) v2.B) : OR2 w0 w' g1 m1 g2 m2 v1 v2 bM bN := by
  obtain ⟨p, q, a, b', c, d, e, f, g, h, i, j, k, l, M⟩ := O
  have n1 : ∀ x, p.fp x → ¬ x = b := fun x hx e => c.no_t alien_model hb (by rw [← e]; exact hx)
  have n2 : ∀ x, q.fp x → ¬ x = b := fun x hx e => d.no_t alien_model hb (by rw [← e]; exact hx)
  exact ⟨p, q, a, b', c.turn ht n1, d.turn ht n2, e, f, g, h, Turn.q_of i ht (fun x e => by rw [e]; exact hw), j, k, l, M.r1.turn ht h1 h2, M.r2.turn ht h3 h4, M.a1, M.b1, M.a2, M.b2⟩
theorem OR2.box (O : OR2 w0 w g1 m1 g2 m2 v1 v2 bM bN) {cs : Array Value} (hb : w.heap[bN]? = some (.cells cs MT (0, 0))) (ht : Turn (fun i => i = bN) w w') (hw : w0.heap.size ≤ bN) : OR2 w0 w' g1 m1 g2 m2 v1 v2 bM bN := by
  obtain ⟨p, q, -, -, -, -, -, -, -, -, -, -, -, -, M⟩ := id O
  exact O.alien hb ht hw (M.a1.mono fun b hb => .inr (.inr (.inr hb))) (M.b1.mono fun b hb => .inr (.inr (.inr hb))) (M.a2.mono fun b hb => .inr (.inr (.inr hb))) (M.b2.mono fun b hb => .inr (.inr (.inr hb)))
theorem TyA.ne {w : World} {A : Option Addr} {b : Nat} {cs : Array Value} {t : TypeId} (h : TyA t w A) (hb : w.heap[b]? = some (.cells cs MT (0, 0))) (ht : MT ≠ t) : Apt (fun i => i = b) A := fun g o e e' => by
  obtain ⟨cs', hc⟩ := h g o e
  rw [e'] at hc
  exact ty_ne hb hc ht rfl
theorem OR2.stB (O : OR2 w0 w g1 m1 g2 m2 v1 v2 bM bN) {b : Nat} (h : StB b w w') (hw : w0.heap.size ≤ b) : OR2 w0 w' g1 m1 g2 m2 v1 v2 bM bN := by
  obtain ⟨p, q, -, -, -, -, -, -, -, -, -, -, -, -, M⟩ := id O
  obtain ⟨cs, hc⟩ := h.was
  exact O.alien hc h.turn hw (M.r1.ta.ne hc (by decide)) (M.r1.tb.ne hc (by decide)) (M.r2.ta.ne hc (by decide)) (M.r2.tb.ne hc (by decide))
end
/-- a copy is made, and a box for its model -/
theorem or_copy {w0 w : World} {g : Nat} {m : HM} {v : RV} {bM : Nat} (O : OR w0 w g m v bM) (I : Inv m) :
    Calls Tryz.prog 12 #[.pointer (some ⟨g, 0, none⟩)] w fun e w' => ∃ g2, e = .returned (.pointer (some ⟨g2, 0, none⟩)) ∧ KeepM w w' ∧ Q w0 w' ∧ ∀ w2, Q w' w2 → OR2 w0 w2 g m g2 m v v bM w'.heap.size := by
  obtain ⟨h, rfl, r, u, rfl, hq, hf, hV, hA, hB⟩ := O
  refine (copy_act h w r I u).mono ?_
  rintro e w' ⟨h', hc, rfl, D, hmu, hm, hR, hmuc, hmc, hfc, hfs⟩
  have hqw : Q w0 w' := Turn.q_of hq D.turn hf
  refine ⟨hc.blk, rfl, D.keepM r, hqw, fun w2 hq2 => ?_⟩
  have hV' := hV.turn D.turn (hA.mono fun b hb => .inl hb) (hB.mono fun b hb => .inl hb)
  have M0 : Mod2 (fun b => h'.fp b ∨ hc.fp b ∨ b = bM ∨ b = w'.heap.size) w' v v := by
    have key : ∀ {t : TypeId} {A : Option Addr}, TyA t w A → Apt (fun b => h.fp b ∨ b = bM) A → Apt (fun b => h'.fp b ∨ hc.fp b ∨ b = bM ∨ b = w'.heap.size) A := fun hT hA => Apt.grow hT hA fun b hb => by
      rcases hb with hb | hb | hb | hb
      · exact .inl (.inl (hfs b hb))
      · exact .inr (hfc b hb)
      · exact .inl (.inr hb)
      · exact .inr (by rw [hb]; exact D.turn.size)
    exact ⟨hV', hV', key hV.ta hA, key hV.tb hB, key hV.ta hA, key hV.tb hB⟩
  exact ⟨h', hc, D.blk, rfl, D.rep.q hq2, hR.q hq2, hmu, hmuc, hm, hmc, hqw.trans hq2, (fun b hb => hf b (hfs b hb)), (fun b hb => Nat.le_trans hq.size (hfc b hb)), (fun b hb hb' => by
    have h7 := r.lt b (hfs b hb)
    have h8 := hfc b hb'
    omega), M0.q hq2⟩
end Go.Proofs.YtegpkcbmgjoicaaGreat

namespace Go.Proofs.YtegpkcbmgjoicaaGreat
open Go.RowKit HP
set_option linter.unusedVariables false
theorem equalIn_pairG (w : World) (d : Nat) (a b a' b' : Int) : (Op.equalIn (d + 1 + 1) 88 (.agg #[.int .i64 a, .int .i64 b]) (.agg #[.int .i64 a', .int .i64 b'])).run Tryz.prog w = .ok (a == a' && b == b') w := by
  have hs : (sizeOf 3).run Tryz.prog w = .ok 1 w := by kernel_rfl
  have hp0 : (part 3 #[.int .i64 a, .int .i64 b] 0).run Tryz.prog w = .ok (.int .i64 a) w := by kernel_rfl
  have hp1 : (part 3 #[.int .i64 a, .int .i64 b] 1).run Tryz.prog w = .ok (.int .i64 b) w := by kernel_rfl
  have hp2 : (part 3 #[.int .i64 a', .int .i64 b'] 0).run Tryz.prog w = .ok (.int .i64 a') w := by kernel_rfl
  have hp3 : (part 3 #[.int .i64 a', .int .i64 b'] 1).run Tryz.prog w = .ok (.int .i64 b') w := by kernel_rfl
  have hq := equalIn_int' w d
  have hr : (List.range' 0 2 1) = [0, 1] := rfl
  unfold Op.equalIn
  by_cases h1 : a = a'
  · subst h1
    by_cases h2 : b = b'
    · subst h2
      simp [Sem.run_bind, run_underlying Tryz.underlying88, hs, Result.andThen, hp0, hp1, hp2, hp3, hq, hr]
    · simp [Sem.run_bind, run_underlying Tryz.underlying88, hs, Result.andThen, hp0, hp1, hp2, hp3, hq, hr, h2]
  · simp [Sem.run_bind, run_underlying Tryz.underlying88, hs, Result.andThen, hp0, hp1, hp2, hp3, hq, hr, h1]
theorem neq_pairG (w : World) (a b a' b' : Int) : (binOp .neq 88 (.agg #[.int .i64 a, .int .i64 b]) (.agg #[.int .i64 a', .int .i64 b'])).run Tryz.prog w = .ok (.bool (!(a == a' && b == b'))) w := by
  rw [run_neq_struct]
  rw [equalIn_pairG w 9998 a b a' b']
  rfl
/-- equal bytes in a block -/
def sameY (ys y2s : List Int) (p : Int × Int) : Prop := ∀ k : Nat, p.1 ≤ k → (k : Int) < p.1 + p.2 → ys[k]? = y2s[k]?
open Classical in
noncomputable def sameR (m u : RM) : Bool := (m.top == u.top) && (m.peak == u.peak) && (m.calls == u.calls) && (m.fail == u.fail) && decide (m.bl = u.bl) && decide (∀ p ∈ m.bl, sameY m.ys u.ys p)
set_option maxRecDepth 100000 in
set_option maxHeartbeats 8000000 in
theorem rSame_top (v u : RV) (w : World) (H : RmR w v) (K : RmR w u) (N : RmN v.m) (M : RmN u.m) (h0 : v.m.kind = u.m.kind) (h1 : v.m.size = u.m.size) (h2 : v.m.piece = u.m.piece) (hne : ¬ v.m.top = u.m.top) :
    Calls Tryz.prog 14 #[v.val, u.val] w fun e w' => e = .returned (.bool false) ∧ Q w w' := by
  obtain ⟨A1, n, c1, B1, k1n, d1n, ⟨m0, m1, m2, bl, ys, m5, m6, m7, m8⟩⟩ := v
  obtain ⟨A2, n2, c2, B2, k2n, d2n, ⟨x0, x1, x2, b2l, y2s, u5, u6, u7, u8⟩⟩ := u
  obtain rfl : m0 = x0 := h0
  obtain rfl : m1 = x1 := h1
  obtain rfl : m2 = x2 := h2
  unfold RV.val RV.cells
  dsimp only at * 
  have bn5 : (m5 != u5) = true := by simpa using hne
  have bd5 : decide (m5 = u5) = false := by simpa using hne
  obtain ⟨w1, hw1⟩ : ∃ w1, (w.alloc (.cells #[.int .i64 m0, .int .i64 m1, .int .i64 m2, .slice A1 n c1, .slice B1 k1n d1n, .int .i64 m5, .int .i64 m6, .int .i64 m7, .int .i64 m8] MT)).alloc (.cells #[.int .i64 m0, .int .i64 m1, .int .i64 m2, .slice A2 n2 c2, .slice B2 k2n d2n, .int .i64 u5, .int .i64 u6, .int .i64 u7, .int .i64 u8] MT) = w1 := ⟨_, rfl⟩
  have hq1 : Q w w1 := by rw [← hw1]; exact ((Q.refl w).alloc _).alloc _
  have hs1 : w.heap.size + 1 < w1.heap.size := by rw [← hw1]; simp
  have hs0 : w.heap.size < w1.heap.size := by omega
  have q0 : w1.heap[w.heap.size]? = some (.cells #[.int .i64 m0, .int .i64 m1, .int .i64 m2, .slice A1 n c1, .slice B1 k1n d1n, .int .i64 m5, .int .i64 m6, .int .i64 m7, .int .i64 m8] MT (0, 0)) := by
    rw [← hw1, ((Q.refl (w.alloc _)).alloc _).below.block _ (by simp)]
    exact heap_alloc_new w _
  have q1 : w1.heap[w.heap.size + 1]? = some (.cells #[.int .i64 m0, .int .i64 m1, .int .i64 m2, .slice A2 n2 c2, .slice B2 k2n d2n, .int .i64 u5, .int .i64 u6, .int .i64 u7, .int .i64 u8] MT (0, 0)) := by
    have h := heap_alloc_new (w.alloc (.cells #[.int .i64 m0, .int .i64 m1, .int .i64 m2, .slice A1 n c1, .slice B1 k1n d1n, .int .i64 m5, .int .i64 m6, .int .i64 m7, .int .i64 m8] MT)) (.cells #[.int .i64 m0, .int .i64 m1, .int .i64 m2, .slice A2 n2 c2, .slice B2 k2n d2n, .int .i64 u5, .int .i64 u6, .int .i64 u7, .int .i64 u8] MT)
    rw [show (w.alloc (.cells #[.int .i64 m0, .int .i64 m1, .int .i64 m2, .slice A1 n c1, .slice B1 k1n d1n, .int .i64 m5, .int .i64 m6, .int .i64 m7, .int .i64 m8] MT)).heap.size = w.heap.size + 1 by simp, hw1] at h
    exact h
  have HW1 := hide hw1
  have HR0 := hide q0
  have HR1 := hide q1
  have HQ1 := hide hq1
  obtain ⟨k0, k1, k2, k3, k4, k5, k6, k7, k8⟩ := cells9 q0
  obtain ⟨z0, z1, z2, z3, z4, z5, z6, z7, z8⟩ := cells9 q1
  clear hw1 hq1 q0 q1 H K N M hne
  go_enter Tryz.func14, Tryz.ntmps14
  go_upto_region 1 with fail
  rw [HW1.out]
  go_wp2_with fail
  go_ret
  exact ⟨rfl, HQ1.out⟩
set_option maxRecDepth 100000 in
set_option maxHeartbeats 8000000 in
theorem rSame_peak (v u : RV) (w : World) (H : RmR w v) (K : RmR w u) (N : RmN v.m) (M : RmN u.m) (h0 : v.m.kind = u.m.kind) (h1 : v.m.size = u.m.size) (h2 : v.m.piece = u.m.piece) (e5 : v.m.top = u.m.top) (hne : ¬ v.m.peak = u.m.peak) :
    Calls Tryz.prog 14 #[v.val, u.val] w fun e w' => e = .returned (.bool false) ∧ Q w w' := by
  obtain ⟨A1, n, c1, B1, k1n, d1n, ⟨m0, m1, m2, bl, ys, m5, m6, m7, m8⟩⟩ := v
  obtain ⟨A2, n2, c2, B2, k2n, d2n, ⟨x0, x1, x2, b2l, y2s, u5, u6, u7, u8⟩⟩ := u
  obtain rfl : m0 = x0 := h0
  obtain rfl : m1 = x1 := h1
  obtain rfl : m2 = x2 := h2
  unfold RV.val RV.cells
  dsimp only at * 
  have bn5 : (m5 != u5) = false := by simpa using e5
  have bd5 : decide (m5 = u5) = true := by simpa using e5
  have bn6 : (m6 != u6) = true := by simpa using hne
  have bd6 : decide (m6 = u6) = false := by simpa using hne
  obtain ⟨w1, hw1⟩ : ∃ w1, (w.alloc (.cells #[.int .i64 m0, .int .i64 m1, .int .i64 m2, .slice A1 n c1, .slice B1 k1n d1n, .int .i64 m5, .int .i64 m6, .int .i64 m7, .int .i64 m8] MT)).alloc (.cells #[.int .i64 m0, .int .i64 m1, .int .i64 m2, .slice A2 n2 c2, .slice B2 k2n d2n, .int .i64 u5, .int .i64 u6, .int .i64 u7, .int .i64 u8] MT) = w1 := ⟨_, rfl⟩
  have hq1 : Q w w1 := by rw [← hw1]; exact ((Q.refl w).alloc _).alloc _
  have hs1 : w.heap.size + 1 < w1.heap.size := by rw [← hw1]; simp
  have hs0 : w.heap.size < w1.heap.size := by omega
  have q0 : w1.heap[w.heap.size]? = some (.cells #[.int .i64 m0, .int .i64 m1, .int .i64 m2, .slice A1 n c1, .slice B1 k1n d1n, .int .i64 m5, .int .i64 m6, .int .i64 m7, .int .i64 m8] MT (0, 0)) := by
    rw [← hw1, ((Q.refl (w.alloc _)).alloc _).below.block _ (by simp)]
    exact heap_alloc_new w _
  have q1 : w1.heap[w.heap.size + 1]? = some (.cells #[.int .i64 m0, .int .i64 m1, .int .i64 m2, .slice A2 n2 c2, .slice B2 k2n d2n, .int .i64 u5, .int .i64 u6, .int .i64 u7, .int .i64 u8] MT (0, 0)) := by
    have h := heap_alloc_new (w.alloc (.cells #[.int .i64 m0, .int .i64 m1, .int .i64 m2, .slice A1 n c1, .slice B1 k1n d1n, .int .i64 m5, .int .i64 m6, .int .i64 m7, .int .i64 m8] MT)) (.cells #[.int .i64 m0, .int .i64 m1, .int .i64 m2, .slice A2 n2 c2, .slice B2 k2n d2n, .int .i64 u5, .int .i64 u6, .int .i64 u7, .int .i64 u8] MT)
    rw [show (w.alloc (.cells #[.int .i64 m0, .int .i64 m1, .int .i64 m2, .slice A1 n c1, .slice B1 k1n d1n, .int .i64 m5, .int .i64 m6, .int .i64 m7, .int .i64 m8] MT)).heap.size = w.heap.size + 1 by simp, hw1] at h
    exact h
  have HW1 := hide hw1
  have HR0 := hide q0
  have HR1 := hide q1
  have HQ1 := hide hq1
  obtain ⟨k0, k1, k2, k3, k4, k5, k6, k7, k8⟩ := cells9 q0
  obtain ⟨z0, z1, z2, z3, z4, z5, z6, z7, z8⟩ := cells9 q1
  clear hw1 hq1 q0 q1 H K N M hne e5
  go_enter Tryz.func14, Tryz.ntmps14
  go_upto_region 1 with fail
  rw [HW1.out]
  go_wp2_with fail
  go_ret
  exact ⟨rfl, HQ1.out⟩
set_option maxRecDepth 100000 in
set_option maxHeartbeats 8000000 in
theorem rSame_calls (v u : RV) (w : World) (H : RmR w v) (K : RmR w u) (N : RmN v.m) (M : RmN u.m) (h0 : v.m.kind = u.m.kind) (h1 : v.m.size = u.m.size) (h2 : v.m.piece = u.m.piece) (e5 : v.m.top = u.m.top) (e6 : v.m.peak = u.m.peak) (hne : ¬ v.m.calls = u.m.calls) :
    Calls Tryz.prog 14 #[v.val, u.val] w fun e w' => e = .returned (.bool false) ∧ Q w w' := by
  obtain ⟨A1, n, c1, B1, k1n, d1n, ⟨m0, m1, m2, bl, ys, m5, m6, m7, m8⟩⟩ := v
  obtain ⟨A2, n2, c2, B2, k2n, d2n, ⟨x0, x1, x2, b2l, y2s, u5, u6, u7, u8⟩⟩ := u
  obtain rfl : m0 = x0 := h0
  obtain rfl : m1 = x1 := h1
  obtain rfl : m2 = x2 := h2
  unfold RV.val RV.cells
  dsimp only at * 
  have bn5 : (m5 != u5) = false := by simpa using e5
  have bd5 : decide (m5 = u5) = true := by simpa using e5
  have bn6 : (m6 != u6) = false := by simpa using e6
  have bd6 : decide (m6 = u6) = true := by simpa using e6
  have bn7 : (m7 != u7) = true := by simpa using hne
  have bd7 : decide (m7 = u7) = false := by simpa using hne
  obtain ⟨w1, hw1⟩ : ∃ w1, (w.alloc (.cells #[.int .i64 m0, .int .i64 m1, .int .i64 m2, .slice A1 n c1, .slice B1 k1n d1n, .int .i64 m5, .int .i64 m6, .int .i64 m7, .int .i64 m8] MT)).alloc (.cells #[.int .i64 m0, .int .i64 m1, .int .i64 m2, .slice A2 n2 c2, .slice B2 k2n d2n, .int .i64 u5, .int .i64 u6, .int .i64 u7, .int .i64 u8] MT) = w1 := ⟨_, rfl⟩
  have hq1 : Q w w1 := by rw [← hw1]; exact ((Q.refl w).alloc _).alloc _
  have hs1 : w.heap.size + 1 < w1.heap.size := by rw [← hw1]; simp
  have hs0 : w.heap.size < w1.heap.size := by omega
  have q0 : w1.heap[w.heap.size]? = some (.cells #[.int .i64 m0, .int .i64 m1, .int .i64 m2, .slice A1 n c1, .slice B1 k1n d1n, .int .i64 m5, .int .i64 m6, .int .i64 m7, .int .i64 m8] MT (0, 0)) := by
    rw [← hw1, ((Q.refl (w.alloc _)).alloc _).below.block _ (by simp)]
    exact heap_alloc_new w _
  have q1 : w1.heap[w.heap.size + 1]? = some (.cells #[.int .i64 m0, .int .i64 m1, .int .i64 m2, .slice A2 n2 c2, .slice B2 k2n d2n, .int .i64 u5, .int .i64 u6, .int .i64 u7, .int .i64 u8] MT (0, 0)) := by
    have h := heap_alloc_new (w.alloc (.cells #[.int .i64 m0, .int .i64 m1, .int .i64 m2, .slice A1 n c1, .slice B1 k1n d1n, .int .i64 m5, .int .i64 m6, .int .i64 m7, .int .i64 m8] MT)) (.cells #[.int .i64 m0, .int .i64 m1, .int .i64 m2, .slice A2 n2 c2, .slice B2 k2n d2n, .int .i64 u5, .int .i64 u6, .int .i64 u7, .int .i64 u8] MT)
    rw [show (w.alloc (.cells #[.int .i64 m0, .int .i64 m1, .int .i64 m2, .slice A1 n c1, .slice B1 k1n d1n, .int .i64 m5, .int .i64 m6, .int .i64 m7, .int .i64 m8] MT)).heap.size = w.heap.size + 1 by simp, hw1] at h
    exact h
  have HW1 := hide hw1
  have HR0 := hide q0
  have HR1 := hide q1
  have HQ1 := hide hq1
  obtain ⟨k0, k1, k2, k3, k4, k5, k6, k7, k8⟩ := cells9 q0
  obtain ⟨z0, z1, z2, z3, z4, z5, z6, z7, z8⟩ := cells9 q1
  clear hw1 hq1 q0 q1 H K N M hne e5 e6
  go_enter Tryz.func14, Tryz.ntmps14
  go_upto_region 1 with fail
  rw [HW1.out]
  go_wp2_with fail
  go_ret
  exact ⟨rfl, HQ1.out⟩
set_option maxRecDepth 100000 in
set_option maxHeartbeats 8000000 in
theorem rSame_fail (v u : RV) (w : World) (H : RmR w v) (K : RmR w u) (N : RmN v.m) (M : RmN u.m) (h0 : v.m.kind = u.m.kind) (h1 : v.m.size = u.m.size) (h2 : v.m.piece = u.m.piece) (e5 : v.m.top = u.m.top) (e6 : v.m.peak = u.m.peak) (e7 : v.m.calls = u.m.calls) (hne : ¬ v.m.fail = u.m.fail) :
    Calls Tryz.prog 14 #[v.val, u.val] w fun e w' => e = .returned (.bool false) ∧ Q w w' := by
  obtain ⟨A1, n, c1, B1, k1n, d1n, ⟨m0, m1, m2, bl, ys, m5, m6, m7, m8⟩⟩ := v
  obtain ⟨A2, n2, c2, B2, k2n, d2n, ⟨x0, x1, x2, b2l, y2s, u5, u6, u7, u8⟩⟩ := u
  obtain rfl : m0 = x0 := h0
  obtain rfl : m1 = x1 := h1
  obtain rfl : m2 = x2 := h2
  unfold RV.val RV.cells
  dsimp only at * 
  have bn5 : (m5 != u5) = false := by simpa using e5
  have bd5 : decide (m5 = u5) = true := by simpa using e5
  have bn6 : (m6 != u6) = false := by simpa using e6
  have bd6 : decide (m6 = u6) = true := by simpa using e6
  have bn7 : (m7 != u7) = false := by simpa using e7
  have bd7 : decide (m7 = u7) = true := by simpa using e7
  have bn8 : (m8 != u8) = true := by simpa using hne
  have bd8 : decide (m8 = u8) = false := by simpa using hne
  obtain ⟨w1, hw1⟩ : ∃ w1, (w.alloc (.cells #[.int .i64 m0, .int .i64 m1, .int .i64 m2, .slice A1 n c1, .slice B1 k1n d1n, .int .i64 m5, .int .i64 m6, .int .i64 m7, .int .i64 m8] MT)).alloc (.cells #[.int .i64 m0, .int .i64 m1, .int .i64 m2, .slice A2 n2 c2, .slice B2 k2n d2n, .int .i64 u5, .int .i64 u6, .int .i64 u7, .int .i64 u8] MT) = w1 := ⟨_, rfl⟩
  have hq1 : Q w w1 := by rw [← hw1]; exact ((Q.refl w).alloc _).alloc _
  have hs1 : w.heap.size + 1 < w1.heap.size := by rw [← hw1]; simp
  have hs0 : w.heap.size < w1.heap.size := by omega
  have q0 : w1.heap[w.heap.size]? = some (.cells #[.int .i64 m0, .int .i64 m1, .int .i64 m2, .slice A1 n c1, .slice B1 k1n d1n, .int .i64 m5, .int .i64 m6, .int .i64 m7, .int .i64 m8] MT (0, 0)) := by
    rw [← hw1, ((Q.refl (w.alloc _)).alloc _).below.block _ (by simp)]
    exact heap_alloc_new w _
  have q1 : w1.heap[w.heap.size + 1]? = some (.cells #[.int .i64 m0, .int .i64 m1, .int .i64 m2, .slice A2 n2 c2, .slice B2 k2n d2n, .int .i64 u5, .int .i64 u6, .int .i64 u7, .int .i64 u8] MT (0, 0)) := by
    have h := heap_alloc_new (w.alloc (.cells #[.int .i64 m0, .int .i64 m1, .int .i64 m2, .slice A1 n c1, .slice B1 k1n d1n, .int .i64 m5, .int .i64 m6, .int .i64 m7, .int .i64 m8] MT)) (.cells #[.int .i64 m0, .int .i64 m1, .int .i64 m2, .slice A2 n2 c2, .slice B2 k2n d2n, .int .i64 u5, .int .i64 u6, .int .i64 u7, .int .i64 u8] MT)
    rw [show (w.alloc (.cells #[.int .i64 m0, .int .i64 m1, .int .i64 m2, .slice A1 n c1, .slice B1 k1n d1n, .int .i64 m5, .int .i64 m6, .int .i64 m7, .int .i64 m8] MT)).heap.size = w.heap.size + 1 by simp, hw1] at h
    exact h
  have HW1 := hide hw1
  have HR0 := hide q0
  have HR1 := hide q1
  have HQ1 := hide hq1
  obtain ⟨k0, k1, k2, k3, k4, k5, k6, k7, k8⟩ := cells9 q0
  obtain ⟨z0, z1, z2, z3, z4, z5, z6, z7, z8⟩ := cells9 q1
  clear hw1 hq1 q0 q1 H K N M hne e5 e6 e7
  go_enter Tryz.func14, Tryz.ntmps14
  go_upto_region 1 with fail
  rw [HW1.out]
  go_wp2_with fail
  go_ret
  exact ⟨rfl, HQ1.out⟩
set_option maxRecDepth 100000 in
set_option maxHeartbeats 8000000 in
theorem rSame_len (v u : RV) (w : World) (H : RmR w v) (K : RmR w u) (N : RmN v.m) (M : RmN u.m) (h0 : v.m.kind = u.m.kind) (h1 : v.m.size = u.m.size) (h2 : v.m.piece = u.m.piece) (e5 : v.m.top = u.m.top) (e6 : v.m.peak = u.m.peak) (e7 : v.m.calls = u.m.calls) (e8 : v.m.fail = u.m.fail) (hne : ¬ v.n = u.n) :
    Calls Tryz.prog 14 #[v.val, u.val] w fun e w' => e = .returned (.bool false) ∧ Q w w' := by
  obtain ⟨A1, n, c1, B1, k1n, d1n, ⟨m0, m1, m2, bl, ys, m5, m6, m7, m8⟩⟩ := v
  obtain ⟨A2, n2, c2, B2, k2n, d2n, ⟨x0, x1, x2, b2l, y2s, u5, u6, u7, u8⟩⟩ := u
  obtain rfl : m0 = x0 := h0
  obtain rfl : m1 = x1 := h1
  obtain rfl : m2 = x2 := h2
  unfold RV.val RV.cells
  have hnl := H.b.len
  have hnl2 := K.b.len
  have hn := N.n
  have hn2 := M.n
  dsimp only at * 
  have bn5 : (m5 != u5) = false := by simpa using e5
  have bd5 : decide (m5 = u5) = true := by simpa using e5
  have bn6 : (m6 != u6) = false := by simpa using e6
  have bd6 : decide (m6 = u6) = true := by simpa using e6
  have bn7 : (m7 != u7) = false := by simpa using e7
  have bd7 : decide (m7 = u7) = true := by simpa using e7
  have bn8 : (m8 != u8) = false := by simpa using e8
  have bd8 : decide (m8 = u8) = true := by simpa using e8
  have bnn : ((n : Int) != (n2 : Int)) = true := by simp; omega
  have bdn : decide (n = n2) = false := by simp; omega
  have hni : (n : Int) ≤ 100 := by omega
  have hni2 : (n2 : Int) ≤ 100 := by omega
  obtain ⟨w1, hw1⟩ : ∃ w1, (w.alloc (.cells #[.int .i64 m0, .int .i64 m1, .int .i64 m2, .slice A1 n c1, .slice B1 k1n d1n, .int .i64 m5, .int .i64 m6, .int .i64 m7, .int .i64 m8] MT)).alloc (.cells #[.int .i64 m0, .int .i64 m1, .int .i64 m2, .slice A2 n2 c2, .slice B2 k2n d2n, .int .i64 u5, .int .i64 u6, .int .i64 u7, .int .i64 u8] MT) = w1 := ⟨_, rfl⟩
  have hq1 : Q w w1 := by rw [← hw1]; exact ((Q.refl w).alloc _).alloc _
  have hs1 : w.heap.size + 1 < w1.heap.size := by rw [← hw1]; simp
  have hs0 : w.heap.size < w1.heap.size := by omega
  have q0 : w1.heap[w.heap.size]? = some (.cells #[.int .i64 m0, .int .i64 m1, .int .i64 m2, .slice A1 n c1, .slice B1 k1n d1n, .int .i64 m5, .int .i64 m6, .int .i64 m7, .int .i64 m8] MT (0, 0)) := by
    rw [← hw1, ((Q.refl (w.alloc _)).alloc _).below.block _ (by simp)]
    exact heap_alloc_new w _
  have q1 : w1.heap[w.heap.size + 1]? = some (.cells #[.int .i64 m0, .int .i64 m1, .int .i64 m2, .slice A2 n2 c2, .slice B2 k2n d2n, .int .i64 u5, .int .i64 u6, .int .i64 u7, .int .i64 u8] MT (0, 0)) := by
    have h := heap_alloc_new (w.alloc (.cells #[.int .i64 m0, .int .i64 m1, .int .i64 m2, .slice A1 n c1, .slice B1 k1n d1n, .int .i64 m5, .int .i64 m6, .int .i64 m7, .int .i64 m8] MT)) (.cells #[.int .i64 m0, .int .i64 m1, .int .i64 m2, .slice A2 n2 c2, .slice B2 k2n d2n, .int .i64 u5, .int .i64 u6, .int .i64 u7, .int .i64 u8] MT)
    rw [show (w.alloc (.cells #[.int .i64 m0, .int .i64 m1, .int .i64 m2, .slice A1 n c1, .slice B1 k1n d1n, .int .i64 m5, .int .i64 m6, .int .i64 m7, .int .i64 m8] MT)).heap.size = w.heap.size + 1 by simp, hw1] at h
    exact h
  have HW1 := hide hw1
  have HR0 := hide q0
  have HR1 := hide q1
  have HQ1 := hide hq1
  obtain ⟨k0, k1, k2, k3, k4, k5, k6, k7, k8⟩ := cells9 q0
  obtain ⟨z0, z1, z2, z3, z4, z5, z6, z7, z8⟩ := cells9 q1
  clear hw1 hq1 q0 q1 H K N M hne e5 e6 e7 e8 hnl hnl2 hn hn2
  go_enter Tryz.func14, Tryz.ntmps14
  go_upto_region 1 with fail
  rw [HW1.out]
  go_wp2_with fail
  go_ret
  exact ⟨rfl, HQ1.out⟩
set_option maxRecDepth 100000 in
set_option maxHeartbeats 8000000 in
open Classical in
theorem rSame_rest (v u : RV) (w : World) (H : RmR w v) (K : RmR w u) (N : RmN v.m) (M : RmN u.m) (h0 : v.m.kind = u.m.kind) (h1 : v.m.size = u.m.size) (h2 : v.m.piece = u.m.piece) (e5 : v.m.top = u.m.top) (e6 : v.m.peak = u.m.peak) (e7 : v.m.calls = u.m.calls) (e8 : v.m.fail = u.m.fail) (hln : v.n = u.n) :
    Calls Tryz.prog 14 #[v.val, u.val] w fun e w' => e = .returned (.bool (decide (v.m.bl = u.m.bl) && decide (∀ p ∈ v.m.bl, sameY v.m.ys u.m.ys p))) ∧ Q w w' := by
  obtain ⟨A1, n, c1, B1, k1n, d1n, ⟨m0, m1, m2, bl, ys, m5, m6, m7, m8⟩⟩ := v
  obtain ⟨A2, n2, c2, B2, k2n, d2n, ⟨x0, x1, x2, b2l, y2s, u5, u6, u7, u8⟩⟩ := u
  obtain rfl : m0 = x0 := h0
  obtain rfl : m1 = x1 := h1
  obtain rfl : m2 = x2 := h2
  unfold RV.val RV.cells
  have hnl := H.b.len
  have hnl2 := K.b.len
  have hyl := H.y.len
  have hyl2 := K.y.len
  have hn := N.n
  have hk := N.k
  have hk2 := M.k
  have hsz := N.sz
  have HP := hide N.all
  have HSA := hide H.b
  have HSB := hide K.b
  have HYA := hide H.y
  have HYB := hide K.y
  dsimp only at *
  obtain rfl : n = n2 := hln
  subst e5 e6 e7 e8
  obtain ⟨R, hR⟩ : ∃ R, R = (decide (bl = b2l) && decide (∀ p ∈ bl, sameY ys y2s p)) := ⟨_, rfl⟩
  rw [← hR]
  have HR := hide hR
  have HL := hide hnl
  have HL2 := hide hnl2
  have hni : (n : Int) ≤ 100 := by omega
  have hm11 : m1 ≤ 4096 := hsz.2
  have hkk : k1n = m1.toNat ∧ k2n = m1.toNat := by omega
  have HKK := hide hkk
  have bn5 : (m5 != m5) = false := by simp
  have bn6 : (m6 != m6) = false := by simp
  have bn7 : (m7 != m7) = false := by simp
  have bn8 : (m8 != m8) = false := by simp
  have bnn : ((n : Int) != (n : Int)) = false := by simp
  obtain ⟨w1, hw1⟩ : ∃ w1, (w.alloc (.cells #[.int .i64 m0, .int .i64 m1, .int .i64 m2, .slice A1 n c1, .slice B1 k1n d1n, .int .i64 m5, .int .i64 m6, .int .i64 m7, .int .i64 m8] MT)).alloc (.cells #[.int .i64 m0, .int .i64 m1, .int .i64 m2, .slice A2 n c2, .slice B2 k2n d2n, .int .i64 m5, .int .i64 m6, .int .i64 m7, .int .i64 m8] MT) = w1 := ⟨_, rfl⟩
  have hq1 : Q w w1 := by rw [← hw1]; exact ((Q.refl w).alloc _).alloc _
  have hs1 : w.heap.size + 1 < w1.heap.size := by rw [← hw1]; simp
  have hs0 : w.heap.size < w1.heap.size := by omega
  have q0 : w1.heap[w.heap.size]? = some (.cells #[.int .i64 m0, .int .i64 m1, .int .i64 m2, .slice A1 n c1, .slice B1 k1n d1n, .int .i64 m5, .int .i64 m6, .int .i64 m7, .int .i64 m8] MT (0, 0)) := by
    rw [← hw1, ((Q.refl (w.alloc _)).alloc _).below.block _ (by simp)]
    exact heap_alloc_new w _
  have q1 : w1.heap[w.heap.size + 1]? = some (.cells #[.int .i64 m0, .int .i64 m1, .int .i64 m2, .slice A2 n c2, .slice B2 k2n d2n, .int .i64 m5, .int .i64 m6, .int .i64 m7, .int .i64 m8] MT (0, 0)) := by
    have h := heap_alloc_new (w.alloc (.cells #[.int .i64 m0, .int .i64 m1, .int .i64 m2, .slice A1 n c1, .slice B1 k1n d1n, .int .i64 m5, .int .i64 m6, .int .i64 m7, .int .i64 m8] MT)) (.cells #[.int .i64 m0, .int .i64 m1, .int .i64 m2, .slice A2 n c2, .slice B2 k2n d2n, .int .i64 m5, .int .i64 m6, .int .i64 m7, .int .i64 m8] MT)
    rw [show (w.alloc (.cells #[.int .i64 m0, .int .i64 m1, .int .i64 m2, .slice A1 n c1, .slice B1 k1n d1n, .int .i64 m5, .int .i64 m6, .int .i64 m7, .int .i64 m8] MT)).heap.size = w.heap.size + 1 by simp, hw1] at h
    exact h
  have HW1 := hide hw1
  have HR0 := hide q0
  have HR1 := hide q1
  have HQ1 := hide hq1
  obtain ⟨k0, k1, k2, k3, k4, k5, k6, k7, k8⟩ := cells9 q0
  obtain ⟨z0, z1, z2, z3, z4, z5, z6, z7, z8⟩ := cells9 q1
  clear hw1 hq1 q0 q1 H K N M hR hnl hnl2 hyl hyl2 hn hk hk2 hsz hkk
  go_enter Tryz.func14, Tryz.ntmps14
  go_upto_region 1 with fail
  rw [HW1.out]
  go_wp2_with fail
  go_loopw [5] (fun vi wr => ∃ i : Nat, i ≤ n ∧ vi = .int .i64 (i : Int) ∧ Hid (∀ j : Nat, j < i → bl[j]? = b2l[j]? ∧ ∀ p, bl[j]? = some p → sameY ys y2s p) ∧ Q w1 wr) (fun vi _ => n - (intOf vi).toNat)
  case atStart => exact ⟨0, by omega, by go_num, fun j hj => by omega, Q.refl _⟩
  case round =>
    obtain ⟨i, hi, rfl, HALL, hq⟩ := hrel
    have q0 := (hq.below.block _ hs0).trans HR0.out
    have q1 := (hq.below.block _ hs1).trans HR1.out
    obtain ⟨k0, k1, k2, k3, k4, k5, k6, k7, k8⟩ := cells9 q0
    obtain ⟨z0, z1, z2, z3, z4, z5, z6, z7, z8⟩ := cells9 q1
    have hsr := hq.size
    have hsg0 : w.heap.size < wr.heap.size := by omega
    have hsg1 : w.heap.size + 1 < wr.heap.size := by omega
    have HQ := hide hq
    by_cases hlt : i < n
    · have hd1 : decide ((i : Int) < (n : Int)) = true := by simp; omega
      have hd0 : decide (i < n) = true := by simp; omega
      have hlti : (i : Int) < (n : Int) := by omega
      obtain ⟨bA, oA, x, y, rfl, hbA, g1, xa, xb⟩ := (HSA.out.up (HQ1.out.trans hq)).pr i hlt
      obtain ⟨bB, oB, x', y', rfl, hbB, g2, ya, yb⟩ := (HSB.out.up (HQ1.out.trans hq)).pr i hlt
      have hpr := HP.out _ (List.mem_of_getElem? g1)
      dsimp only at hpr
      obtain ⟨hx0, hy0, hxy⟩ := hpr
      have G1 := hide g1
      have G2 := hide g2
      have hnp := neq_pairG
      by_cases hpe : x = x' ∧ y = y'
      · obtain ⟨rfl, rfl⟩ := hpe
        have bxx : (x == x) = true := by simp
        have byy : (y == y) = true := by simp
        obtain ⟨xN, rfl⟩ : ∃ xN : Nat, x = (xN : Int) := ⟨x.toNat, by omega⟩
        obtain ⟨yN, rfl⟩ : ∃ yN : Nat, y = (yN : Int) := ⟨y.toNat, by omega⟩
        have hxyk : xN + yN ≤ k1n ∧ xN + yN ≤ k2n := by have := HKK.out; omega
        clear g1 g2 q0 q1 hq
        go_wp2_with fail
        have hxc := ext_cell
        refine wp_region_ext (by kernel_rfl) (by kernel_rfl) ?_
        repeat (go_big_quiet_step ((fail)))
        clear hxc
        refine wpQuiet_nil ?_
        intro w3 hww3
        have hqw3 := q_of_ext hww3
        clear hww3
        obtain ⟨hcw3, hfw3, hzw3⟩ := hqw3.facts
        try simp at hzw3
        try have hs0w3 : w.heap.size < w3.heap.size := by omega
        try have hs1w3 : w.heap.size + 1 < w3.heap.size := by omega
        clear k0 k1 k2 k3 k4 k5 k6 k7 k8 z0 z1 z2 z3 z4 z5 z6 z7 z8 hcw3 hfw3
        have HQ3 := hide (HQ.out.trans hqw3)
        have q0 := (HQ3.out.below.block _ hs0).trans HR0.out
        have q1 := (HQ3.out.below.block _ hs1).trans HR1.out
        have hsw3 := hqw3.size
        have hs03 := blk_lt q0
        have hs13 := blk_lt q1
        have k3 : w3.cell? ⟨w.heap.size, 3, none⟩ = some (.slice (some ⟨bA, oA, none⟩) n c1) := (cell_of_row _ _ _ _ _ _ q0).trans rfl
        have xa3 := (hqw3.facts.1 bA _ hbA).trans xa
        have xb3 := (hqw3.facts.1 bA _ hbA).trans xb
        have hbA3 : bA < w3.heap.size := by omega
        have HXA := hide xa3
        have HXB := hide xb3
        have HQ0 := hide q0
        have HQ13 := hide q1
        clear q0 q1 hqw3 xa xb ya yb xb3
        go_wp2_with fail
        clear k3 xa3
        go_loopw [6] (fun vk wr => ∃ t : Nat, t ≤ yN ∧ vk = .int .i64 ((xN + t : Nat) : Int) ∧ Hid (∀ k : Nat, xN ≤ k → k < xN + t → ys[k]? = y2s[k]?) ∧ Q w3 wr) (fun vk _ => xN + yN - (intOf vk).toNat)
        case atStart => exact ⟨0, by omega, by simp, fun k h1 h2 => by omega, Q.refl _⟩
        case round =>
          obtain ⟨t, ht, rfl, HEQ, hqk⟩ := hrel
          obtain ⟨kk, hkk⟩ : ∃ kk, kk = xN + t := ⟨_, rfl⟩
          rw [← hkk]
          have q0 := (hqk.below.block _ hs03).trans HQ0.out
          have q1 := (hqk.below.block _ hs13).trans HQ13.out
          have hsk0 := blk_lt q0
          have hsk1 := blk_lt q1
          have k3 : wr.cell? ⟨w.heap.size, 3, none⟩ = some (.slice (some ⟨bA, oA, none⟩) n c1) := (cell_of_row _ _ _ _ _ _ q0).trans rfl
          have xa4 := (hqk.facts.1 bA _ hbA3).trans HXA.out
          have xb4 := (hqk.facts.1 bA _ hbA3).trans HXB.out
          have hbA4 : bA < wr.heap.size := by have := hqk.size; omega
          have HQK := hide hqk
          have HKD := hide hkk
          by_cases hlt2 : kk < xN + yN
          · have hd3 : decide ((kk : Int) < (xN : Int) + (yN : Int)) = true := by simp; omega
            have hd4 : decide (kk < xN + yN) = true := by simpa using hlt2
            obtain ⟨b3, o3, v3, rfl, hb3, hv3, hc3⟩ := (HYA.out.up ((HQ1.out.trans HQ3.out).trans hqk)).nu kk (by omega)
            obtain ⟨b4, o4, v4, rfl, hb4, hv4, hc4⟩ := (HYB.out.up ((HQ1.out.trans HQ3.out).trans hqk)).nu kk (by omega)
            have k4 : wr.cell? ⟨w.heap.size, 4, none⟩ = some (.slice (some ⟨b3, o3, none⟩) k1n d1n) := (cell_of_row _ _ _ _ _ _ q0).trans rfl
            have z4 : wr.cell? ⟨w.heap.size + 1, 4, none⟩ = some (.slice (some ⟨b4, o4, none⟩) k2n d2n) := (cell_of_row _ _ _ _ _ _ q1).trans rfl
            have hk1i : (kk : Int) < (k1n : Int) := by omega
            have hk2i : (kk : Int) < (k2n : Int) := by omega
            have hk1d : decide (kk < k1n) = true := by simp; omega
            have hk2d : decide (kk < k2n) = true := by simp; omega
            have hk1n : kk < k1n := by omega
            have hk2n : kk < k2n := by omega
            have HV3 := hide hv3
            have HV4 := hide hv4
            by_cases hve : v3 = v4
            · subst hve
              have bvv : (v3 != v3) = false := by simp
              have HEQ2 : Hid (∀ k : Nat, xN ≤ k → k < xN + (t + 1) → ys[k]? = y2s[k]?) := fun k h1 h2 => by
                by_cases e : k = kk
                · rw [e, HV3.out, HV4.out]
                · exact HEQ.out k h1 (by have := HKD.out; omega)
              clear q0 q1 hqk hv3 hv4 hkk
              go_wp2_with fail
              have hxc := ext_cell
              refine wp_region_ext (by kernel_rfl) (by kernel_rfl) ?_
              repeat (go_big_quiet_step ((fail)))
              clear hxc
              refine wpQuiet_nil ?_
              intro w4 hww4
              have hqw4 := q_of_ext hww4
              clear hww4
              obtain ⟨hcw4, hfw4, hzw4⟩ := hqw4.facts
              try simp at hzw4
              try have hs0w4 : w.heap.size < w4.heap.size := by omega
              try have hs1w4 : w.heap.size + 1 < w4.heap.size := by omega
              have hb34 : b3 < w4.heap.size := by omega
              have hb44 : b4 < w4.heap.size := by omega
              go_wp2_with fail
              have hxc := ext_cell
              refine wp_region_ext (by kernel_rfl) (by kernel_rfl) ?_
              repeat (go_big_quiet_step ((fail)))
              clear hxc
              refine wpQuiet_nil ?_
              intro w5 hww5
              have hqw5 := q_of_ext hww5
              clear hww5
              obtain ⟨hcw5, hfw5, hzw5⟩ := hqw5.facts
              try simp at hzw5
              try have hs0w5 : w.heap.size < w5.heap.size := by omega
              try have hs1w5 : w.heap.size + 1 < w5.heap.size := by omega
              go_wp2_with fail
              go_roundw
              case rel => exact ⟨t + 1, by have := HKD.out; omega, by rw [HKD.out]; go_num, HEQ2, HQK.out.trans (hqw4.trans hqw5)⟩
              case measure => simp [intOf] <;> omega
            · have bvv : (v3 != v4) = true := by simpa using hve
              have dvv : decide (v3 = v4) = false := by simpa using hve
              have HF : Hid (R = false) := by
                rw [HR.out, Bool.and_eq_false_iff]
                refine hide (.inr ?_)
                rw [decide_eq_false_iff_not]
                intro e
                have h := e _ (List.mem_of_getElem? G1.out) kk (by have := HKD.out; show (xN : Int) ≤ _; omega) (by show (kk : Int) < (xN : Int) + (yN : Int); omega)
                rw [HV3.out, HV4.out] at h
                cases h
                exact hve rfl
              clear q0 q1 hqk hv3 hv4 hkk hve
              go_wp2_with fail
              have hxc := ext_cell
              refine wp_region_ext (by kernel_rfl) (by kernel_rfl) ?_
              repeat (go_big_quiet_step ((fail)))
              clear hxc
              refine wpQuiet_nil ?_
              intro w4 hww4
              have hqw4 := q_of_ext hww4
              clear hww4
              obtain ⟨hcw4, hfw4, hzw4⟩ := hqw4.facts
              try simp at hzw4
              try have hs0w4 : w.heap.size < w4.heap.size := by omega
              try have hs1w4 : w.heap.size + 1 < w4.heap.size := by omega
              have hb34 : b3 < w4.heap.size := by omega
              have hb44 : b4 < w4.heap.size := by omega
              go_wp2_with fail
              have hxc := ext_cell
              refine wp_region_ext (by kernel_rfl) (by kernel_rfl) ?_
              repeat (go_big_quiet_step ((fail)))
              clear hxc
              refine wpQuiet_nil ?_
              intro w5 hww5
              have hqw5 := q_of_ext hww5
              clear hww5
              obtain ⟨hcw5, hfw5, hzw5⟩ := hqw5.facts
              try simp at hzw5
              try have hs0w5 : w.heap.size < w5.heap.size := by omega
              try have hs1w5 : w.heap.size + 1 < w5.heap.size := by omega
              go_wp2_with fail
              go_ret
              exact ⟨ret_bool HF.out.symm, HQ1.out.trans (HQ3.out.trans (HQK.out.trans (hqw4.trans hqw5)))⟩
          · have hd3 : decide ((kk : Int) < (xN : Int) + (yN : Int)) = false := by simp; omega
            have hd4 : decide (kk < xN + yN) = false := by simpa using hlt2
            have HALL2 : Hid (∀ j : Nat, j < i + 1 → bl[j]? = b2l[j]? ∧ ∀ p, bl[j]? = some p → sameY ys y2s p) := fun j hj => by
              rcases Nat.lt_or_eq_of_le (Nat.le_of_lt_succ hj) with h3 | h3
              · exact HALL.out j h3
              · rw [h3, G1.out, G2.out]
                refine ⟨rfl, fun p hp => ?_⟩
                cases hp
                intro k h1 h2
                dsimp only at h1 h2
                exact HEQ.out k (by omega) (by have := HKD.out; omega)
            clear q0 q1 hqk hkk
            go_wp2_with fail
            have hxc := ext_cell
            refine wp_region_ext (by kernel_rfl) (by kernel_rfl) ?_
            repeat (go_big_quiet_step ((fail)))
            clear hxc
            refine wpQuiet_nil ?_
            intro w4 hww4
            have hqw4 := q_of_ext hww4
            clear hww4
            obtain ⟨hcw4, hfw4, hzw4⟩ := hqw4.facts
            try simp at hzw4
            try have hs0w4 : w.heap.size < w4.heap.size := by omega
            try have hs1w4 : w.heap.size + 1 < w4.heap.size := by omega
            go_wp2_with fail
            go_roundw
            case rel => exact ⟨i + 1, by omega, by go_num, HALL2, HQ3.out.trans (HQK.out.trans hqw4)⟩
            case measure => simp [intOf] <;> omega
      · have bnp : (x == x' && y == y') = false := by
          rw [Bool.and_eq_false_iff, beq_eq_false_iff_ne, beq_eq_false_iff_ne]
          omega
        have HF : Hid (R = false) := by
          rw [HR.out, Bool.and_eq_false_iff]
          refine hide (.inl ?_)
          rw [decide_eq_false_iff_not]
          intro e
          have h := G1.out
          rw [e, G2.out] at h
          cases h
          exact hpe ⟨rfl, rfl⟩
        clear g1 g2 q0 q1 hq hpe
        go_wp2_with fail
        have hxc := ext_cell
        refine wp_region_ext (by kernel_rfl) (by kernel_rfl) ?_
        repeat (go_big_quiet_step ((fail)))
        clear hxc
        refine wpQuiet_nil ?_
        intro w3 hww3
        have hqw3 := q_of_ext hww3
        clear hww3
        obtain ⟨hcw3, hfw3, hzw3⟩ := hqw3.facts
        try simp at hzw3
        try have hs0w3 : w.heap.size < w3.heap.size := by omega
        try have hs1w3 : w.heap.size + 1 < w3.heap.size := by omega
        go_wp2_with fail
        go_ret
        exact ⟨ret_bool HF.out.symm, HQ1.out.trans (HQ.out.trans hqw3)⟩
    · have hd1 : decide ((i : Int) < (n : Int)) = false := by simp; omega
      have hd0 : decide (i < n) = false := by simp; omega
      obtain rfl : i = n := by omega
      have HF : Hid (R = true) := by
        rw [HR.out, Bool.and_eq_true, decide_eq_true_iff, decide_eq_true_iff]
        refine hide ⟨List.ext_getElem? fun j => ?_, fun p hp => ?_⟩
        · rcases Nat.lt_or_ge j i with h | h
          · exact (HALL.out j h).1
          · rw [List.getElem?_eq_none (by have := HL.out; omega), List.getElem?_eq_none (by have := HL2.out; omega)]
        · obtain ⟨j, hj⟩ := List.getElem?_of_mem hp
          exact (HALL.out j (by have := (List.getElem?_eq_some_iff.1 hj).1; have := HL.out; omega)).2 p hj
      clear q0 q1 hq
      go_wp2_with fail
      go_ret
      exact ⟨ret_bool HF.out.symm, HQ1.out.trans HQ.out⟩
end Go.Proofs.YtegpkcbmgjoicaaGreat
