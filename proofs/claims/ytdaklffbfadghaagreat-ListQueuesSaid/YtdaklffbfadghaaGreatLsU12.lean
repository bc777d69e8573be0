/- Get, Keys, Close of a map that is open. Delete and Close of a map that is open; NewMap. Conditions: as each theorem says. -/
import Derived.Test.YtdaklffbfadghaaGreatLsU11
namespace Go.Proofs.YtdaklffbfadghaaGreat
open Go.RowKit HP Go.Maps
set_option linter.unusedVariables false
set_option linter.unusedSimpArgs false
section
variable {w W W2 : World} {h h1 : Hp} {r r1 : Rw} {mb n : Nat} {m : HM} {D : DM} {kv : List (Int × Int)} {v v2 : Value}
/-- what Get says -/
def GetO (kv : List (Int × Int)) (k v : Int) (is : Bool) (err : Int) : Prop :=
  (fitsB k = false ∧ v = 0 ∧ is = false ∧ err = 1) ∨ (fitsB k = true ∧ (∃ i : Nat, kv[i]? = some (k, v)) ∧ is = true ∧ err = 0) ∨ (fitsB k = true ∧ k ∉ keysOf kv ∧ v = 0 ∧ is = false ∧ err = 0)
theorem Wh.no {k : Int} (hW : Wh D (keysOf kv)) (hi : k ∉ keysOf kv) : Maps.has D (.int .i64 k) = false := by
  have := hW.hasK k
  rw [show (keysOf kv).contains k = false by rw [← Bool.not_eq_true, List.contains_iff_mem]; exact hi] at this
  exact this
theorem Wh.yes {k u : Int} {i : Nat} (hW : Wh D (keysOf kv)) (hi : kv[i]? = some (k, u)) : Maps.has D (.int .i64 k) = true := by
  have := hW.hasK k
  rw [show (keysOf kv).contains k = true by rw [List.contains_iff_mem]; exact List.mem_of_getElem? (keys_at hi)] at this
  exact this
set_option maxHeartbeats 4000000 in
set_option maxRecDepth 100000 in
theorem getM_any (L : LR w h r) (S : MapR h.m r kv) (X0 : MS w h r mb w h.m r n D h) (hmo : r.more = [.map (some mb)]) (hW : Wh D (keysOf kv)) (k : Int) :
    Calls Tryz.prog 42 #[r.ptr, .int .i64 k] w fun e w' => ∃ (u : Int) (is : Bool) (err : Int), e = .returned (.tuple #[.int .i64 u, .bool is, .int .i64 err]) ∧ GetO kv k u is err ∧ ∃ h2, MS w h r mb w' h.m r n D h2 := by
  have HAS : Hid (∀ W : World, Q w W → Calls Tryz.prog 71 #[r.ptr, .slice (some ⟨W.heap.size, 0, none⟩) 1 1] (W.alloc (.cells #[.int .i64 k] 3)) fun e w' => e = .returned (.int .i64 (if fitsB k then 0 else 1)) ∧ Q (W.alloc (.cells #[.int .i64 k] 3)) w') := fun W hq => askedM_one L S.op k W hq
  have HRD : Hid (∀ W (i : Nat) u, kv[i]? = some (k, u) → MS w h r mb W h.m r n D h → Calls Tryz.prog 72 #[r.ptr, .int .i64 i] W fun e W' => e = .returned (.agg #[.int .i64 k, .int .i64 u]) ∧ ∃ h2, MS w h r mb W' h.m r n D h2) := fun W i u hi X => by
    have h1 := (List.getElem?_eq_some_iff.1 hi).1
    have h2 := S.le
    have h3 := S.n
    exact X.read2 S.inv i (by omega) (S.kp.row i _ (two_at hi)) (S.bd _ (List.mem_of_getElem? (two_at hi)))
  have HX0 := hide X0
  have HKC : Hid (∀ W, MS w h r mb W h.m r n D h → W.cell? ⟨r.blk, 4, none⟩ = some (.map (some mb)) ∧ r.blk < W.heap.size) := fun W X => ⟨(X.k hmo).2.2.1, (X.k hmo).2.2.2⟩
  have HW := hide hW
  have hle := S.le
  rw [← S.n] at hle
  have hrp : r.ptr = .pointer (some ⟨r.blk, 0, none⟩) := rfl
  rw [hrp] at HAS HRD ⊢
  obtain ⟨b, eb⟩ : ∃ b, b = r.blk := ⟨_, rfl⟩
  rw [← eb] at HAS HRD HKC ⊢
  clear hrp L S hW X0 eb hmo
  cases hf : fitsB k
  · have HF := hide hf
    rw [hf] at HAS
    have HAS : Hid (∀ W : World, Q w W → Calls Tryz.prog 71 #[.pointer (some ⟨b, 0, none⟩), .slice (some ⟨W.heap.size, 0, none⟩) 1 1] (W.alloc (.cells #[.int .i64 k] 3)) fun e w' => e = .returned (.int .i64 1) ∧ Q (W.alloc (.cells #[.int .i64 k] 3)) w') := HAS
    clear hf
    go_enter Tryz.func42, Tryz.ntmps42
    go_wp2_with (go_at_call 71; refine (HAS.out _ (Q.refl _)).mono ?_; rintro e w1 ⟨rfl, hq1⟩)
    refine bodyPost_ret (results_tmp3 rfl _ _) rfl ⟨0, false, 1, rfl, .inl ⟨HF.out, rfl, rfl, rfl⟩, h, HX0.out.q (((Q.refl _).alloc _).trans hq1)⟩
  · have HF := hide hf
    have hkey := keyOf_int_mk Tryz.underlying3 (i64_wf hf)
    rw [hf] at HAS
    have HAS : Hid (∀ W : World, Q w W → Calls Tryz.prog 71 #[.pointer (some ⟨b, 0, none⟩), .slice (some ⟨W.heap.size, 0, none⟩) 1 1] (W.alloc (.cells #[.int .i64 k] 3)) fun e w' => e = .returned (.int .i64 0) ∧ Q (W.alloc (.cells #[.int .i64 k] 3)) w') := HAS
    clear hf
    by_cases hk : k ∈ keysOf kv
    · obtain ⟨i, u, hi⟩ := at_key hk
      have hhas := HW.out.yes hi
      have HAT : Hid (D.atKey (.int .i64 k) (.lit (.int .i64 0)) = .lit (.int .i64 (i : Int))) := HW.out.atK i k (keys_at hi) _
      have HI := hide hi
      have hil := (List.getElem?_eq_some_iff.1 hi).1
      have hii : (i : Int) ≤ 64 := by omega
      have hix : ∀ w', (Instr.index 64 (.agg #[.int .i64 k, .int .i64 u]) (.int .i64 1)).run Tryz.prog w' = .ok (.int .i64 u) w' := fun w' => run_idx_arr (k := 1) Tryz.underlying64 (by kernel_rfl) (by kernel_rfl) (by decide) rfl w'
      clear hk hi hil
      go_enter Tryz.func42, Tryz.ntmps42
      go_wp2_with (first
        | (go_at_call 71; refine (HAS.out _ (Q.refl _)).mono ?_; rintro e w1 ⟨rfl, hq1⟩; have HX1 := hide (HX0.out.q (((Q.refl _).alloc _).trans hq1)); obtain ⟨c4, hbl⟩ := HKC.out _ HX1.out)
        | (at_lookup; refine wpList_lookup_own_ok_int _ rfl _ _ 119 rfl 3 3 .i64 lawI Tryz.underlying119 Tryz.underlying3 (zeroI _) mb n D rfl HX1.out.own _ _ rfl hkey ?_; intro c hat hwc; obtain rfl : c = (i : Int) := i64_inj (hat.symm.trans HAT.out); clear hat)
        | (go_at_call 72; refine (HRD.out _ i u HI.out HX1.out).mono ?_; rintro e w3 ⟨rfl, h3, hX3⟩; have HX3 := hide hX3; clear hX3))
      refine bodyPost_ret (results_tmp3 rfl _ _) rfl ⟨u, true, 0, rfl, .inr (.inl ⟨HF.out, ⟨i, HI.out⟩, rfl, rfl⟩), h3, HX3.out⟩
    · have hhas := HW.out.no hk
      have HK := hide hk
      clear hk
      go_enter Tryz.func42, Tryz.ntmps42
      go_wp2_with (first
        | (go_at_call 71; refine (HAS.out _ (Q.refl _)).mono ?_; rintro e w1 ⟨rfl, hq1⟩; have HX1 := hide (HX0.out.q (((Q.refl _).alloc _).trans hq1)); obtain ⟨c4, hbl⟩ := HKC.out _ HX1.out)
        | (at_lookup; refine wpList_lookup_own_ok_int _ rfl _ _ 119 rfl 3 3 .i64 lawI Tryz.underlying119 Tryz.underlying3 (zeroI _) mb n D rfl HX1.out.own _ _ rfl hkey ?_; intro c hat hwc; clear hat))
      refine bodyPost_ret (results_tmp3 rfl _ _) rfl ⟨0, false, 0, rfl, .inr (.inr ⟨HF.out, HK.out, rfl, rfl, rfl⟩), h, HX1.out⟩
/-! with a row of the walk's own that grows -/
def MV (w : World) (h : Hp) (r : Rw) (mb : Nat) (W : World) (m : HM) (r1 : Rw) (n : Nat) (D : DM) (v : Value) : Prop := ∃ h1, MS w h r mb W m r1 n D h1 ∧ ∀ g, v.ownBlock = some g → ¬ h1.fp g ∧ ¬ r1.fp g ∧ g ≠ mb
theorem MV.start (X : MS w h r mb W m r1 n D h1) (hv : v.ownBlock = none) : MV w h r mb W m r1 n D v := ⟨h1, X, fun g hg => by rw [hv] at hg; cases hg⟩
theorem MV.call (X : MV w h r mb W m r1 n D v) {B e s k : Nat} {xs : List Value} (hv : W.ownsRow B e s v k xs) {f : FuncId} {args : Array Value} {P : Ending → World → HM → Rw → Prop}
    (hc : ∀ h1, LR W h1 r1 → h1.m = m → h1.ptr = h.ptr → h1.calls = m.calls → Calls Tryz.prog f args W fun e W' => ∃ m2 r2, LS W h1 r1 W' m2 r2 ∧ P e W' m2 r2) :
    Calls Tryz.prog f args W fun en W' => ∃ m2 r2, MV w h r mb W' m2 r2 n D v ∧ W'.ownsRow B e s v k xs ∧ P en W' m2 r2 := by
  obtain ⟨h1, Y, ha⟩ := X
  refine (hc h1 Y.lr Y.hm Y.ptr (by rw [← Y.hm]; rfl)).mono ?_
  rintro e2 W' ⟨m2, r2, S, hP⟩
  have hl : ∀ g, v.ownBlock = some g → g < W.heap.size := fun g hg => (hv.lt g hg).2
  obtain ⟨h2, D2, em⟩ := S
  obtain ⟨h3, Y3⟩ := Y.act (show LS W h1 r1 W' m2 r2 from ⟨h2, D2, em⟩)
  have hh : ∃ h3, MS w h r mb W' m2 r2 n D h3 ∧ ∀ g, v.ownBlock = some g → ¬ h3.fp g ∧ ¬ r2.fp g ∧ g ≠ mb := by
    have hmb := Y.own.lt
    obtain ⟨a1, a2, a3⟩ := D2.apart hmb Y.ap.1 Y.ap.2
    have hk : World.keeps W' mb n D := by
      obtain ⟨es, clock, hb, hr⟩ := Y.own
      exact ⟨es, clock, a1.trans hb, hr⟩
    refine ⟨h2, ⟨D2.lr, em, D2.hb.trans Y.hb, D2.rb.trans Y.rb, D2.rt.trans Y.rt, Y3.turn, fun b e => ?_, Y3.rf, hk, a2, a3⟩, fun g hg => ?_⟩
    · rcases D2.hf b e with e | e
      · exact Y.hf b e
      · exact .inr (Nat.le_trans Y.turn.size e)
    · obtain ⟨-, b2, b3⟩ := D2.apart (hl g hg) (ha g hg).1 (ha g hg).2.1
      exact ⟨b2, b3, (ha g hg).2.2⟩
  exact ⟨m2, r2, hh, own_same hv fun g hg => (D2.apart (hl g hg) (ha g hg).1 (ha g hg).2.1).1, hP⟩
theorem MV.grown (X : MV w h r mb W m r1 n D v) (hg : W.grownBy W2 v.ownBlock) (hb : ∀ g, v.ownBlock = some g → w.heap.size ≤ g) (hn : ∀ g, v2.ownBlock = some g → v.ownBlock = some g ∨ W.heap.size ≤ g) : MV w h r mb W2 m r1 n D v2 := by
  obtain ⟨h1, Y, ha⟩ := X
  have L := Y.lr
  have keep : ∀ g, g < W.heap.size → ¬ v.ownBlock = some g → W2.heap[g]? = W.heap[g]? := fun g h1 h2 => hg.block g h1 fun e => h2 e.symm
  have k1 : ∀ g, h1.fp g → W2.heap[g]? = W.heap[g]? := fun g hf => keep g (L.heap.lt g hf) fun e => (ha g e).1 hf
  have k2 : ∀ g, r1.fp g → W2.heap[g]? = W.heap[g]? := fun g hf => keep g (L.rlt g hf) fun e => (ha g e).2.1 hf
  have k3 := keep mb Y.own.lt fun e => (ha mb e).2.2 rfl
  have hk : World.keeps W2 mb n D := by
    obtain ⟨es, clock, hb, hr⟩ := Y.own
    exact ⟨es, clock, k3.trans hb, hr⟩
  refine ⟨h1, ⟨⟨L.heap.same k1, L.mu, (k2 _ (.inl rfl)).trans L.cells, own_same L.pcs fun g hg => k2 g (.inr hg), L.ap1, L.ap2⟩, Y.hm, Y.hb, Y.rb, Y.rt, Y.turn.grown hg fun k hk hlt => absurd (hb k hk) (by omega), Y.hf, Y.rf, hk, Y.ap⟩, fun g hg2 => ?_⟩
  rcases hn g hg2 with h3 | h3
  · exact ha g h3
  · exact ⟨fun e => by have := L.heap.lt g e; omega, fun e => by have := L.rlt g e; omega, fun e => by have := Y.own.lt; omega⟩
set_option maxHeartbeats 4000000 in
set_option maxRecDepth 100000 in
theorem keysM_any (L : LR w h r) (S : MapR h.m r kv) (X0 : MS w h r mb w h.m r n D h) (hmo : r.more = [.map (some mb)]) :
    Calls Tryz.prog 34 #[r.ptr] w fun e w' => ∃ v, e = .returned v ∧ w'.ownsRow w.heap.size 3 1 v kv.length (intsV (keysOf kv)) ∧ ∃ h2, MS w h r mb w' h.m r n D h2 := by
  have HX0 := hide X0
  have HAS : Hid (∀ W : World, Q w W → Calls Tryz.prog 71 #[r.ptr, .slice none 0 0] W fun e w' => e = .returned (.int .i64 0) ∧ Q W w') := fun W hq => askedM_zero L S.op W hq
  have HRM : Hid (∀ W (j : Nat) x v n1 ys, MV w h r mb W h.m r n D v → W.ownsRow w.heap.size 3 1 v n1 ys → kv[j]? = some x → Calls Tryz.prog 72 #[r.ptr, .int .i64 j] W fun e W' => e = .returned (.agg #[.int .i64 x.1, .int .i64 x.2]) ∧ MV w h r mb W' h.m r n D v ∧ W'.ownsRow w.heap.size 3 1 v n1 ys) := fun W j x v n1 ys X hown hv => by
    have h1 := (List.getElem?_eq_some_iff.1 hv).1
    have h2 := S.le
    have h3 := S.n
    refine (X.call hown (P := fun e W' m2 r2 => e = .returned (.agg #[.int .i64 x.1, .int .i64 x.2]) ∧ m2 = h.m ∧ r2 = r) fun h1 L1 e1 e2 _ => ?_).mono ?_
    · refine (read2_any L1 (by rw [e1]; exact S.inv) j (by omega) (by rw [e1]; exact S.kp.row j _ (two_at hv)) (S.bd _ (List.mem_of_getElem? (two_at hv)))).mono ?_
      rintro e W' ⟨he, hX⟩
      rw [e1] at hX
      exact ⟨h.m, r, hX, he, rfl, rfl⟩
    · rintro e W' ⟨m2, r2, hX, ho, he, rfl, rfl⟩
      exact ⟨he, hX, ho⟩
  have HK1 : Hid (∀ W, MS w h r mb W h.m r n D h → W.cell? ⟨r.blk, 2, none⟩ = some (.int .i64 (kv.length : Int)) ∧ r.blk < W.heap.size) := fun W X => by
    obtain ⟨a, b, c, d⟩ := X.k hmo
    rw [S.n]
    exact ⟨a, d⟩
  have hle := S.le
  rw [← S.n] at hle
  have hrp : r.ptr = .pointer (some ⟨r.blk, 0, none⟩) := rfl
  rw [hrp] at HAS HRM ⊢
  obtain ⟨b, eb⟩ : ∃ b, b = r.blk := ⟨_, rfl⟩
  rw [← eb] at HAS HRM HK1 ⊢
  obtain ⟨len, en⟩ : ∃ len, len = kv.length := ⟨_, rfl⟩
  have HEN := hide en
  rw [← en] at hle HK1 ⊢
  have hni : (len : Int) ≤ 64 := by omega
  clear hrp eb S L en X0 hmo
  go_enter Tryz.func34, Tryz.ntmps34
  go_wp2_with (go_at_call 71; refine (HAS.out _ (Q.refl _)).mono ?_; rintro e w1 ⟨rfl, hq1⟩; have HX1 := hide (HX0.out.q hq1); obtain ⟨c2, hbl⟩ := HK1.out _ HX1.out)
  go_loopw [3, 13] (fun v vi wr => ∃ k : Nat, k ≤ len ∧ vi = .int .i64 (k : Int) ∧ wr.ownsRow w.heap.size 3 1 v k (intsV ((keysOf kv).take k)) ∧ w.heap.size ≤ wr.heap.size ∧ MV w h r mb wr h.m r n D v) (fun _ vi _ => len - (intOf vi).toNat)
  case atStart => exact ⟨0, by omega, by go_num, World.ownsRow_nil _ _ _ _, hq1.size, MV.start HX1.out rfl⟩
  case round =>
    obtain ⟨k, hk, rfl, hown, hsz, hX⟩ := hrel
    have HX := hide hX
    clear hX
    by_cases hlt : k < len
    · have hd1 : decide ((k : Int) < (len : Int)) = true := by simp; omega
      have hd0 : decide (k < len) = true := by simp; omega
      have hlti : (k : Int) < (len : Int) := by omega
      obtain ⟨⟨x, y⟩, hx⟩ : ∃ x, kv[k]? = some x := ⟨kv[k]'(by rw [← HEN.out]; exact hlt), List.getElem?_eq_getElem _⟩
      have HXK := hide hx
      have HT : Hid (intsV ((keysOf kv).take (k + 1)) = intsV ((keysOf kv).take k) ++ [.int .i64 x]) := by
        obtain ⟨h1, h2⟩ := List.getElem?_eq_some_iff.1 (keys_at hx)
        unfold intsV
        rw [List.take_succ_eq_append_getElem h1, h2, List.map_append]
        rfl
      have hix : ∀ w', (Instr.index 64 (.agg #[.int .i64 x, .int .i64 y]) (.int .i64 0)).run Tryz.prog w' = .ok (.int .i64 x) w' := fun w' => run_idx_arr (k := 0) Tryz.underlying64 (by kernel_rfl) (by kernel_rfl) (by decide) rfl w'
      obtain ⟨A, c, ev, -⟩ := own_form hown
      subst ev
      have HOWN := hide hown
      clear hx hown
      go_wp2_with (first
        | (go_at_call 72; refine (HRM.out _ k (x, y) _ _ _ HX.out HOWN.out HXK.out).mono ?_; rintro e w3 ⟨rfl, hX3, hown3⟩; have HX3 := hide hX3; have hs3 : w.heap.size ≤ w3.heap.size := (by obtain ⟨h9, X9, -⟩ := hX3; exact X9.turn.size); clear hX3)
        | (at_builtin; go_loud (refine wpList_app1b rfl El_int _ _ rfl rfl hown3 rfl rfl rfl ?_ ?_ ?_ ?_; (focus (simp [Value.oneCell'])); (focus omega); (focus omega); intro v1 w7 hown7 hg7 hn7)))
      go_roundw
      case rel =>
        have hb9 : ∀ g, Value.ownBlock (.slice A k c) = some g → w.heap.size ≤ g := fun g hg => (hown3.lt g hg).1
        exact ⟨k + 1, by omega, by go_num, by rw [HT.out]; exact hown7, Nat.le_trans hs3 hg7.size, HX3.out.grown hg7 hb9 hn7⟩
      case measure => simp [intOf] <;> omega
    · have hd1 : decide ((k : Int) < (len : Int)) = false := by simp; omega
      have hd0 : decide (k < len) = false := by simp; omega
      obtain rfl : k = len := by omega
      have HOWN := hide hown
      clear hown
      go_wp2_with fail
      go_ret
      have ho := HOWN.out
      rw [List.take_of_length_le (by rw [HEN.out]; unfold keysOf; rw [List.length_map]; exact Nat.le_refl _)] at ho
      obtain ⟨h9, X9, -⟩ := HX.out
      exact ⟨_, rfl, ho, h9, X9⟩
end
end Go.Proofs.YtdaklffbfadghaaGreat

namespace Go.Proofs.YtdaklffbfadghaaGreat
open Go.RowKit HP Go.Maps
set_option linter.unusedVariables false
set_option linter.unusedSimpArgs false
section
variable {w W W2 : World} {h h1 : Hp} {r r1 : Rw} {mb n : Nat} {m : HM} {D : DM} {kv : List (Int × Int)} {v v2 : Value}
theorem MS.remove2 (X : MS w h r mb W m r1 n D h1) (I : Inv m) {Ls : List (List Int)} (K : Kp m 2 r1.ps Ls) (hl : Ls.length = r1.n) (hb : BdL Ls) (i : Nat) {a b : Int} (hrow : Ls[i]? = some [a, b]) :
    Calls Tryz.prog 76 #[r.ptr, .int .i64 i] W fun e W' => e = .returned (.agg #[.int .i64 a, .int .i64 b]) ∧ ∃ m2 r2 h2, MS w h r mb W' m2 r2 n D h2 ∧ Remd m m2 2 r1.ps r2.ps Ls i ∧ r2.n + 1 = r1.n ∧ r2.closed = r1.closed ∧ r2.more = r1.more := by
  have hrb := X.rb
  refine (X.call (P := fun e W' m2 r2 => e = .returned (.agg #[.int .i64 a, .int .i64 b]) ∧ Remd m m2 2 r1.ps r2.ps Ls i ∧ r2.n + 1 = r1.n ∧ r2.closed = r1.closed ∧ r2.more = r1.more) fun h3 L e1 e2 e3 => ?_).mono ?_
  · have := remove2_any L (by rw [e1]; exact I) (by rw [e1]; exact K) hl hb i hrow
    unfold Rw.ptr at this ⊢
    rw [hrb, e1] at this
    refine this.mono ?_
    rintro e W' ⟨m', r2, he, hX, hG⟩
    exact ⟨m', r2, hX, he, hG⟩
  · rintro e W' ⟨m2, r2, h2, hX, he, hG⟩
    exact ⟨he, m2, r2, h2, hX, hG⟩
/-- what Delete says -/
def DelO (m m' : HM) (r r2 : Rw) (kv kv2 : List (Int × Int)) (k v : Int) (is : Bool) (err : Int) : Prop :=
  (fitsB k = false ∧ v = 0 ∧ is = false ∧ err = 1 ∧ m' = m ∧ r2 = r ∧ kv2 = kv) ∨
  (fitsB k = true ∧ k ∉ keysOf kv ∧ v = 0 ∧ is = false ∧ err = 0 ∧ m' = m ∧ r2 = r ∧ kv2 = kv) ∨
  (fitsB k = true ∧ is = true ∧ err = 0 ∧ ∃ i : Nat, kv[i]? = some (k, v) ∧ kv2 = delAt kv i 1 ∧ MapR m' r2 kv2 ∧ Remd m m' 2 r.ps r2.ps (two kv) i)
theorem delO_of {m m' : HM} {r2 : Rw} {i : Nat} {k u : Int} (S : MapR m r kv) (hf : fitsB k = true) (hi : kv[i]? = some (k, u)) (R : Remd m m' 2 r.ps r2.ps (two kv) i) (h2n : r2.n + 1 = r.n) (h2c : r2.closed = r.closed) : DelO m m' r r2 kv (delAt kv i 1) k u true 0 := by
  have hil := (List.getElem?_eq_some_iff.1 hi).1
  refine .inr (.inr ⟨hf, rfl, rfl, i, hi, rfl, ⟨R.inv, by rw [← two_del]; exact R.kp, ?_, h2c.trans S.op, fun x hx => S.fit x (delAt_mem hx), ?_⟩, R⟩)
  · have := S.n
    rw [delAt_len _ _ _ (by omega)]
    omega
  · have := S.nd
    unfold keysOf at this ⊢
    rw [delAt_map]
    exact this.sublist (delAt_sub _ _ _)
set_option maxHeartbeats 4000000 in
set_option maxRecDepth 100000 in
theorem delM_none (L : LR w h r) (S : MapR h.m r kv) (X0 : MS w h r mb w h.m r n D h) (hmo : r.more = [.map (some mb)]) (hW : Wh D (keysOf kv)) (k : Int) (hk : fitsB k = false ∨ k ∉ keysOf kv) :
    Calls Tryz.prog 23 #[r.ptr, .int .i64 k] w fun e w' => e = .returned (.tuple #[.int .i64 0, .bool false, .int .i64 (if fitsB k then 0 else 1)]) ∧ ∃ h2, MS w h r mb w' h.m r n D h2 := by
  have HAS : Hid (∀ W : World, Q w W → Calls Tryz.prog 71 #[r.ptr, .slice (some ⟨W.heap.size, 0, none⟩) 1 1] (W.alloc (.cells #[.int .i64 k] 3)) fun e w' => e = .returned (.int .i64 (if fitsB k then 0 else 1)) ∧ Q (W.alloc (.cells #[.int .i64 k] 3)) w') := fun W hq => askedM_one L S.op k W hq
  have HX0 := hide X0
  have HKC : Hid (∀ W, MS w h r mb W h.m r n D h → W.cell? ⟨r.blk, 4, none⟩ = some (.map (some mb)) ∧ r.blk < W.heap.size) := fun W X => ⟨(X.k hmo).2.2.1, (X.k hmo).2.2.2⟩
  have HW := hide hW
  have hrp : r.ptr = .pointer (some ⟨r.blk, 0, none⟩) := rfl
  rw [hrp] at HAS ⊢
  obtain ⟨b, eb⟩ : ∃ b, b = r.blk := ⟨_, rfl⟩
  rw [← eb] at HAS HKC ⊢
  clear hrp L S hW X0 eb hmo
  cases hf : fitsB k
  · rw [hf] at HAS
    have HAS : Hid (∀ W : World, Q w W → Calls Tryz.prog 71 #[.pointer (some ⟨b, 0, none⟩), .slice (some ⟨W.heap.size, 0, none⟩) 1 1] (W.alloc (.cells #[.int .i64 k] 3)) fun e w' => e = .returned (.int .i64 1) ∧ Q (W.alloc (.cells #[.int .i64 k] 3)) w') := HAS
    clear hf hk
    go_enter Tryz.func23, Tryz.ntmps23
    go_wp2_with (go_at_call 71; refine (HAS.out _ (Q.refl _)).mono ?_; rintro e w1 ⟨rfl, hq1⟩)
    refine bodyPost_ret (results_tmp3 rfl _ _) rfl ?_
    exact ⟨rfl, _, HX0.out.q (((Q.refl _).alloc _).trans hq1)⟩
  · have hkey := keyOf_int_mk Tryz.underlying3 (i64_wf hf)
    have hk : k ∉ keysOf kv := hk.resolve_left (by rw [hf]; decide)
    rw [hf] at HAS
    have HAS : Hid (∀ W : World, Q w W → Calls Tryz.prog 71 #[.pointer (some ⟨b, 0, none⟩), .slice (some ⟨W.heap.size, 0, none⟩) 1 1] (W.alloc (.cells #[.int .i64 k] 3)) fun e w' => e = .returned (.int .i64 0) ∧ Q (W.alloc (.cells #[.int .i64 k] 3)) w') := HAS
    have hhas := HW.out.no hk
    clear hk hf
    go_enter Tryz.func23, Tryz.ntmps23
    go_wp2_with (first
      | (go_at_call 71; refine (HAS.out _ (Q.refl _)).mono ?_; rintro e w1 ⟨rfl, hq1⟩; have HX1 := hide (HX0.out.q (((Q.refl _).alloc _).trans hq1)); obtain ⟨c4, hbl⟩ := HKC.out _ HX1.out)
      | (at_lookup; refine wpList_lookup_own_ok_int _ rfl _ _ 119 rfl 3 3 .i64 lawI Tryz.underlying119 Tryz.underlying3 (zeroI _) mb n D rfl HX1.out.own _ _ rfl hkey ?_; intro c hat hwc; clear hat))
    refine bodyPost_ret (results_tmp3 rfl _ _) rfl ⟨rfl, _, HX1.out⟩
set_option maxHeartbeats 4000000 in
set_option maxRecDepth 100000 in
theorem delM_found (L : LR w h r) (S : MapR h.m r kv) (X0 : MS w h r mb w h.m r n D h) (hmo : r.more = [.map (some mb)]) (hW : Wh D (keysOf kv)) (k : Int) (hf : fitsB k = true) (i : Nat) (u : Int) (hi : kv[i]? = some (k, u)) :
    Calls Tryz.prog 23 #[r.ptr, .int .i64 k] w fun e w' => e = .returned (.tuple #[.int .i64 u, .bool true, .int .i64 0]) ∧ ∃ m' r2 D2 h2, MS w h r mb w' m' r2 n D2 h2 ∧ Wh D2 (keysOf (delAt kv i 1)) ∧ r2.more = r.more ∧ DelO h.m m' r r2 kv (delAt kv i 1) k u true 0 := by
  have HAS : Hid (∀ W : World, Q w W → Calls Tryz.prog 71 #[r.ptr, .slice (some ⟨W.heap.size, 0, none⟩) 1 1] (W.alloc (.cells #[.int .i64 k] 3)) fun e w' => e = .returned (.int .i64 0) ∧ Q (W.alloc (.cells #[.int .i64 k] 3)) w') := fun W hq => by
    have := askedM_one L S.op k W hq
    rw [hf] at this
    exact this
  have HRM : Hid (∀ W, MS w h r mb W h.m r n D h → Calls Tryz.prog 76 #[r.ptr, .int .i64 i] W fun e W' => e = .returned (.agg #[.int .i64 k, .int .i64 u]) ∧ ∃ m2 r2 h2, MS w h r mb W' m2 r2 n D h2 ∧ Remd h.m m2 2 r.ps r2.ps (two kv) i ∧ r2.n + 1 = r.n ∧ r2.closed = r.closed ∧ r2.more = r.more) := fun W X => X.remove2 S.inv S.kp (by rw [two_len]; exact S.n) S.bd i (two_at hi)
  have HO : Hid (∀ m2 r2, Remd h.m m2 2 r.ps r2.ps (two kv) i → r2.n + 1 = r.n → r2.closed = r.closed → DelO h.m m2 r r2 kv (delAt kv i 1) k u true 0) := fun m2 r2 R h1 h2 => delO_of S hf hi R h1 h2
  have HX0 := hide X0
  have HKC : Hid (∀ W m1 r1 D1 h1, MS w h r mb W m1 r1 n D1 h1 → r1.more = r.more → W.cell? ⟨r.blk, 4, none⟩ = some (.map (some mb)) ∧ r.blk < W.heap.size) := fun W m1 r1 D1 h1 X e => ⟨(X.k (e.trans hmo)).2.2.1, (X.k (e.trans hmo)).2.2.2⟩
  have hhas := hW.yes hi
  have HAT : Hid (D.atKey (.int .i64 k) (.lit (.int .i64 0)) = .lit (.int .i64 (i : Int))) := hW.atK i k (keys_at hi) _
  have hkey := keyOf_int_mk Tryz.underlying3 (i64_wf hf)
  have HMID := hide (WhMid.start hW k i)
  have HND := hide S.nd
  have HKI := hide (keys_at hi)
  have HDK : Hid (keysOf (delAt kv i 1) = delAt (keysOf kv) i 1) := delAt_map _ _ _ _
  have hle := S.le
  rw [← S.n] at hle
  have hil := (List.getElem?_eq_some_iff.1 hi).1
  have hii : (i : Int) ≤ 64 := by omega
  have HKL : Hid ((keysOf kv).length ≤ 64) := by show (keysOf kv).length ≤ 64; unfold keysOf; rw [List.length_map]; exact hle
  have hrp : r.ptr = .pointer (some ⟨r.blk, 0, none⟩) := rfl
  rw [hrp] at HAS HRM ⊢
  obtain ⟨b, eb⟩ : ∃ b, b = r.blk := ⟨_, rfl⟩
  rw [← eb] at HAS HRM HKC ⊢
  clear hrp L hf S hi hW X0 eb hmo hil hle
  go_enter Tryz.func23, Tryz.ntmps23
  go_wp2_with (first
    | (go_at_call 71; refine (HAS.out _ (Q.refl _)).mono ?_; rintro e w1 ⟨rfl, hq1⟩; have HX1 := hide (HX0.out.q (((Q.refl _).alloc _).trans hq1)); obtain ⟨c4, hbl⟩ := HKC.out _ _ _ _ _ HX1.out rfl)
    | (at_lookup; refine wpList_lookup_own_ok_int _ rfl _ _ 119 rfl 3 3 .i64 lawI Tryz.underlying119 Tryz.underlying3 (zeroI _) mb n D rfl HX1.out.own _ _ rfl hkey ?_; intro c hat hwc; obtain rfl : c = (i : Int) := i64_inj (hat.symm.trans HAT.out); clear hat)
    | (go_at_call 76; go_loud (refine (HRM.out _ HX1.out).mono ?_; rintro e w3 ⟨rfl, m3, r3, h3, hX3, hR3, h3n, h3c, h3m⟩; have HX3 := hide hX3; have HR3 := hide hR3; have H3N := hide h3n; have H3C := hide h3c; have H3M := hide h3m; have HX4 := hide (hX3.q ((Q.refl w3).alloc (.cells #[.int .i64 k, .int .i64 u] 64))); obtain ⟨c34, hbl3⟩ := HKC.out _ _ _ _ _ HX4.out h3m; have hne3 := (fun e => HX4.out.ap.2 (.inl (by rw [HX4.out.rb]; exact e)) : ¬ mb = r.blk); clear hX3 hR3 h3n h3c h3m))
    | (at_delete; go_loud (refine wpList_delete_own _ rfl _ _ 119 3 rfl 3 lawI Tryz.underlying119 _ mb n D rfl HX4.out.own _ _ rfl hkey ?_; intro w5 hown5 hturn5; have HX5 := hide (HX4.out.grown hturn5.grown hown5); have HOW5 := hide hown5; have q12 := (hturn5.grown.block w3.heap.size (by simp) (by intro e; injection e with e; have := HX3.out.own.lt; omega)).trans (heap_alloc_new w3 _); have HQ12 := hide q12; obtain ⟨c54, hbl5⟩ := HKC.out _ _ _ _ _ HX5.out H3M.out; clear hturn5 hown5 q12))
    | (at_range; go_loud (refine wpList_range_own _ rfl _ 119 rfl 3 3 lawI Tryz.underlying119 _ mb n _ rfl HOW5.out ?_; intro w6 hrg6 hg6 hs6)))
  go_frame
  have HS6 := hide (hg6.but (some mb))
  obtain ⟨g12, eg12⟩ : ∃ g12, g12 = w3.heap.size := ⟨_, rfl⟩
  rw [← eg12] at HQ12 ⊢
  have hg12 : g12 < w5.heap.size := blk_lt HQ12.out
  have hmb12 : g12 ≠ mb := fun e => by
    have h1 := HQ12.out
    obtain ⟨es, clock, h2, -⟩ := HOW5.out
    rw [e, h2] at h1
    cases h1
  have hmbb : b ≠ mb := fun e => by
    obtain ⟨es, clock, h2, -⟩ := HOW5.out
    unfold World.cell? at c54
    rw [e] at c54
    dsimp only at c54
    rw [h2] at c54
    simp at c54
  have HC5 := hide c54
  have HB5 := hide hbl5
  clear eg12 hg6 hs6 c34 hbl3 hne3 c4 hbl hhas hwc HAT HX4 c54 hbl5 HAS HRM HX0 HX1 hq1
  go_loopw [12] (fun _ wr => ∃ (left : Lit → Bool) (cnt : Nat) (D1 : DM), wr.ranges Tryz.prog 3 (plainElem Tryz.prog 3) mb w5.heap.size n D1 left cnt ∧ w5.grownBy wr (some mb) ∧ WhMid D1 (keysOf kv) k i left) (fun _ wr => wr.rangeLeft mb w5.heap.size)
  case atStart => exact ⟨_, _, _, hrg6, HS6.out, HMID.out⟩
  case round =>
    obtain ⟨left, cnt, D1, hrg, hgw, hmid⟩ := hrel
    have HGW := hide hgw
    have HMI := hide hmid
    have c4 : wr.cell? ⟨b, 4, none⟩ = some (.map (some mb)) := (World.cell?_of_block (hgw.block b HB5.out (fun e => by injection e with e; exact hmbb e))).trans HC5.out
    have hbl : b < wr.heap.size := Nat.lt_of_lt_of_le HB5.out hgw.size
    have c12 : wr.cell? ⟨g12, 1, none⟩ = some (.int .i64 u) := by
      rw [World.cell?_of_block (hgw.block g12 hg12 (fun e => by injection e with e; exact hmb12 e)), cell_of_row _ _ _ _ _ _ HQ12.out]
      rfl
    clear hgw hmid
    go_wp2_with (at_next; refine wpList_next_ranges_ii _ rfl _ rfl 3 3 .i64 .i64 lawI Tryz.underlying3 Tryz.underlying3 mb w5.heap.size n _ _ _ rfl hrg ?_ ?_)
    · intro _ hl0
      have HL0 := hide hl0
      clear hl0
      go_wp2_with fail
      have HM := HMI.out.done HND.out HKI.out HL0.out
      rw [← HDK.out] at HM
      refine bodyPost_ret (results_tmp3 rfl _ _) rfl ⟨rfl, m3, r3, D1, h3, HX5.out.grown HGW.out hrg.owns, HM, H3M.out, HO.out _ _ HR3.out H3N.out H3C.out⟩
    · intro x c w7 cnt1 hwx hwc hlx hat hrg1 hlt hg1 hs1 hen
      obtain ⟨j, hj, hv⟩ := HMI.out.value (y := x) hlx
      obtain rfl : c = (j : Int) := i64_inj ((hat (.lit (.int .i64 0))).symm.trans (hv (.lit (.int .i64 0))))
      have hjl := (List.getElem?_eq_some_iff.1 hj).1
      have hj64 : j < 64 := Nat.lt_of_lt_of_le hjl HKL.out
      have hji : (j : Int) ≤ 64 := by omega
      have HJ := hide hj
      have HLX := hide hlx
      have HGW1 : Hid (w5.grownBy w7 (some mb)) := HGW.out.andThen hg1 (fun q hq => by cases hq; exact Or.inl (Nat.le_refl _))
      have c47 : w7.cell? ⟨b, 4, none⟩ = some (.map (some mb)) := (World.cell?_of_block (HGW1.out.block b HB5.out (fun e => by injection e with e; exact hmbb e))).trans HC5.out
      have hbl7 : b < w7.heap.size := Nat.lt_of_lt_of_le HB5.out HGW1.out.size
      have hthere : Maps.has D1 (.int .i64 x) = true := by
        have h1 := HMI.out.lf x hlx
        have h2 := HMI.out.hasK x
        rw [show (keysOf kv).contains x = true by rw [List.contains_iff_mem]; exact h1.1] at h2
        have h2' : Maps.has D1 (.int .i64 x) = (true && !decide (x = k)) := h2
        rw [h2']
        simp [h1.2]
      have HTH := hide hthere
      clear hv hat hj hlx hg1 c4 hbl c12 hthere hjl
      by_cases hij : i < j
      · have hd1 : decide ((i : Int) < (j : Int)) = true := by simp; omega
        have hwf : (Lit.int .i64 ((j : Int) - 1)).wf = true := WalkArith.wf_i64 (by omega)
        have hj1 : (1 : Int) ≤ (j : Int) := by omega
        go_wp2_with (at_mapUpdate; go_loud (refine wpList_mapUpdate_ranges _ rfl _ _ _ 119 rfl 3 3 lawI Tryz.underlying119 _ mb w5.heap.size n D1 _ _ rfl hrg1 _ _ _ rfl rfl (keyOf_int_mk Tryz.underlying3 hwx) _ [] (plainElem_int Tryz.underlying3 hwf) HTH.out ?_; intro w8 hrg8 hturn8; go_frame))
        go_roundw
        case rel => exact ⟨_, cnt1, _, hrg8, HGW1.out.andThen hturn8.grown (fun q hq => by cases hq; exact Or.inr rfl), HMI.out.less HND.out HLX.out HJ.out hij trivial⟩
        case measure => rw [hrg8.left_eq, hrg.left_eq]; omega
      · have hd1 : decide ((i : Int) < (j : Int)) = false := by simp; omega
        go_wp2_with fail
        go_roundw
        case rel => exact ⟨_, cnt1, _, hrg1, HGW1.out, HMI.out.keep HND.out HJ.out hij⟩
        case measure => rw [hrg1.left_eq, hrg.left_eq]; exact hlt
end
end Go.Proofs.YtdaklffbfadghaaGreat
