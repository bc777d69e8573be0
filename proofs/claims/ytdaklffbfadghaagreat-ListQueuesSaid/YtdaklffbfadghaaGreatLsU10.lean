/- Add, Remove, Get, Set, All, Close of a list that is open. Set, All, Close of a list that is open. Conditions: as each theorem says. -/
import Derived.Test.YtdaklffbfadghaaGreatLsU9
namespace Go.Proofs.YtdaklffbfadghaaGreat
open Go.RowKit HP
set_option linter.unusedVariables false
set_option linter.unusedSimpArgs false
section
variable {h : Hp} {r r1 : Rw} {w W : World} {xs : List Int} {m : HM} {bs : List Loc}
theorem LstR.isOpen (L : LR w h r) (S : LstR h.m r xs) : ∀ W, Q w W → Calls Tryz.prog 67 #[r.ptr] W fun e w' => e = .returned (.bool true) ∧ Q W w' := fun W hq => by
  have := isOpen_any ((LDid.refl L).q hq).lr
  rw [S.op] at this
  exact this
theorem one_are (n : Int) (W : World) : Calls Tryz.prog 89 #[.slice (some ⟨W.heap.size, 0, none⟩) 1 1] (W.alloc (.cells #[.int .i64 n] 3)) fun e w' => e = .returned (.bool (fitsB n)) ∧ Q (W.alloc (.cells #[.int .i64 n] 3)) w' := by
  have := areNumbers_any (some ⟨W.heap.size, 0, none⟩) 1 1 [n] (W.alloc (.cells #[.int .i64 n] 3)) rfl (.inr ⟨W.heap.size, 0, rfl, by simp, fun j u hu => by
    rw [World.cell?_alloc_new]
    simpa [intsV] using hu⟩) (by decide)
  simpa using this
theorem lb_insertL (X : LB w h r W m r1 bs) (S : LstR m r1 xs) (hc : m.calls < 1000000000) (i n : Int) :
    Calls Tryz.prog 46 #[r.ptr, .int .i64 i, .int .i64 n] W fun e W' => ∃ (m2 : HM) (r2 : Rw), LB w h r W' m2 r2 bs ∧ ∃ err, e = .returned (.int .i64 err) ∧ InsO m m2 r1 r2 xs i n err ∧ r2.more = r1.more := by
  have hrb := X.ls.rb
  refine X.call (P := fun e W' m2 r2 => ∃ err, e = .returned (.int .i64 err) ∧ InsO m m2 r1 r2 xs i n err ∧ r2.more = r1.more) fun h1 L e1 e2 e3 => ?_
  have := insertL_any L (xs := xs) (by rw [e1]; exact S) (by rw [e3]; exact hc) i n
  unfold Rw.ptr at this ⊢
  rw [hrb, e1] at this
  refine this.mono ?_
  rintro e W' ⟨err, m', r2, he, hX, hI, hm⟩
  exact ⟨m', r2, hX, err, he, hI, hm⟩
set_option maxHeartbeats 4000000 in
set_option maxRecDepth 100000 in
theorem addL_any (L : LR w h r) (S : LstR h.m r xs) (hc : h.calls < 1000000000) (n : Int) :
    Calls Tryz.prog 17 #[r.ptr, .int .i64 n] w fun e w' => ∃ (m' : HM) (r2 : Rw), LS w h r w' m' r2 ∧ ∃ err, e = .returned (.int .i64 err) ∧ InsO h.m m' r r2 xs xs.length n err ∧ r2.more = r.more := by
  have HX0 : Hid (LB w h r w h.m r []) := LB.start L
  have HOP := hide (S.isOpen L)
  have HIN : Hid (∀ W, LB w h r W h.m r [] → Calls Tryz.prog 46 #[r.ptr, .int .i64 (xs.length : Int), .int .i64 n] W fun e W' => ∃ (m2 : HM) (r2 : Rw), LB w h r W' m2 r2 [] ∧ ∃ err, e = .returned (.int .i64 err) ∧ InsO h.m m2 r r2 xs xs.length n err ∧ r2.more = r.more) := fun W X => lb_insertL X S hc _ n
  have HK2 : Hid (∀ W, LB w h r W h.m r [] → W.cell? ⟨r.blk, 2, none⟩ = some (.int .i64 (xs.length : Int)) ∧ r.blk < W.heap.size) := fun W X => by
    rw [S.n]
    exact ⟨X.ls.k2, X.ls.lt⟩
  have hrp : r.ptr = .pointer (some ⟨r.blk, 0, none⟩) := rfl
  rw [hrp] at HOP HIN ⊢
  obtain ⟨b, eb⟩ : ∃ b, b = r.blk := ⟨_, rfl⟩
  rw [← eb] at HOP HIN HK2 ⊢
  obtain ⟨len, el⟩ : ∃ len, len = xs.length := ⟨_, rfl⟩
  rw [← el] at HK2 HIN ⊢
  clear hrp eb S L el
  go_enter Tryz.func17, Tryz.ntmps17
  go_wp2_with (first
    | (go_at_call 67; refine (HOP.out _ (Q.refl _)).mono ?_; rintro e w1 ⟨rfl, hq1⟩; obtain ⟨c2, hbl⟩ := HK2.out _ (HX0.out.q hq1))
    | (go_at_call 46; refine (HIN.out _ (HX0.out.q hq1)).mono ?_; rintro e w2 ⟨m2, r2, hX2, err, rfl, hI, hm⟩; have HX2 := hide hX2; have HI := hide hI; have HM := hide hm; clear hX2 hI hm))
  go_ret
  exact ⟨m2, r2, HX2.out.ls, err, rfl, HI.out, HM.out⟩
/-- why there is no element at a place -/
def askE (xs : List Int) (i : Int) : Int := if 0 ≤ i ∧ i < (xs.length : Int) then 0 else 4
set_option maxHeartbeats 4000000 in
set_option maxRecDepth 100000 in
theorem askedL_any (L : LR w h r) (S : LstR h.m r xs) (i : Int) :
    Calls Tryz.prog 69 #[r.ptr, .int .i64 i] w fun e w' => e = .returned (.int .i64 (askE xs i)) ∧ Q w w' := by
  have HX0 : Hid (LB w h r w h.m r []) := LB.start L
  have HOP := hide (S.isOpen L)
  have HK2 : Hid (∀ W, LB w h r W h.m r [] → W.cell? ⟨r.blk, 2, none⟩ = some (.int .i64 (xs.length : Int)) ∧ r.blk < W.heap.size) := fun W X => by
    rw [S.n]
    exact ⟨X.ls.k2, X.ls.lt⟩
  have hrp : r.ptr = .pointer (some ⟨r.blk, 0, none⟩) := rfl
  rw [hrp] at HOP ⊢
  obtain ⟨b, eb⟩ : ∃ b, b = r.blk := ⟨_, rfl⟩
  rw [← eb] at HOP HK2 ⊢
  unfold askE
  obtain ⟨len, el⟩ : ∃ len, len = xs.length := ⟨_, rfl⟩
  rw [← el] at HK2 ⊢
  clear hrp eb S L el
  by_cases hi : 0 ≤ i ∧ i < (len : Int)
  · rw [if_pos hi]
    have hd1 : decide (i < 0) = false := by simp; omega
    have hd2 : decide ((len : Int) ≤ i) = false := by simp; omega
    clear hi
    go_enter Tryz.func69, Tryz.ntmps69
    go_wp2_with (go_at_call 67; refine (HOP.out _ (Q.refl _)).mono ?_; rintro e w1 ⟨rfl, hq1⟩; obtain ⟨c2, hbl⟩ := HK2.out _ (HX0.out.q hq1))
    go_ret
    exact ⟨rfl, hq1⟩
  · rw [if_neg hi]
    have hd : decide (i < 0) = true ∨ (decide (i < 0) = false ∧ decide ((len : Int) ≤ i) = true) := by
      by_cases h0 : i < 0
      · exact .inl (by simpa using h0)
      · exact .inr ⟨by simpa using h0, by simp; omega⟩
    clear hi
    rcases hd with hd | ⟨hd, hd2⟩
    · go_enter Tryz.func69, Tryz.ntmps69
      go_wp2_with (go_at_call 67; refine (HOP.out _ (Q.refl _)).mono ?_; rintro e w1 ⟨rfl, hq1⟩)
      go_ret
      exact ⟨rfl, hq1⟩
    · go_enter Tryz.func69, Tryz.ntmps69
      go_wp2_with (go_at_call 67; refine (HOP.out _ (Q.refl _)).mono ?_; rintro e w1 ⟨rfl, hq1⟩; obtain ⟨c2, hbl⟩ := HK2.out _ (HX0.out.q hq1))
      go_ret
      exact ⟨rfl, hq1⟩
theorem LstR.asked (L : LR w h r) (S : LstR h.m r xs) (i : Int) : ∀ W, Q w W → Calls Tryz.prog 69 #[r.ptr, .int .i64 i] W fun e w' => e = .returned (.int .i64 (askE xs i)) ∧ Q W w' := fun W hq => askedL_any ((LDid.refl L).q hq).lr S i
/-- what Remove says -/
def RemO (m m' : HM) (r r2 : Rw) (xs : List Int) (i v err : Int) : Prop :=
  (¬ (0 ≤ i ∧ i < (xs.length : Int)) ∧ v = 0 ∧ err = 4 ∧ m' = m ∧ r2 = r) ∨ ((0 ≤ i ∧ i < (xs.length : Int)) ∧ xs[i.toNat]? = some v ∧ err = 0 ∧ LstR m' r2 (delAt xs i.toNat 1) ∧ Remd m m' 1 r.ps r2.ps (one xs) i.toNat)
theorem remO_of {m m' : HM} {r r2 : Rw} {xs : List Int} {i : Nat} {v : Int} (S : LstR m r xs) (hv : xs[i]? = some v) (R : Remd m m' 1 r.ps r2.ps (one xs) i) (h2n : r2.n + 1 = r.n) (h2c : r2.closed = r.closed) : RemO m m' r r2 xs i v 0 := by
  have hi := (List.getElem?_eq_some_iff.1 hv).1
  refine .inr ⟨by omega, hv, rfl, ⟨R.inv, by rw [Int.toNat_natCast, ← one_del]; exact R.kp, ?_, h2c.trans S.op, fun x hx => S.fit x (delAt_mem hx)⟩, R⟩
  have := S.n
  rw [Int.toNat_natCast, delAt_len _ _ _ (by omega)]
  omega
set_option maxHeartbeats 4000000 in
set_option maxRecDepth 100000 in
theorem removeL_any (L : LR w h r) (S : LstR h.m r xs) (i : Int) :
    Calls Tryz.prog 19 #[r.ptr, .int .i64 i] w fun e w' => ∃ (m' : HM) (r2 : Rw), LS w h r w' m' r2 ∧ ∃ v err, e = .returned (.tuple #[.int .i64 v, .int .i64 err]) ∧ RemO h.m m' r r2 xs i v err ∧ r2.more = r.more := by
  have HX0 : Hid (LB w h r w h.m r []) := LB.start L
  have HAS := hide (S.asked L i)
  have HRM : Hid (∀ W (j : Nat) v, LB w h r W h.m r [] → xs[j]? = some v → Calls Tryz.prog 70 #[r.ptr, .int .i64 j] W fun e W' => e = .returned (.agg #[.int .i64 v]) ∧ ∃ (m' : HM) (r2 : Rw), LB w h r W' m' r2 [] ∧ Remd h.m m' 1 r.ps r2.ps (one xs) j ∧ r2.n + 1 = r.n ∧ r2.closed = r.closed ∧ r2.more = r.more) := fun W j v X hv => lb_remove1 X S.inv S.kp (by rw [one_len]; exact S.n) S.bd j (one_at hv)
  have HS := hide S
  have hrp : r.ptr = .pointer (some ⟨r.blk, 0, none⟩) := rfl
  rw [hrp] at HAS HRM ⊢
  obtain ⟨b, eb⟩ : ∃ b, b = r.blk := ⟨_, rfl⟩
  rw [← eb] at HAS HRM ⊢
  clear hrp eb S L
  by_cases hi : 0 ≤ i ∧ i < (xs.length : Int)
  · rw [show askE xs i = 0 from if_pos hi] at HAS
    obtain ⟨j, rfl⟩ : ∃ j : Nat, i = (j : Int) := ⟨i.toNat, by omega⟩
    obtain ⟨v, hv⟩ : ∃ v, xs[j]? = some v := ⟨xs[j]'(by omega), List.getElem?_eq_getElem _⟩
    have HV := hide hv
    clear hi hv
    have hix : ∀ w', (Instr.index 126 (.agg #[.int .i64 v]) (.int .i64 0)).run Tryz.prog w' = .ok (.int .i64 v) w' := fun w' => run_idx_arr (k := 0) Tryz.underlying126 (by kernel_rfl) (by kernel_rfl) (by decide) rfl w'
    go_enter Tryz.func19, Tryz.ntmps19
    go_wp2_with (first
      | (go_at_call 69; refine (HAS.out _ (Q.refl _)).mono ?_; rintro e w1 ⟨rfl, hq1⟩)
      | (go_at_call 70; refine (HRM.out _ j v (HX0.out.q hq1) HV.out).mono ?_; rintro e w2 ⟨rfl, m2, r2, hX2, hR, h2n, h2c, h2m⟩; have HX2 := hide hX2; have HR := hide hR; have H2N := hide h2n; have H2C := hide h2c; have H2M := hide h2m; clear hX2 hR h2n h2c h2m))
    go_ret2
    exact ⟨m2, r2, HX2.out.ls, v, 0, rfl, remO_of HS.out HV.out HR.out H2N.out H2C.out, H2M.out⟩
  · have HNI := hide hi
    rw [show askE xs i = 4 from if_neg hi] at HAS
    clear hi
    go_enter Tryz.func19, Tryz.ntmps19
    go_wp2_with (go_at_call 69; refine (HAS.out _ (Q.refl _)).mono ?_; rintro e w1 ⟨rfl, hq1⟩)
    go_ret2
    exact ⟨h.m, r, (HX0.out.q hq1).ls, 0, 4, rfl, .inl ⟨HNI.out, rfl, rfl, rfl, rfl⟩, rfl⟩
set_option maxHeartbeats 4000000 in
set_option maxRecDepth 100000 in
theorem getL_any (L : LR w h r) (S : LstR h.m r xs) (i : Int) :
    Calls Tryz.prog 47 #[r.ptr, .int .i64 i] w fun e w' => ∃ (m' : HM) (r2 : Rw), LS w h r w' m' r2 ∧ ∃ v err, e = .returned (.tuple #[.int .i64 v, .int .i64 err]) ∧ m' = h.m ∧ r2 = r ∧ ((¬ (0 ≤ i ∧ i < (xs.length : Int)) ∧ v = 0 ∧ err = 4) ∨ ((0 ≤ i ∧ i < (xs.length : Int)) ∧ xs[i.toNat]? = some v ∧ err = 0)) := by
  have HX0 : Hid (LB w h r w h.m r []) := LB.start L
  have HAS := hide (S.asked L i)
  have HRM : Hid (∀ W (j : Nat) v, LB w h r W h.m r [] → xs[j]? = some v → Calls Tryz.prog 91 #[r.ptr, .int .i64 j] W fun e W' => e = .returned (.agg #[.int .i64 v]) ∧ LB w h r W' h.m r []) := fun W j v X hv => by
    have h1 := (List.getElem?_eq_some_iff.1 hv).1
    have h2 := S.le
    have h3 := S.n
    exact lb_read1 X S.inv j (by omega) (S.kp.row j _ (one_at hv)) (S.bd _ (List.mem_of_getElem? (one_at hv)))
  have hrp : r.ptr = .pointer (some ⟨r.blk, 0, none⟩) := rfl
  rw [hrp] at HAS HRM ⊢
  obtain ⟨b, eb⟩ : ∃ b, b = r.blk := ⟨_, rfl⟩
  rw [← eb] at HAS HRM ⊢
  clear hrp eb S L
  by_cases hi : 0 ≤ i ∧ i < (xs.length : Int)
  · rw [show askE xs i = 0 from if_pos hi] at HAS
    have HII := hide hi
    obtain ⟨j, rfl⟩ : ∃ j : Nat, i = (j : Int) := ⟨i.toNat, by omega⟩
    obtain ⟨v, hv⟩ : ∃ v, xs[j]? = some v := ⟨xs[j]'(by omega), List.getElem?_eq_getElem _⟩
    have HV := hide hv
    clear hi hv
    have hix : ∀ w', (Instr.index 126 (.agg #[.int .i64 v]) (.int .i64 0)).run Tryz.prog w' = .ok (.int .i64 v) w' := fun w' => run_idx_arr (k := 0) Tryz.underlying126 (by kernel_rfl) (by kernel_rfl) (by decide) rfl w'
    go_enter Tryz.func47, Tryz.ntmps47
    go_wp2_with (first
      | (go_at_call 69; refine (HAS.out _ (Q.refl _)).mono ?_; rintro e w1 ⟨rfl, hq1⟩)
      | (go_at_call 91; refine (HRM.out _ j v (HX0.out.q hq1) HV.out).mono ?_; rintro e w2 ⟨rfl, hX2⟩; have HX2 := hide hX2; clear hX2))
    go_ret2
    exact ⟨h.m, r, HX2.out.ls, v, 0, rfl, rfl, rfl, .inr ⟨HII.out, HV.out, rfl⟩⟩
  · have HNI := hide hi
    rw [show askE xs i = 4 from if_neg hi] at HAS
    clear hi
    go_enter Tryz.func47, Tryz.ntmps47
    go_wp2_with (go_at_call 69; refine (HAS.out _ (Q.refl _)).mono ?_; rintro e w1 ⟨rfl, hq1⟩)
    go_ret2
    exact ⟨h.m, r, (HX0.out.q hq1).ls, 0, 4, rfl, rfl, rfl, .inl ⟨HNI.out, rfl, rfl⟩⟩
end
end Go.Proofs.YtdaklffbfadghaaGreat

namespace Go.Proofs.YtdaklffbfadghaaGreat
open Go.RowKit HP
set_option linter.unusedVariables false
set_option linter.unusedSimpArgs false
/-- a row has been written -/
structure Wrtn (m m' : HM) (T : Nat) (ps : List Int) : Prop where
  inv : Inv m'
  fr : Fr m m' ps ps
  calls : m'.calls = m.calls
  failIn : m'.failIn = m.failIn
theorem Wrtn.low {m m' : HM} {T T' d : Nat} {ps : List Int} (W : Wrtn m m' T ps) (h : Low m T' ps d) : Low m' T' ps d := h.same W.fr W.failIn
/-- what Set says -/
def SetO (m m' : HM) (r r2 : Rw) (xs : List Int) (i n err : Int) : Prop :=
  (fitsB n = false ∧ err = 1 ∧ m' = m ∧ r2 = r) ∨ (fitsB n = true ∧ ¬ (0 ≤ i ∧ i < (xs.length : Int)) ∧ err = 4 ∧ m' = m ∧ r2 = r) ∨
  (fitsB n = true ∧ (0 ≤ i ∧ i < (xs.length : Int)) ∧ err = 0 ∧ r2 = r ∧ LstR m' r2 (xs.set i.toNat n) ∧ Wrtn m m' 1 r.ps)
theorem setO_of {m m' : HM} {r : Rw} {xs : List Int} {i : Nat} {n p : Int} (S : LstR m r xs) (hn : fitsB n = true) (hi : i < xs.length) (hp : r.ps[i / 4]? = some p) (W : Writing m m' p (((i % 4 * (8 * 1) : Nat)) : Int) [n] (8 * [n].length)) : SetO m m' r r xs i n 0 := by
  obtain ⟨k1, f1⟩ := S.kp.set (i := i) (by rw [one_len]; exact hi) hp rfl W
  rw [one_set] at k1
  refine .inr (.inr ⟨hn, by omega, rfl, rfl, ⟨W.inv, k1, ?_, S.op, fun x hx => ?_⟩, W.inv, f1, W.calls, W.failIn⟩)
  · rw [List.length_set]; exact S.n
  · rcases List.mem_or_eq_of_mem_set hx with h | h
    · exact S.fit x h
    · rw [h]; exact hn
/-! with a row of the walk's own that grows -/
theorem LDid.apart {W W' : World} {h h' : Hp} {r r' : Rw} (D : LDid W h r W' h' r') {b : Nat} (hb : b < W.heap.size) (h1 : ¬ h.fp b) (h2 : ¬ r.fp b) : W'.heap[b]? = W.heap[b]? ∧ ¬ h'.fp b ∧ ¬ r'.fp b :=
  ⟨D.turn.block b hb fun e => e.elim h1 h2, fun e => (D.hf b e).elim h1 (by omega), fun e => (D.rf b e).elim h2 (by omega)⟩
def LV (w : World) (h : Hp) (r : Rw) (W : World) (m : HM) (r1 : Rw) (v : Value) : Prop := ∃ h1, LDid w h r W h1 r1 ∧ h1.m = m ∧ ∀ g, v.ownBlock = some g → ¬ h1.fp g ∧ ¬ r1.fp g
section
variable {w W W2 : World} {h : Hp} {r r1 : Rw} {m : HM} {v v2 : Value}
theorem LV.ls (X : LV w h r W m r1 v) : LS w h r W m r1 := by
  obtain ⟨h1, D, e, -⟩ := X
  exact ⟨h1, D, e⟩
theorem LV.start (X : LS w h r W m r1) (hv : v.ownBlock = none) : LV w h r W m r1 v := by
  obtain ⟨h1, D, e⟩ := X
  exact ⟨h1, D, e, fun g hg => by rw [hv] at hg; cases hg⟩
theorem LV.q (X : LV w h r W m r1 v) (hq : Q W W2) : LV w h r W2 m r1 v := by
  obtain ⟨h1, D, e, hv⟩ := X
  exact ⟨h1, D.q hq, e, hv⟩
theorem LV.call (X : LV w h r W m r1 v) {B e s n : Nat} {xs : List Value} (hv : W.ownsRow B e s v n xs) {f : FuncId} {args : Array Value} {P : Ending → World → HM → Rw → Prop}
    (hc : ∀ h1, LR W h1 r1 → h1.m = m → h1.ptr = h.ptr → h1.calls = m.calls → Calls Tryz.prog f args W fun e W' => ∃ m2 r2, LS W h1 r1 W' m2 r2 ∧ P e W' m2 r2) :
    Calls Tryz.prog f args W fun en W' => ∃ m2 r2, LV w h r W' m2 r2 v ∧ W'.ownsRow B e s v n xs ∧ P en W' m2 r2 := by
  obtain ⟨h1, D, em, ha⟩ := X
  refine (hc h1 D.lr em (by unfold Hp.ptr; rw [D.hb]) (by rw [← em]; rfl)).mono ?_
  rintro e2 W' ⟨m2, r2, ⟨h2, D2, e3⟩, hP⟩
  have hl : ∀ g, v.ownBlock = some g → g < W.heap.size := fun g hg => (hv.lt g hg).2
  exact ⟨m2, r2, ⟨h2, D.trans D2, e3, fun g hg => (D2.apart (hl g hg) (ha g hg).1 (ha g hg).2).2⟩, own_same hv fun g hg => (D2.apart (hl g hg) (ha g hg).1 (ha g hg).2).1, hP⟩
theorem LV.grown (X : LV w h r W m r1 v) (hg : W.grownBy W2 v.ownBlock) (hb : ∀ g, v.ownBlock = some g → w.heap.size ≤ g) (hn : ∀ g, v2.ownBlock = some g → v.ownBlock = some g ∨ W.heap.size ≤ g) : LV w h r W2 m r1 v2 := by
  obtain ⟨h1, D, e, ha⟩ := X
  have L := D.lr
  have keep : ∀ g, g < W.heap.size → ¬ v.ownBlock = some g → W2.heap[g]? = W.heap[g]? := fun g h1 h2 => hg.block g h1 fun e => h2 e.symm
  have k1 : ∀ g, h1.fp g → W2.heap[g]? = W.heap[g]? := fun g hf => keep g (L.heap.lt g hf) fun e => (ha g e).1 hf
  have k2 : ∀ g, r1.fp g → W2.heap[g]? = W.heap[g]? := fun g hf => keep g (L.rlt g hf) fun e => (ha g e).2 hf
  refine ⟨h1, ⟨⟨L.heap.same k1, L.mu, (k2 _ (.inl rfl)).trans L.cells, own_same L.pcs fun g hg => k2 g (.inr hg), L.ap1, L.ap2⟩, D.hb, D.rb, D.rt, D.turn.grown hg fun k hk hlt => absurd (hb k hk) (by omega), D.hf, D.rf⟩, e, fun g hg2 => ?_⟩
  rcases hn g hg2 with h3 | h3
  · exact ha g h3
  · exact ⟨fun e => by have := L.heap.lt g e; omega, fun e => by have := L.rlt g e; omega⟩
end
section
variable {h : Hp} {r r1 : Rw} {w W : World} {xs : List Int} {m : HM} {bs : List Loc}
set_option maxHeartbeats 4000000 in
set_option maxRecDepth 100000 in
theorem setL_any (L : LR w h r) (S : LstR h.m r xs) (i n : Int) :
    Calls Tryz.prog 49 #[r.ptr, .int .i64 i, .int .i64 n] w fun e w' => ∃ (m' : HM) (r2 : Rw), LS w h r w' m' r2 ∧ ∃ err, e = .returned (.int .i64 err) ∧ SetO h.m m' r r2 xs i n err ∧ r2.more = r.more := by
  have HX0 : Hid (LB w h r w h.m r []) := LB.start L
  have HOP := hide (S.isOpen L)
  have HAS := hide (S.asked L i)
  have HAN := hide (one_are n)
  have HWR : Hid (∀ W (j : Nat) p, LB w h r W h.m r [] → j < xs.length → r.ps[j / 4]? = some p → Calls Tryz.prog 92 #[r.ptr, .int .i64 j, .agg #[.int .i64 n]] W fun e W' => e = .returned (.tuple #[]) ∧ ∃ m', LB w h r W' m' r [] ∧ Writing h.m m' p (((j % 4 * (8 * 1) : Nat)) : Int) [n] (8 * [n].length)) := fun W j p X hj hp => by
    have h2 := S.le
    have h3 := S.n
    obtain ⟨p', hp', -, hh⟩ := S.kp.pcs.at (i := j) (by rw [one_len]; exact hj)
    rw [hp] at hp'
    obtain rfl := Option.some.inj hp'
    exact lb_write1 X S.inv j (by omega) hp hh [n] rfl
  have HPC : Hid (∀ j : Nat, j < xs.length → ∃ p, r.ps[j / 4]? = some p) := fun j hj => by
    obtain ⟨p, hp, -⟩ := S.kp.pcs.at (i := j) (by rw [one_len]; exact hj)
    exact ⟨p, hp⟩
  have HS := hide S
  have hrp : r.ptr = .pointer (some ⟨r.blk, 0, none⟩) := rfl
  rw [hrp] at HOP HAS HWR ⊢
  obtain ⟨b, eb⟩ : ∃ b, b = r.blk := ⟨_, rfl⟩
  rw [← eb] at HOP HAS HWR ⊢
  clear hrp eb S L
  cases hf : fitsB n
  · have HF := hide hf
    go_enter Tryz.func49, Tryz.ntmps49
    go_wp2_with (first
      | (go_at_call 67; refine (HOP.out _ (Q.refl _)).mono ?_; rintro e w1 ⟨rfl, hq1⟩)
      | (go_at_call 89; refine (HAN.out _).mono ?_; rintro e w2 ⟨rfl, hq2⟩))
    go_ret
    exact ⟨h.m, r, (HX0.out.q (hq1.trans (((Q.refl _).alloc _).trans hq2))).ls, 1, rfl, .inl ⟨HF.out, rfl, rfl, rfl⟩, rfl⟩
  · have HF := hide hf
    by_cases hi : 0 ≤ i ∧ i < (xs.length : Int)
    · rw [show askE xs i = 0 from if_pos hi] at HAS
      obtain ⟨j, rfl⟩ : ∃ j : Nat, i = (j : Int) := ⟨i.toNat, by omega⟩
      have hj : j < xs.length := by omega
      have HJ := hide hj
      obtain ⟨p, hp⟩ := HPC.out j hj
      have HP := hide hp
      clear hi hj hp
      go_enter Tryz.func49, Tryz.ntmps49
      go_wp2_with (first
        | (go_at_call 67; refine (HOP.out _ (Q.refl _)).mono ?_; rintro e w1 ⟨rfl, hq1⟩)
        | (go_at_call 89; refine (HAN.out _).mono ?_; rintro e w2 ⟨rfl, hq2⟩; have hq12 := hq1.trans (((Q.refl w1).alloc _).trans hq2))
        | (go_at_call 69; refine (HAS.out _ hq12).mono ?_; rintro e w3 ⟨rfl, hq3⟩)
        | (go_at_call 92; refine (HWR.out _ j p (HX0.out.q (hq12.trans hq3)) HJ.out HP.out).mono ?_; rintro e w4 ⟨rfl, m4, hX4, hW4⟩; have HX4 := hide hX4; have HW4 := hide hW4; clear hX4 hW4))
      go_ret
      exact ⟨m4, r, HX4.out.ls, 0, rfl, setO_of HS.out HF.out HJ.out HP.out HW4.out, rfl⟩
    · have HNI := hide hi
      rw [show askE xs i = 4 from if_neg hi] at HAS
      clear hi
      go_enter Tryz.func49, Tryz.ntmps49
      go_wp2_with (first
        | (go_at_call 67; refine (HOP.out _ (Q.refl _)).mono ?_; rintro e w1 ⟨rfl, hq1⟩)
        | (go_at_call 89; refine (HAN.out _).mono ?_; rintro e w2 ⟨rfl, hq2⟩; have hq12 := hq1.trans (((Q.refl w1).alloc _).trans hq2))
        | (go_at_call 69; refine (HAS.out _ hq12).mono ?_; rintro e w3 ⟨rfl, hq3⟩))
      go_ret
      exact ⟨h.m, r, (HX0.out.q (hq12.trans hq3)).ls, 4, rfl, .inr (.inl ⟨HF.out, HNI.out, rfl, rfl, rfl⟩), rfl⟩
set_option maxHeartbeats 4000000 in
set_option maxRecDepth 100000 in
theorem closeL_any (L : LR w h r) (S : LstR h.m r xs) :
    Calls Tryz.prog 31 #[r.ptr] w fun e w' => ∃ (m' : HM) (r2 : Rw), LS w h r w' m' r2 ∧ e = .returned (.int .i64 0) ∧ Clsd h.m m' r.ps ∧ r2.ps = [] ∧ r2.n = 0 ∧ r2.closed = true ∧ r2.more = r.more := by
  have HX0 : Hid (LB w h r w h.m r []) := LB.start L
  have HOP := hide (S.isOpen L)
  have HCL : Hid (∀ W, LB w h r W h.m r [] → Calls Tryz.prog 85 #[r.ptr] W fun e W' => e = .returned (.tuple #[]) ∧ ∃ (m' : HM) (r2 : Rw), LB w h r W' m' r2 [] ∧ Clsd h.m m' r.ps ∧ r2.ps = [] ∧ r2.n = 0 ∧ r2.closed = true ∧ r2.more = r.more) := fun W X => lb_close1 X S.inv S.le (by have := S.kp.pcs; rw [one_len, S.n] at this; exact this)
  have hrp : r.ptr = .pointer (some ⟨r.blk, 0, none⟩) := rfl
  rw [hrp] at HOP HCL ⊢
  obtain ⟨b, eb⟩ : ∃ b, b = r.blk := ⟨_, rfl⟩
  rw [← eb] at HOP HCL ⊢
  clear hrp eb S L
  go_enter Tryz.func31, Tryz.ntmps31
  go_wp2_with (first
    | (go_at_call 67; refine (HOP.out _ (Q.refl _)).mono ?_; rintro e w1 ⟨rfl, hq1⟩)
    | (go_at_call 85; refine (HCL.out _ (HX0.out.q hq1)).mono ?_; rintro e w2 ⟨rfl, m2, r2, hX2, hC⟩; have HX2 := hide hX2; have HC := hide hC; clear hX2 hC))
  go_ret
  exact ⟨m2, r2, HX2.out.ls, rfl, HC.out⟩
set_option maxHeartbeats 4000000 in
set_option maxRecDepth 100000 in
theorem allL_any (L : LR w h r) (S : LstR h.m r xs) :
    Calls Tryz.prog 52 #[r.ptr] w fun e w' => ∃ (m' : HM) (r2 : Rw), LS w h r w' m' r2 ∧ m' = h.m ∧ r2 = r ∧ ∃ v, e = .returned v ∧ w'.ownsRow w.heap.size 3 1 v xs.length (intsV xs) ∧ LV w h r w' h.m r v := by
  have HX0 : Hid (LB w h r w h.m r []) := LB.start L
  have HOP := hide (S.isOpen L)
  have HRM : Hid (∀ W (j : Nat) x v n ys, LV w h r W h.m r v → W.ownsRow w.heap.size 3 1 v n ys → xs[j]? = some x → Calls Tryz.prog 91 #[r.ptr, .int .i64 j] W fun e W' => e = .returned (.agg #[.int .i64 x]) ∧ LV w h r W' h.m r v ∧ W'.ownsRow w.heap.size 3 1 v n ys) := fun W j x v n ys X hown hv => by
    have h1 := (List.getElem?_eq_some_iff.1 hv).1
    have h2 := S.le
    have h3 := S.n
    refine (X.call hown (P := fun e W' m2 r2 => e = .returned (.agg #[.int .i64 x]) ∧ m2 = h.m ∧ r2 = r) fun h1 L1 e1 e2 _ => ?_).mono ?_
    · refine (read1_any L1 (by rw [e1]; exact S.inv) j (by omega) (by rw [e1]; exact S.kp.row j _ (one_at hv)) (S.bd _ (List.mem_of_getElem? (one_at hv)))).mono ?_
      rintro e W' ⟨he, hX⟩
      rw [e1] at hX
      exact ⟨h.m, r, hX, he, rfl, rfl⟩
    · rintro e W' ⟨m2, r2, hX, ho, he, rfl, rfl⟩
      exact ⟨he, hX, ho⟩
  have HK2 : Hid (∀ W, LB w h r W h.m r [] → W.cell? ⟨r.blk, 2, none⟩ = some (.int .i64 (xs.length : Int)) ∧ r.blk < W.heap.size) := fun W X => by
    rw [S.n]
    exact ⟨X.ls.k2, X.ls.lt⟩
  have hle := S.le
  rw [← S.n] at hle
  have hrp : r.ptr = .pointer (some ⟨r.blk, 0, none⟩) := rfl
  rw [hrp] at HOP HRM ⊢
  obtain ⟨b, eb⟩ : ∃ b, b = r.blk := ⟨_, rfl⟩
  rw [← eb] at HOP HRM HK2 ⊢
  obtain ⟨n, en⟩ : ∃ n, n = xs.length := ⟨_, rfl⟩
  have HEN := hide en
  rw [← en] at hle HK2 ⊢
  have hni : (n : Int) ≤ 64 := by omega
  clear hrp eb S L en
  go_enter Tryz.func52, Tryz.ntmps52
  go_wp2_with (go_at_call 67; refine (HOP.out _ (Q.refl _)).mono ?_; rintro e w1 ⟨rfl, hq1⟩; obtain ⟨c2, hbl⟩ := HK2.out _ (HX0.out.q hq1))
  go_loopw [3, 13] (fun v vi wr => ∃ k : Nat, k ≤ n ∧ vi = .int .i64 (k : Int) ∧ wr.ownsRow w.heap.size 3 1 v k (intsV (xs.take k)) ∧ w.heap.size ≤ wr.heap.size ∧ LV w h r wr h.m r v) (fun _ vi _ => n - (intOf vi).toNat)
  case atStart => exact ⟨0, by omega, by go_num, World.ownsRow_nil _ _ _ _, hq1.size, LV.start (HX0.out.q hq1).ls rfl⟩
  case round =>
    obtain ⟨k, hk, rfl, hown, hsz, hX⟩ := hrel
    have HX := hide hX
    clear hX
    by_cases hlt : k < n
    · have hd1 : decide ((k : Int) < (n : Int)) = true := by simp; omega
      have hd0 : decide (k < n) = true := by simp; omega
      have hlti : (k : Int) < (n : Int) := by omega
      obtain ⟨x, hx⟩ : ∃ x, xs[k]? = some x := ⟨xs[k]'(by rw [← HEN.out]; exact hlt), List.getElem?_eq_getElem _⟩
      have HXK := hide hx
      have HT : Hid (intsV (xs.take (k + 1)) = intsV (xs.take k) ++ [.int .i64 x]) := by
        obtain ⟨h1, h2⟩ := List.getElem?_eq_some_iff.1 hx
        unfold intsV
        rw [List.take_succ_eq_append_getElem h1, h2, List.map_append]
        rfl
      have hix : ∀ w', (Instr.index 126 (.agg #[.int .i64 x]) (.int .i64 0)).run Tryz.prog w' = .ok (.int .i64 x) w' := fun w' => run_idx_arr (k := 0) Tryz.underlying126 (by kernel_rfl) (by kernel_rfl) (by decide) rfl w'
      obtain ⟨A, c, ev, -⟩ := own_form hown
      subst ev
      have HOWN := hide hown
      clear hx hown
      go_wp2_with (first
        | (go_at_call 91; refine (HRM.out _ k x _ _ _ HX.out HOWN.out HXK.out).mono ?_; rintro e w3 ⟨rfl, hX3, hown3⟩; have HX3 := hide hX3; have hs3 := hX3.ls; clear hX3)
        | (at_builtin; go_loud (refine wpList_app1b rfl El_int _ _ rfl rfl hown3 rfl rfl rfl ?_ ?_ ?_ ?_; (focus (simp [Value.oneCell'])); (focus omega); (focus (obtain ⟨h9, D9, -⟩ := hs3; exact D9.turn.size)); intro v1 w7 hown7 hg7 hn7)))
      go_roundw
      case rel =>
        have hb9 : ∀ g, Value.ownBlock (.slice A k c) = some g → w.heap.size ≤ g := fun g hg => (hown3.lt g hg).1
        refine ⟨k + 1, by omega, by go_num, by rw [HT.out]; exact hown7, ?_, HX3.out.grown hg7 hb9 hn7⟩
        obtain ⟨h9, D9, -⟩ := hs3
        exact Nat.le_trans D9.turn.size hg7.size
      case measure => simp [intOf] <;> omega
    · have hd1 : decide ((k : Int) < (n : Int)) = false := by simp; omega
      have hd0 : decide (k < n) = false := by simp; omega
      obtain rfl : k = n := by omega
      have HOWN := hide hown
      clear hown
      go_wp2_with fail
      go_ret
      have ho := HOWN.out
      rw [List.take_of_length_le (by rw [HEN.out]; exact Nat.le_refl _)] at ho
      exact ⟨h.m, r, HX.out.ls, rfl, rfl, _, rfl, ho, HX.out⟩
end
end Go.Proofs.YtdaklffbfadghaaGreat
