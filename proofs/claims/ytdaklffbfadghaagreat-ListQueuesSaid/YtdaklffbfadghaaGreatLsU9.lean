/- areNumbers; isOpen; what a list that cannot be used answers. The methods of a list that is open. Conditions: as each theorem says. -/
import Derived.Test.YtdaklffbfadghaaGreatLsU8
namespace Go.Proofs.YtdaklffbfadghaaGreat
open Go.RowKit HP
set_option linter.unusedVariables false
set_option linter.unusedSimpArgs false
/-- a number that may be kept -/
def fitsB (v : Int) : Bool := !(decide (v < -2147483648) || decide (2147483648 ≤ v))
theorem fitsB_iff {v : Int} : fitsB v = true ↔ -2147483648 ≤ v ∧ v < 2147483648 := by
  unfold fitsB
  simp
theorem all_at {l : List Int} {k : Nat} {v : Int} (hv : l[k]? = some v) (hf : fitsB v = false) : l.all fitsB = false := by
  rw [List.all_eq_false]
  exact ⟨v, List.mem_of_getElem? hv, by rw [hf]; decide⟩
set_option maxHeartbeats 4000000 in
set_option maxRecDepth 100000 in
theorem areNumbers_any (A : Option Addr) (n c : Nat) (l : List Int) (w : World) (hl : l.length = n) (hr : Rd w w.heap.size A (intsV l)) (hn : n ≤ 1000) :
    Calls Tryz.prog 89 #[.slice A n c] w fun e w' => e = .returned (.bool (l.all fitsB)) ∧ Q w w' := by
  obtain ⟨res, hres⟩ : ∃ res, res = l.all fitsB := ⟨_, rfl⟩
  rw [← hres]
  have HRES := hide hres
  have HR := hide hr
  have HL := hide hl
  have hni : (n : Int) ≤ 1000 := by omega
  clear hres hr hl
  go_enter Tryz.func89, Tryz.ntmps89
  go_wp2_with fail
  go_loopw [7] (fun vi wr => ∃ k : Nat, k ≤ n ∧ vi = .int .i64 (k : Int) ∧ wr = w ∧ ∀ (j : Nat) (x : Int), j < k → l[j]? = some x → fitsB x = true) (fun vi _ => n - (intOf vi).toNat)
  case atStart => exact ⟨0, by omega, by go_num, rfl, fun j x hj => by omega⟩
  case round =>
    obtain ⟨k, hk, rfl, rfl, hall⟩ := hrel
    have HA := hide hall
    clear hall
    by_cases hlt : k < n
    · have hd1 : decide ((k : Int) < (n : Int)) = true := by simp; omega
      have hd0 : decide (k < n) = true := by simp; omega
      have hlti : (k : Int) < (n : Int) := by omega
      have hkl : k < l.length := by rw [HL.out]; exact hlt
      obtain ⟨v, hv⟩ : ∃ v, l[k]? = some v := ⟨l[k], List.getElem?_eq_getElem hkl⟩
      have HV := hide hv
      obtain ⟨b, o, eA, hb, hcells⟩ := HR.out.at_ (by unfold intsV; rw [List.length_map]; omega)
      have cK : wr.cell? ⟨b, o + k, none⟩ = some (.int .i64 v) := by
        rw [hcells k (by unfold intsV; rw [List.length_map]; omega)]
        have := (List.getElem?_eq_some_iff.1 hv).2
        unfold intsV
        rw [List.getElem_map, this]
      subst eA
      clear hcells hkl hv
      cases h1 : decide (v < -2147483648)
      · cases h2 : decide (2147483648 ≤ v)
        · have HF : Hid (fitsB v = true) := by show fitsB v = true; unfold fitsB; rw [h1, h2]; rfl
          go_wp2_with fail
          go_roundw
          case rel =>
            refine ⟨k + 1, by omega, by go_num, by first | rfl | trivial, fun j x hj hx => ?_⟩
            by_cases e : j = k
            · subst e
              have := HV.out
              rw [hx] at this
              rw [Option.some.inj this]
              exact HF.out
            · exact HA.out j x (by omega) hx
          case measure => simp [intOf] <;> omega
        · have HF : Hid (res = false) := by show res = false; rw [HRES.out]; exact all_at HV.out (by unfold fitsB; rw [h1, h2]; rfl)
          go_wp2_with fail
          go_ret
          exact ⟨by rw [HF.out]; rfl, Q.refl _⟩
      · have HF : Hid (res = false) := by show res = false; rw [HRES.out]; exact all_at HV.out (by unfold fitsB; rw [h1]; rfl)
        go_wp2_with fail
        go_ret
        exact ⟨by rw [HF.out]; rfl, Q.refl _⟩
    · have hd1 : decide ((k : Int) < (n : Int)) = false := by simp; omega
      have hd0 : decide (k < n) = false := by simp; omega
      obtain rfl : k = n := by omega
      have HF : Hid (res = true) := by
        show res = true
        rw [HRES.out, List.all_eq_true]
        intro x hx
        obtain ⟨j, hj, e⟩ := List.getElem_of_mem hx
        exact HA.out j x (by rw [← HL.out]; exact hj) (by rw [List.getElem?_eq_getElem hj, e])
      go_wp2_with fail
      go_ret
      exact ⟨by rw [HF.out]; rfl, Q.refl _⟩
set_option maxHeartbeats 4000000 in
set_option maxRecDepth 100000 in
theorem isOpen_any {h : Hp} {r : Rw} {w : World} (L : LR w h r) : Calls Tryz.prog 67 #[r.ptr] w fun e w' => e = .returned (.bool (!r.closed)) ∧ Q w w' := by
  have c3 := L.k3
  unfold Rw.ptr
  obtain ⟨b, eb⟩ : ∃ b, b = r.blk := ⟨_, rfl⟩
  obtain ⟨c, ec⟩ : ∃ c, c = r.closed := ⟨_, rfl⟩
  rw [← eb, ← ec] at c3
  rw [← eb, ← ec]
  clear eb ec L
  go_enter Tryz.func67, Tryz.ntmps67
  go_wp2_with fail
  go_ret
  exact ⟨rfl, Q.refl _⟩
set_option maxHeartbeats 4000000 in
set_option maxRecDepth 100000 in
theorem isOpen_nil (w : World) : Calls Tryz.prog 67 #[.pointer none] w fun e w' => e = .returned (.bool false) ∧ Q w w' := by
  go_enter Tryz.func67, Tryz.ntmps67
  go_wp2_with fail
  go_ret
  exact ⟨rfl, Q.refl _⟩
/-- a list that cannot be used: nil or closed -/
def DeadL (v : Value) (w : World) : Prop := ∀ W, Q w W → Calls Tryz.prog 67 #[v] W fun e w' => e = .returned (.bool false) ∧ Q W w'
theorem deadL_nil (w : World) : DeadL (.pointer none) w := fun W _ => isOpen_nil W
theorem deadL_closed {h : Hp} {r : Rw} {w : World} (L : LR w h r) (hc : r.closed = true) : DeadL r.ptr w := fun W hq => by
  have := isOpen_any ((LDid.refl L).q hq).lr
  rw [hc] at this
  exact this
section
variable {v : Value} {w : World}
theorem DeadL.q {w' : World} (D : DeadL v w) (hq : Q w w') : DeadL v w' := fun W h => D W (hq.trans h)
set_option maxHeartbeats 4000000 in
set_option maxRecDepth 100000 in
theorem dead_insert (D : DeadL v w) (i n : Int) : Calls Tryz.prog 46 #[v, .int .i64 i, .int .i64 n] w fun e w' => e = .returned (.int .i64 9) ∧ Q w w' := by
  have HD := hide D
  clear D
  go_enter Tryz.func46, Tryz.ntmps46
  go_wp2_with (go_at_call 67; refine (HD.out _ (Q.refl _)).mono ?_; rintro e w1 ⟨rfl, hq1⟩)
  go_ret
  exact ⟨rfl, hq1⟩
set_option maxHeartbeats 4000000 in
set_option maxRecDepth 100000 in
theorem dead_add (D : DeadL v w) (n : Int) : Calls Tryz.prog 17 #[v, .int .i64 n] w fun e w' => e = .returned (.int .i64 9) ∧ Q w w' := by
  have HD := hide D
  clear D
  go_enter Tryz.func17, Tryz.ntmps17
  go_wp2_with (go_at_call 67; refine (HD.out _ (Q.refl _)).mono ?_; rintro e w1 ⟨rfl, hq1⟩)
  go_ret
  exact ⟨rfl, hq1⟩
set_option maxHeartbeats 4000000 in
set_option maxRecDepth 100000 in
theorem dead_asked (D : DeadL v w) (i : Int) : Calls Tryz.prog 69 #[v, .int .i64 i] w fun e w' => e = .returned (.int .i64 9) ∧ Q w w' := by
  have HD := hide D
  clear D
  go_enter Tryz.func69, Tryz.ntmps69
  go_wp2_with (go_at_call 67; refine (HD.out _ (Q.refl _)).mono ?_; rintro e w1 ⟨rfl, hq1⟩)
  go_ret
  exact ⟨rfl, hq1⟩
set_option maxHeartbeats 4000000 in
set_option maxRecDepth 100000 in
theorem dead_remove (D : DeadL v w) (i : Int) : Calls Tryz.prog 19 #[v, .int .i64 i] w fun e w' => e = .returned (.tuple #[.int .i64 0, .int .i64 9]) ∧ Q w w' := by
  have HD : Hid (∀ W, Q w W → Calls Tryz.prog 69 #[v, .int .i64 i] W fun e w' => e = .returned (.int .i64 9) ∧ Q W w') := fun W hq => dead_asked (D.q hq) i
  clear D
  go_enter Tryz.func19, Tryz.ntmps19
  go_wp2_with (go_at_call 69; refine (HD.out _ (Q.refl _)).mono ?_; rintro e w1 ⟨rfl, hq1⟩)
  go_ret2
  exact ⟨rfl, hq1⟩
set_option maxHeartbeats 4000000 in
set_option maxRecDepth 100000 in
theorem dead_get (D : DeadL v w) (i : Int) : Calls Tryz.prog 47 #[v, .int .i64 i] w fun e w' => e = .returned (.tuple #[.int .i64 0, .int .i64 9]) ∧ Q w w' := by
  have HD : Hid (∀ W, Q w W → Calls Tryz.prog 69 #[v, .int .i64 i] W fun e w' => e = .returned (.int .i64 9) ∧ Q W w') := fun W hq => dead_asked (D.q hq) i
  clear D
  go_enter Tryz.func47, Tryz.ntmps47
  go_wp2_with (go_at_call 69; refine (HD.out _ (Q.refl _)).mono ?_; rintro e w1 ⟨rfl, hq1⟩)
  go_ret2
  exact ⟨rfl, hq1⟩
set_option maxHeartbeats 4000000 in
set_option maxRecDepth 100000 in
theorem dead_set (D : DeadL v w) (i n : Int) : Calls Tryz.prog 49 #[v, .int .i64 i, .int .i64 n] w fun e w' => e = .returned (.int .i64 9) ∧ Q w w' := by
  have HA : Hid (∀ W, Q w W → Calls Tryz.prog 69 #[v, .int .i64 i] W fun e w' => e = .returned (.int .i64 9) ∧ Q W w') := fun W hq => dead_asked (D.q hq) i
  have HD := hide D
  clear D
  go_enter Tryz.func49, Tryz.ntmps49
  go_wp2_with (first
    | (go_at_call 67; refine (HD.out _ (Q.refl _)).mono ?_; rintro e w1 ⟨rfl, hq1⟩)
    | (go_at_call 69; refine (HA.out _ hq1).mono ?_; rintro e w2 ⟨rfl, hq2⟩))
  go_ret
  exact ⟨rfl, hq1.trans hq2⟩
set_option maxHeartbeats 4000000 in
set_option maxRecDepth 100000 in
theorem dead_close (D : DeadL v w) : Calls Tryz.prog 31 #[v] w fun e w' => e = .returned (.int .i64 9) ∧ Q w w' := by
  have HD := hide D
  clear D
  go_enter Tryz.func31, Tryz.ntmps31
  go_wp2_with (go_at_call 67; refine (HD.out _ (Q.refl _)).mono ?_; rintro e w1 ⟨rfl, hq1⟩)
  go_ret
  exact ⟨rfl, hq1⟩
set_option maxHeartbeats 4000000 in
set_option maxRecDepth 100000 in
theorem dead_all (D : DeadL v w) : Calls Tryz.prog 52 #[v] w fun e w' => e = .returned (.slice none 0 0) ∧ Q w w' := by
  have HD := hide D
  clear D
  go_enter Tryz.func52, Tryz.ntmps52
  go_wp2_with (go_at_call 67; refine (HD.out _ (Q.refl _)).mono ?_; rintro e w1 ⟨rfl, hq1⟩)
  go_ret
  exact ⟨rfl, hq1⟩
end
end Go.Proofs.YtdaklffbfadghaaGreat

namespace Go.Proofs.YtdaklffbfadghaaGreat
open Go.RowKit HP
set_option linter.unusedVariables false
set_option linter.unusedSimpArgs false
def one (xs : List Int) : List (List Int) := xs.map fun x => [x]
theorem one_len (xs : List Int) : (one xs).length = xs.length := List.length_map _
theorem one_at {xs : List Int} {i : Nat} {x : Int} (h : xs[i]? = some x) : (one xs)[i]? = some [x] := by unfold one; rw [List.getElem?_map, h]; rfl
theorem one_ins (xs : List Int) (i : Nat) (n : Int) : insAt (one xs) i [[n]] = one (insAt xs i [n]) := by
  unfold one
  rw [insAt_map]
theorem one_del (xs : List Int) (i : Nat) : delAt (one xs) i 1 = one (delAt xs i 1) := by
  unfold one
  rw [delAt_map]
theorem one_set (xs : List Int) (i : Nat) (n : Int) : (one xs).set i [n] = one (xs.set i n) := by
  unfold one
  rw [List.map_set]
theorem fits_bd {v : Int} (h : fitsB v = true) : -9223372036854775808 ≤ v ∧ v ≤ 9223372036854775807 := by
  have := fitsB_iff.1 h
  omega
/-- an open list of numbers -/
structure LstR (m : HM) (r : Rw) (xs : List Int) : Prop where
  inv : Inv m
  kp : Kp m 1 r.ps (one xs)
  n : xs.length = r.n
  op : r.closed = false
  fit : ∀ x ∈ xs, fitsB x = true
theorem LstR.bd {m : HM} {r : Rw} {xs : List Int} (S : LstR m r xs) : BdL (one xs) := fun row hr v hv => by
  obtain ⟨x, hx, rfl⟩ := List.mem_map.1 hr
  rw [List.mem_singleton] at hv
  subst hv
  exact fits_bd (S.fit v hx)
theorem LstR.le {m : HM} {r : Rw} {xs : List Int} (S : LstR m r xs) : r.n ≤ 64 := by
  have := S.kp.len
  rw [one_len, S.n] at this
  exact this
/-- what Insert says -/
def InsO (m m' : HM) (r r2 : Rw) (xs : List Int) (i n err : Int) : Prop :=
  (fitsB n = false ∧ err = 1 ∧ m' = m ∧ r2 = r) ∨ (fitsB n = true ∧ ¬ (0 ≤ i ∧ i ≤ (xs.length : Int)) ∧ err = 4 ∧ m' = m ∧ r2 = r) ∨
  (fitsB n = true ∧ (0 ≤ i ∧ i ≤ (xs.length : Int)) ∧ ∃ ok : Bool, err = (if ok then 0 else 3) ∧ LstR m' r2 (if ok then insAt xs i.toNat [n] else xs) ∧ Insd m m' 1 r.ps r2.ps (one xs) i.toNat [n] ok)
theorem insO_of {m m' : HM} {r r2 : Rw} {xs : List Int} {i : Nat} {n : Int} {ok : Bool} (S : LstR m r xs) (hn : fitsB n = true) (hi : i ≤ xs.length) (hI : Insd m m' 1 r.ps r2.ps (one xs) i [n] ok) (h2n : r2.n = r.n + (if ok then 1 else 0)) (h2c : r2.closed = r.closed) :
    InsO m m' r r2 xs i n (if ok then 0 else 3) := by
  refine .inr (.inr ⟨hn, by omega, ok, rfl, ⟨hI.inv, ?_, ?_, h2c.trans S.op, ?_⟩, hI⟩)
  · have := hI.kp
    cases ok
    · exact this
    · rw [if_pos rfl, one_ins] at this
      exact this
  · rw [h2n, ← S.n]
    cases ok
    · rfl
    · show (insAt xs i [n]).length = _
      rw [insAt_len _ _ _ hi]
      rfl
  · cases ok
    · exact S.fit
    · intro x hx
      have hx : x ∈ insAt xs i [n] := hx
      rcases insAt_mem.1 hx with rfl | hx
      · exact hn
      · exact S.fit x hx
section
variable {h : Hp} {r : Rw} {w : World} {xs : List Int}
set_option maxHeartbeats 4000000 in
set_option maxRecDepth 100000 in
theorem insertL_any (L : LR w h r) (S : LstR h.m r xs) (hc : h.calls < 1000000000) (i n : Int) :
    Calls Tryz.prog 46 #[r.ptr, .int .i64 i, .int .i64 n] w fun e w' => ∃ (err : Int) (m' : HM) (r2 : Rw), e = .returned (.int .i64 err) ∧ LS w h r w' m' r2 ∧ InsO h.m m' r r2 xs i n err ∧ r2.more = r.more := by
  have HX0 : Hid (LB w h r w h.m r []) := LB.start L
  have HOP : Hid (∀ W, Q w W → Calls Tryz.prog 67 #[r.ptr] W fun e w' => e = .returned (.bool true) ∧ Q W w') := fun W hq => by
    have := isOpen_any ((LDid.refl L).q hq).lr
    rw [S.op] at this
    exact this
  have HAN : Hid (∀ W : World, Calls Tryz.prog 89 #[.slice (some ⟨W.heap.size, 0, none⟩) 1 1] (W.alloc (.cells #[.int .i64 n] 3)) fun e w' => e = .returned (.bool (fitsB n)) ∧ Q (W.alloc (.cells #[.int .i64 n] 3)) w') := fun W => by
    have := areNumbers_any (some ⟨W.heap.size, 0, none⟩) 1 1 [n] (W.alloc (.cells #[.int .i64 n] 3)) rfl (.inr ⟨W.heap.size, 0, rfl, by simp, fun j u hu => by
      rw [World.cell?_alloc_new]
      simpa [intsV] using hu⟩) (by decide)
    simpa using this
  have HIN : Hid (∀ W bs (j : Nat), LB w h r W h.m r bs → j ≤ r.n → Calls Tryz.prog 90 #[r.ptr, .int .i64 j, .agg #[.int .i64 n]] W fun e W' => ∃ (ok : Bool) (m' : HM) (r2 : Rw) (er : Int), e = .returned (.int .i64 er) ∧ er = (if ok then 0 else 3) ∧ LB w h r W' m' r2 bs ∧ Insd h.m m' 1 r.ps r2.ps (one xs) j [n] ok ∧ r2.n = r.n + (if ok then 1 else 0) ∧ r2.closed = r.closed ∧ r2.more = r.more) := fun W bs j X hj => (lb_insert1 X S.inv S.kp (by rw [one_len]; exact S.n) hc S.bd j hj n).mono fun e W' ⟨ok, m', r2, he, hg⟩ => ⟨ok, m', r2, _, he, rfl, hg⟩
  have HK2 : Hid (∀ W, LB w h r W h.m r [] → W.cell? ⟨r.blk, 2, none⟩ = some (.int .i64 (xs.length : Int)) ∧ r.blk < W.heap.size) := fun W X => by
    rw [S.n]
    exact ⟨X.ls.k2, X.ls.lt⟩
  have HS := hide S
  have hle := S.le
  rw [← S.n] at hle
  have hrp : r.ptr = .pointer (some ⟨r.blk, 0, none⟩) := rfl
  rw [hrp] at HOP HIN ⊢
  obtain ⟨b, eb⟩ : ∃ b, b = r.blk := ⟨_, rfl⟩
  rw [← eb] at HOP HIN HK2 ⊢
  obtain ⟨len, el⟩ : ∃ len, len = xs.length := ⟨_, rfl⟩
  have HEL := hide el
  rw [← el] at hle HK2
  clear hrp eb S L el
  cases hf : fitsB n
  · have HF := hide hf
    go_enter Tryz.func46, Tryz.ntmps46
    go_wp2_with (first
      | (go_at_call 67; refine (HOP.out _ (Q.refl _)).mono ?_; rintro e w1 ⟨rfl, hq1⟩)
      | (go_at_call 89; refine (HAN.out _).mono ?_; rintro e w2 ⟨rfl, hq2⟩))
    go_ret
    exact ⟨1, h.m, r, rfl, (HX0.out.q (hq1.trans (((Q.refl _).alloc _).trans hq2))).ls, .inl ⟨HF.out, rfl, rfl, rfl⟩, rfl⟩
  · have HF := hide hf
    have HX2 : Hid (∀ w1 w2, Q w w1 → Q (w1.alloc (.cells #[.int .i64 n] 3)) w2 → LB w h r w2 h.m r []) := fun w1 w2 hq1 hq2 => HX0.out.q (hq1.trans (((Q.refl _).alloc _).trans hq2))
    by_cases hi : 0 ≤ i ∧ i ≤ (len : Int)
    · have hd1 : decide (i < 0) = false := by simp; omega
      have hd2 : decide ((len : Int) < i) = false := by simp; omega
      obtain ⟨j, rfl⟩ : ∃ j : Nat, i = (j : Int) := ⟨i.toNat, by omega⟩
      have hj : j ≤ len := by omega
      clear hi
      go_enter Tryz.func46, Tryz.ntmps46
      go_wp2_with (first
        | (go_at_call 67; refine (HOP.out _ (Q.refl _)).mono ?_; rintro e w1 ⟨rfl, hq1⟩)
        | (go_at_call 89; refine (HAN.out _).mono ?_; rintro e w2 ⟨rfl, hq2⟩; obtain ⟨c2, hbl⟩ := HK2.out _ (HX2.out _ _ hq1 hq2))
        | (go_at_call 90; refine (HIN.out _ [] j (HX2.out _ _ hq1 hq2) (by rw [← HS.out.n, ← HEL.out]; exact hj)).mono ?_; rintro e w3 ⟨ok, m', r2, er, rfl, her, hX3, hI, h2n, h2c, h2m⟩; have HER := hide her; clear her; have HX3 := hide hX3; have HI := hide hI; have H2N := hide h2n; have H2C := hide h2c; have H2M := hide h2m; clear hX3 hI h2n h2c h2m))
      go_ret
      refine ⟨er, m', r2, rfl, HX3.out.ls, ?_, H2M.out⟩
      rw [HER.out]
      exact insO_of HS.out HF.out (by rw [← HEL.out]; exact hj) HI.out H2N.out H2C.out
    · have HNI := hide hi
      have hd : decide (i < 0) = true ∨ (decide (i < 0) = false ∧ decide ((len : Int) < i) = true) := by
        by_cases h0 : i < 0
        · exact .inl (by simpa using h0)
        · exact .inr ⟨by simpa using h0, by simp; omega⟩
      clear hi
      rcases hd with hd | ⟨hd, hd2⟩
      · go_enter Tryz.func46, Tryz.ntmps46
        go_wp2_with (first
          | (go_at_call 67; refine (HOP.out _ (Q.refl _)).mono ?_; rintro e w1 ⟨rfl, hq1⟩)
          | (go_at_call 89; refine (HAN.out _).mono ?_; rintro e w2 ⟨rfl, hq2⟩))
        go_ret
        exact ⟨4, h.m, r, rfl, (HX2.out _ _ hq1 hq2).ls, .inr (.inl ⟨HF.out, by rw [← HEL.out]; exact HNI.out, rfl, rfl, rfl⟩), rfl⟩
      · go_enter Tryz.func46, Tryz.ntmps46
        go_wp2_with (first
          | (go_at_call 67; refine (HOP.out _ (Q.refl _)).mono ?_; rintro e w1 ⟨rfl, hq1⟩)
          | (go_at_call 89; refine (HAN.out _).mono ?_; rintro e w2 ⟨rfl, hq2⟩; obtain ⟨c2, hbl⟩ := HK2.out _ (HX2.out _ _ hq1 hq2)))
        go_ret
        exact ⟨4, h.m, r, rfl, (HX2.out _ _ hq1 hq2).ls, .inr (.inl ⟨HF.out, by rw [← HEL.out]; exact HNI.out, rfl, rfl, rfl⟩), rfl⟩
end
end Go.Proofs.YtdaklffbfadghaaGreat
