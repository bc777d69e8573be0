/- The state of a call on a map: heap, rows, and the map of the language that holds each key's place. What a map is asked first; Put, Get of a map that is open. Put of a map that is open. Conditions: as each theorem says. -/
import Derived.Test.YtdaklffbfadghaaGreatLsU8
import Derived.Test.YtdaklffbfadghaaGreatLsU10
import Derived.Test.YtdaklffbfadghaaGreatLsU4
namespace Go.Proofs.YtdaklffbfadghaaGreat
open Go.RowKit HP Go.Maps
set_option linter.unusedVariables false
set_option linter.unusedSimpArgs false
theorem lawI : Keyed Tryz.prog 3 := int_keyed Tryz.underlying3
theorem zeroI (w : World) : (zeroValue 3).run Tryz.prog w = .ok (.int .i64 0) w := by kernel_rfl
abbrev DM := DataW Unit
abbrev World.keeps (w : World) (mb : Nat) (n : Nat) (D : DM) : Prop := w.ownsMap Tryz.prog 3 (plainElem Tryz.prog 3) mb n D
/-- of the world w, in which heap, rows and map lay so, the heap is m now, the rows are r1, the map holds D -/
structure MS (w : World) (h : Hp) (r : Rw) (mb : Nat) (W : World) (m : HM) (r1 : Rw) (n : Nat) (D : DM) (h1 : Hp) : Prop where
  lr : LR W h1 r1
  hm : h1.m = m
  hb : h1.blk = h.blk
  rb : r1.blk = r.blk
  rt : r1.ty = r.ty
  turn : Turn (fun b => h.fp b ∨ r.fp b ∨ b = mb) w W
  hf : ∀ b, h1.fp b → h.fp b ∨ w.heap.size ≤ b
  rf : ∀ b, r1.fp b → r.fp b ∨ w.heap.size ≤ b
  own : World.keeps W mb n D
  ap : ¬ h1.fp mb ∧ ¬ r1.fp mb
section
variable {w W W2 : World} {h h1 : Hp} {r r1 : Rw} {mb n n2 : Nat} {m : HM} {D D2 : DM}
theorem MS.start (L : LR w h r) (o : World.keeps w mb n D) (ha : ¬ h.fp mb ∧ ¬ r.fp mb) : MS w h r mb w h.m r n D h := ⟨L, rfl, rfl, rfl, rfl, .refl _ _, fun b e => .inl e, fun b e => .inl e, o, ha⟩
theorem MS.ptr (X : MS w h r mb W m r1 n D h1) : h1.ptr = h.ptr := by unfold Hp.ptr; rw [X.hb]
theorem MS.q (X : MS w h r mb W m r1 n D h1) (hq : Q W W2) : MS w h r mb W2 m r1 n D h1 :=
  ⟨((LDid.refl X.lr).q hq).lr, X.hm, X.hb, X.rb, X.rt, X.turn.q hq, X.hf, X.rf, X.own.kept (row := none) ⟨hq.below.os, hq.below.tape, hq.below.output, hq.size, fun k hk _ => hq.below.block k hk⟩ (by simp), X.ap⟩
/-- the heap and the rows are acted on -/
theorem MS.act (X : MS w h r mb W m r1 n D h1) {m2 : HM} {r2 : Rw} (S : LS W h1 r1 W2 m2 r2) : ∃ h2, MS w h r mb W2 m2 r2 n D h2 := by
  obtain ⟨h2, D2, e⟩ := S
  have hl := X.own.lt
  obtain ⟨a1, a2, a3⟩ := D2.apart hl X.ap.1 X.ap.2
  have hk : World.keeps W2 mb n D := by
    obtain ⟨es, clock, hb, hr⟩ := X.own
    exact ⟨es, clock, a1.trans hb, hr⟩
  refine ⟨h2, D2.lr, e, D2.hb.trans X.hb, D2.rb.trans X.rb, D2.rt.trans X.rt, X.turn.trans D2.turn fun i hi e => ?_, fun b e => ?_, fun b e => ?_, hk, a2, a3⟩
  · rcases e with e | e
    · rcases X.hf i e with e | e
      · exact .inl e
      · omega
    · rcases X.rf i e with e | e
      · exact .inr (.inl e)
      · omega
  · rcases D2.hf b e with e | e
    · exact X.hf b e
    · exact .inr (Nat.le_trans X.turn.size e)
  · rcases D2.rf b e with e | e
    · exact X.rf b e
    · exact .inr (Nat.le_trans X.turn.size e)
theorem MS.call (X : MS w h r mb W m r1 n D h1) {f : FuncId} {args : Array Value} {P : Ending → World → HM → Rw → Prop}
    (hc : ∀ h1, LR W h1 r1 → h1.m = m → h1.ptr = h.ptr → h1.calls = m.calls → Calls Tryz.prog f args W fun e W' => ∃ m2 r2, LS W h1 r1 W' m2 r2 ∧ P e W' m2 r2) :
    Calls Tryz.prog f args W fun e W' => ∃ m2 r2 h2, MS w h r mb W' m2 r2 n D h2 ∧ P e W' m2 r2 := by
  refine (hc h1 X.lr X.hm X.ptr (by rw [← X.hm]; rfl)).mono ?_
  rintro e W' ⟨m2, r2, S, hP⟩
  obtain ⟨h2, Y⟩ := X.act S
  exact ⟨m2, r2, h2, Y, hP⟩
/-- the map is written -/
theorem MS.grown (X : MS w h r mb W m r1 n D h1) (hg : W.grownBy W2 (some mb)) (o : World.keeps W2 mb n2 D2) : MS w h r mb W2 m r1 n2 D2 h1 := by
  have L := X.lr
  have k1 : ∀ g, h1.fp g → W2.heap[g]? = W.heap[g]? := fun g hf => hg.block g (L.heap.lt g hf) fun e => X.ap.1 (by injection e with e; rw [← e]; exact hf)
  have k2 : ∀ g, r1.fp g → W2.heap[g]? = W.heap[g]? := fun g hf => hg.block g (L.rlt g hf) fun e => X.ap.2 (by injection e with e; rw [← e]; exact hf)
  exact ⟨⟨L.heap.same k1, L.mu, (k2 _ (.inl rfl)).trans L.cells, own_same L.pcs fun g hg => k2 g (.inr hg), L.ap1, L.ap2⟩, X.hm, X.hb, X.rb, X.rt, X.turn.grown hg fun k hk _ => by cases hk; exact .inr (.inr rfl), X.hf, X.rf, o, X.ap⟩
theorem MS.ls (X : MS w h r mb W m r1 n D h1) : LS W h1 r1 W m r1 := by
  have := LS.start X.lr
  rw [X.hm] at this
  exact this
theorem MS.k (X : MS w h r mb W m r1 n D h1) (hmo : r1.more = [.map (some mb)]) : W.cell? ⟨r.blk, 2, none⟩ = some (.int .i64 r1.n) ∧ W.cell? ⟨r.blk, 3, none⟩ = some (.bool r1.closed) ∧ W.cell? ⟨r.blk, 4, none⟩ = some (.map (some mb)) ∧ r.blk < W.heap.size := by
  have k2 := X.ls.k2
  have k3 := X.ls.k3
  have k4 := X.ls.kj 4
  have hl := X.ls.lt
  rw [X.rb] at k2 k3 k4 hl
  refine ⟨k2, k3, ?_, hl⟩
  rw [k4]
  unfold Rw.cells
  rw [hmo]
  rfl
end
/-! rows of two numbers -/
def two (kv : List (Int × Int)) : List (List Int) := kv.map fun x => [x.1, x.2]
theorem two_len (kv : List (Int × Int)) : (two kv).length = kv.length := List.length_map _
theorem two_at {kv : List (Int × Int)} {i : Nat} {x : Int × Int} (h : kv[i]? = some x) : (two kv)[i]? = some [x.1, x.2] := by unfold two; rw [List.getElem?_map, h]; rfl
theorem two_ins (kv : List (Int × Int)) (i : Nat) (x : Int × Int) : insAt (two kv) i [[x.1, x.2]] = two (insAt kv i [x]) := by
  unfold two
  rw [insAt_map]
theorem two_del (kv : List (Int × Int)) (i : Nat) : delAt (two kv) i 1 = two (delAt kv i 1) := by
  unfold two
  rw [delAt_map]
theorem two_set (kv : List (Int × Int)) (i : Nat) (x : Int × Int) : (two kv).set i [x.1, x.2] = two (kv.set i x) := by
  unfold two
  rw [List.map_set]
def fits2 (x : Int × Int) : Bool := fitsB x.1 && fitsB x.2
def keysOf (kv : List (Int × Int)) : List Int := kv.map (·.1)
structure MapR (m : HM) (r : Rw) (kv : List (Int × Int)) : Prop where
  inv : Inv m
  kp : Kp m 2 r.ps (two kv)
  n : kv.length = r.n
  op : r.closed = false
  fit : ∀ x ∈ kv, fits2 x = true
  nd : (keysOf kv).Nodup
theorem MapR.bd {m : HM} {r : Rw} {kv : List (Int × Int)} (S : MapR m r kv) : BdL (two kv) := fun row hr v hv => by
  obtain ⟨x, hx, rfl⟩ := List.mem_map.1 hr
  have := S.fit x hx
  unfold fits2 at this
  rw [Bool.and_eq_true] at this
  simp at hv
  rcases hv with rfl | rfl
  · exact fits_bd this.1
  · exact fits_bd this.2
theorem MapR.le {m : HM} {r : Rw} {kv : List (Int × Int)} (S : MapR m r kv) : r.n ≤ 64 := by
  have := S.kp.len
  rw [two_len, S.n] at this
  exact this
end Go.Proofs.YtdaklffbfadghaaGreat

namespace Go.Proofs.YtdaklffbfadghaaGreat
open Go.RowKit HP Go.Maps
set_option linter.unusedVariables false
set_option linter.unusedSimpArgs false
section
variable {w W : World} {h h1 : Hp} {r r1 : Rw} {mb n : Nat} {m : HM} {D : DM}
/-- the same, with what of old blocks is the same -/
theorem MS.callF (X : MS w h r mb W m r1 n D h1) {f : FuncId} {args : Array Value} {P : Ending → World → HM → Rw → Prop}
    (hc : ∀ h1, LR W h1 r1 → h1.m = m → h1.ptr = h.ptr → h1.calls = m.calls → Calls Tryz.prog f args W fun e W' => ∃ m2 r2, LS W h1 r1 W' m2 r2 ∧ P e W' m2 r2) :
    Calls Tryz.prog f args W fun e W' => ∃ m2 r2 h2, MS w h r mb W' m2 r2 n D h2 ∧ P e W' m2 r2 ∧ ∀ b, b < W.heap.size → ¬ h1.fp b → ¬ r1.fp b → W'.heap[b]? = W.heap[b]? := by
  refine (hc h1 X.lr X.hm X.ptr (by rw [← X.hm]; rfl)).mono ?_
  rintro e W' ⟨m2, r2, S, hP⟩
  have S' := S
  obtain ⟨h2, Y⟩ := X.act S
  obtain ⟨h3, D3, -⟩ := S'
  exact ⟨m2, r2, h2, Y, hP, fun b hb h1 h2 => (D3.apart hb h1 h2).1⟩
set_option maxHeartbeats 4000000 in
set_option maxRecDepth 100000 in
theorem askedM_any (L : LR w h r) (A : Option Addr) (n c : Nat) (l : List Int) (hl : l.length = n) (hr : Rd w w.heap.size A (intsV l)) (hn : n ≤ 1000) :
    Calls Tryz.prog 71 #[r.ptr, .slice A n c] w fun e w' => e = .returned (.int .i64 (if r.closed then 9 else if l.all fitsB then 0 else 1)) ∧ Q w w' := by
  have c3 := L.k3
  have HAN : Hid (Calls Tryz.prog 89 #[.slice A n c] w fun e w' => e = .returned (.bool (l.all fitsB)) ∧ Q w w') := areNumbers_any A n c l w hl hr hn
  unfold Rw.ptr
  obtain ⟨b, eb⟩ : ∃ b, b = r.blk := ⟨_, rfl⟩
  obtain ⟨cl, ec⟩ : ∃ c, c = r.closed := ⟨_, rfl⟩
  rw [← eb, ← ec] at c3
  rw [← eb, ← ec]
  clear eb ec L hr hl hn
  cases cl
  · cases ha : l.all fitsB
    · rw [ha] at HAN
      clear ha
      go_enter Tryz.func71, Tryz.ntmps71
      go_wp2_with (go_at_call 89; refine HAN.out.mono ?_; rintro e w1 ⟨rfl, hq1⟩)
      go_ret
      exact ⟨rfl, hq1⟩
    · rw [ha] at HAN
      clear ha
      go_enter Tryz.func71, Tryz.ntmps71
      go_wp2_with (go_at_call 89; refine HAN.out.mono ?_; rintro e w1 ⟨rfl, hq1⟩)
      go_ret
      exact ⟨rfl, hq1⟩
  · go_enter Tryz.func71, Tryz.ntmps71
    go_wp2_with fail
    go_ret
    exact ⟨rfl, Q.refl _⟩
set_option maxHeartbeats 4000000 in
set_option maxRecDepth 100000 in
theorem askedM_nil (s : Value) (w : World) : Calls Tryz.prog 71 #[.pointer none, s] w fun e w' => e = .returned (.int .i64 9) ∧ Q w w' := by
  go_enter Tryz.func71, Tryz.ntmps71
  go_wp2_with fail
  go_ret
  exact ⟨rfl, Q.refl _⟩
set_option maxHeartbeats 4000000 in
set_option maxRecDepth 100000 in
theorem askedM_closed (L : LR w h r) (hc : r.closed = true) (s : Value) : Calls Tryz.prog 71 #[r.ptr, s] w fun e w' => e = .returned (.int .i64 9) ∧ Q w w' := by
  have c3 := L.k3
  unfold Rw.ptr
  obtain ⟨b, eb⟩ : ∃ b, b = r.blk := ⟨_, rfl⟩
  rw [← eb, hc] at c3
  rw [← eb]
  clear eb L hc
  go_enter Tryz.func71, Tryz.ntmps71
  go_wp2_with fail
  go_ret
  exact ⟨rfl, Q.refl _⟩
/-- what asked says of two numbers laid in a new row -/
theorem askedM_two (L : LR w h r) (hop : r.closed = false) (k v : Int) (W : World) (hq : Q w W) : Calls Tryz.prog 71 #[r.ptr, .slice (some ⟨W.heap.size, 0, none⟩) 2 2] (W.alloc (.cells #[.int .i64 k, .int .i64 v] 3)) fun e w' => e = .returned (.int .i64 (if fitsB k && fitsB v then 0 else 1)) ∧ Q (W.alloc (.cells #[.int .i64 k, .int .i64 v] 3)) w' := by
  have := askedM_any ((LDid.refl L).q (hq.alloc (.cells #[.int .i64 k, .int .i64 v] 3))).lr (some ⟨W.heap.size, 0, none⟩) 2 2 [k, v] rfl (.inr ⟨W.heap.size, 0, rfl, by simp, fun j u hu => by
    rw [World.cell?_alloc_new]
    simpa [intsV] using hu⟩) (by decide)
  rw [hop] at this
  simpa using this
theorem askedM_one (L : LR w h r) (hop : r.closed = false) (k : Int) (W : World) (hq : Q w W) : Calls Tryz.prog 71 #[r.ptr, .slice (some ⟨W.heap.size, 0, none⟩) 1 1] (W.alloc (.cells #[.int .i64 k] 3)) fun e w' => e = .returned (.int .i64 (if fitsB k then 0 else 1)) ∧ Q (W.alloc (.cells #[.int .i64 k] 3)) w' := by
  have := askedM_any ((LDid.refl L).q (hq.alloc (.cells #[.int .i64 k] 3))).lr (some ⟨W.heap.size, 0, none⟩) 1 1 [k] rfl (.inr ⟨W.heap.size, 0, rfl, by simp, fun j u hu => by
    rw [World.cell?_alloc_new]
    simpa [intsV] using hu⟩) (by decide)
  rw [hop] at this
  simpa using this
theorem askedM_zero (L : LR w h r) (hop : r.closed = false) (W : World) (hq : Q w W) : Calls Tryz.prog 71 #[r.ptr, .slice none 0 0] W fun e w' => e = .returned (.int .i64 0) ∧ Q W w' := by
  have := askedM_any ((LDid.refl L).q hq).lr none 0 0 [] rfl (Rd.nil _ _ _) (by decide)
  rw [hop] at this
  simpa using this
end
end Go.Proofs.YtdaklffbfadghaaGreat

namespace Go.Proofs.YtdaklffbfadghaaGreat
open Go.RowKit HP Go.Maps
set_option linter.unusedVariables false
set_option linter.unusedSimpArgs false
theorem i64_wf {v : Int} (h : fitsB v = true) : (Lit.int .i64 v).wf = true := by
  have := fits_bd h
  exact WalkArith.wf_i64 this
theorem nat_wf {i : Nat} (h : i < 1000000) : (Lit.int .i64 (i : Int)).wf = true := WalkArith.wf_i64 (by omega)
theorem i64_inj {a b : Int} (h : (DataW.lit (.int .i64 a) : DM) = .lit (.int .i64 b)) : a = b := by
  injection h with h
  injection h
theorem results_tmp3 {P : Program} {fn : Func} {a b c : Tmp} (h : fn.results = #[.tmp a, .tmp b, .tmp c]) (tmps : Array Value) (w : World) : (results fn tmps).run P w = .ok (.tuple #[tmps.getD a undef, tmps.getD b undef, tmps.getD c undef]) w := by
  simp [results, h]
theorem results_tmp4 {P : Program} {fn : Func} {a b c d : Tmp} (h : fn.results = #[.tmp a, .tmp b, .tmp c, .tmp d]) (tmps : Array Value) (w : World) : (results fn tmps).run P w = .ok (.tuple #[tmps.getD a undef, tmps.getD b undef, tmps.getD c undef, tmps.getD d undef]) w := by
  simp [results, h]
/-- a map of the program at its place: rows, keys' places -/
structure MP (w : World) (h : Hp) (r : Rw) (mb : Nat) (W : World) (m : HM) (r1 : Rw) (kv : List (Int × Int)) (nn : Nat) : Prop where
  ex : ∃ n D h1, MS w h r mb W m r1 n D h1 ∧ n ≤ nn ∧ Wh D (keysOf kv)
  more : r1.more = [.map (some mb)]
section
variable {w W : World} {h h1 : Hp} {r r1 : Rw} {mb n nn : Nat} {m : HM} {D : DM} {kv : List (Int × Int)}
theorem MS.read2 (X : MS w h r mb W m r1 n D h1) (I : Inv m) (i : Nat) (hi : i < 64) {a b : Int} (hr : RowIs m 2 r1.ps i [a, b]) (hb : ∀ v ∈ [a, b], -9223372036854775808 ≤ v ∧ v ≤ 9223372036854775807) :
    Calls Tryz.prog 72 #[r.ptr, .int .i64 i] W fun e W' => e = .returned (.agg #[.int .i64 a, .int .i64 b]) ∧ ∃ h2, MS w h r mb W' m r1 n D h2 := by
  have hrb := X.rb
  refine (X.call (P := fun e W' m2 r2 => e = .returned (.agg #[.int .i64 a, .int .i64 b]) ∧ m2 = m ∧ r2 = r1) fun h3 L e1 e2 e3 => ?_).mono ?_
  · have := read2_any L (by rw [e1]; exact I) i hi (by rw [e1]; exact hr) hb
    unfold Rw.ptr at this ⊢
    rw [hrb, e1] at this
    refine this.mono ?_
    rintro e W' ⟨he, hX⟩
    exact ⟨m, r1, hX, he, rfl, rfl⟩
  · rintro e W' ⟨m2, r2, h2, hX, he, rfl, rfl⟩
    exact ⟨he, h2, hX⟩
theorem MS.write2 (X : MS w h r mb W m r1 n D h1) (I : Inv m) (i : Nat) (hi : i < 64) {p : Int} (hp : r1.ps[i / 4]? = some p) (hh : Has m p 64) (a b : Int) :
    Calls Tryz.prog 73 #[r.ptr, .int .i64 i, .agg #[.int .i64 a, .int .i64 b]] W fun e W' => e = .returned (.tuple #[]) ∧ ∃ m2 h2, MS w h r mb W' m2 r1 n D h2 ∧ Writing m m2 p (((i % 4 * (8 * 2) : Nat)) : Int) [a, b] (8 * 2) ∧ ∀ g, g < W.heap.size → ¬ h1.fp g → ¬ r1.fp g → W'.heap[g]? = W.heap[g]? := by
  have hrb := X.rb
  refine (X.callF (P := fun e W' m2 r2 => e = .returned (.tuple #[]) ∧ r2 = r1 ∧ Writing m m2 p (((i % 4 * (8 * 2) : Nat)) : Int) [a, b] (8 * 2)) fun h3 L e1 e2 e3 => ?_).mono ?_
  · have := write2_any L (by rw [e1]; exact I) i hi hp (by rw [e1]; exact hh) a b
    unfold Rw.ptr at this ⊢
    rw [hrb, e1] at this
    refine this.mono ?_
    rintro e W' ⟨m', he, hX, hW⟩
    exact ⟨m', r1, hX, he, rfl, hW⟩
  · rintro e W' ⟨m2, r2, h2, hX, ⟨he, rfl, hW⟩, hF⟩
    exact ⟨he, m2, h2, hX, hW, hF⟩
theorem MS.insert2 (X : MS w h r mb W m r1 n D h1) (I : Inv m) {Ls : List (List Int)} (K : Kp m 2 r1.ps Ls) (hl : Ls.length = r1.n) (hc : m.calls < 1000000000) (hb : BdL Ls) (i : Nat) (hi : i ≤ r1.n) (a b : Int) :
    Calls Tryz.prog 74 #[r.ptr, .int .i64 i, .agg #[.int .i64 a, .int .i64 b]] W fun e W' => ∃ (ok : Bool) (m' : HM) (r2 : Rw) (er : Int), e = .returned (.int .i64 er) ∧ er = (if ok then 0 else 3) ∧ (∃ h2, MS w h r mb W' m' r2 n D h2) ∧ Insd m m' 2 r1.ps r2.ps Ls i [a, b] ok ∧ r2.n = r1.n + (if ok then 1 else 0) ∧ r2.closed = r1.closed ∧ r2.more = r1.more := by
  have hrb := X.rb
  refine (X.call (P := fun e W' m' r2 => ∃ ok : Bool, e = .returned (.int .i64 (if ok then 0 else 3)) ∧ Insd m m' 2 r1.ps r2.ps Ls i [a, b] ok ∧ r2.n = r1.n + (if ok then 1 else 0) ∧ r2.closed = r1.closed ∧ r2.more = r1.more) fun h3 L e1 e2 e3 => ?_).mono ?_
  · have := insert2_any L (by rw [e1]; exact I) (by rw [e1]; exact K) hl (by rw [e3]; exact hc) hb i hi a b
    unfold Rw.ptr at this ⊢
    rw [hrb, e1] at this
    refine this.mono ?_
    rintro e W' ⟨ok, m', r2, he, hX, hG⟩
    exact ⟨m', r2, hX, ok, he, hG⟩
  · rintro e W' ⟨m2, r2, h2, hX, ok, he, hG⟩
    exact ⟨ok, m2, r2, _, he, rfl, ⟨h2, hX⟩, hG⟩
/-- what Put says -/
def PutO (m m' : HM) (r r2 : Rw) (kv kv2 : List (Int × Int)) (k v old : Int) (is : Bool) (err : Int) : Prop :=
  (fits2 (k, v) = false ∧ old = 0 ∧ is = false ∧ err = 1 ∧ m' = m ∧ r2 = r ∧ kv2 = kv) ∨
  (fits2 (k, v) = true ∧ (∃ i : Nat, kv[i]? = some (k, old) ∧ kv2 = kv.set i (k, v)) ∧ is = true ∧ err = 0 ∧ r2 = r ∧ MapR m' r2 kv2 ∧ Wrtn m m' 2 r.ps) ∨
  (fits2 (k, v) = true ∧ k ∉ keysOf kv ∧ old = 0 ∧ is = false ∧ ∃ ok : Bool, err = (if ok then 0 else 3) ∧ kv2 = (if ok then kv ++ [(k, v)] else kv) ∧ MapR m' r2 kv2 ∧ Insd m m' 2 r.ps r2.ps (two kv) kv.length [k, v] ok)
theorem keys_at {i : Nat} {k v : Int} (h : kv[i]? = some (k, v)) : (keysOf kv)[i]? = some k := by unfold keysOf; rw [List.getElem?_map, h]; rfl
theorem keys_set {i : Nat} {k v u : Int} (h : kv[i]? = some (k, u)) : keysOf (kv.set i (k, v)) = keysOf kv := by
  unfold keysOf
  rw [List.map_set]
  refine List.ext_getElem? fun j => ?_
  rw [List.getElem?_set]
  split
  · rename_i e
    subst e
    have hj := (List.getElem?_eq_some_iff.1 h).1
    rw [List.getElem?_map, h, List.length_map, if_pos hj]
    rfl
  · rfl
theorem putO_found {m m' : HM} {i : Nat} {k v old p : Int} (S : MapR m r kv) (hf : fits2 (k, v) = true) (hi : kv[i]? = some (k, old)) (hp : r.ps[i / 4]? = some p) (W : Writing m m' p (((i % 4 * (8 * 2) : Nat)) : Int) [k, v] (8 * 2)) : PutO m m' r r kv (kv.set i (k, v)) k v old true 0 := by
  have hil := (List.getElem?_eq_some_iff.1 hi).1
  obtain ⟨k1, f1⟩ := S.kp.set (i := i) (by rw [two_len]; exact hil) (r := [k, v]) hp rfl W
  have e2 := two_set kv i (k, v)
  rw [show [k, v] = [(k, v).1, (k, v).2] from rfl, e2] at k1
  refine .inr (.inl ⟨hf, ⟨i, hi, rfl⟩, rfl, rfl, rfl, ⟨W.inv, k1, ?_, S.op, fun x hx => ?_, by rw [keys_set hi]; exact S.nd⟩, W.inv, f1, W.calls, W.failIn⟩)
  · rw [List.length_set]; exact S.n
  · rcases List.mem_or_eq_of_mem_set hx with h | h
    · exact S.fit x h
    · rw [h]; exact hf
theorem putO_new {m m' : HM} {r2 : Rw} {k v : Int} {ok : Bool} (S : MapR m r kv) (hf : fits2 (k, v) = true) (hk : k ∉ keysOf kv) (hI : Insd m m' 2 r.ps r2.ps (two kv) kv.length [k, v] ok) (h2n : r2.n = r.n + (if ok then 1 else 0)) (h2c : r2.closed = r.closed) : PutO m m' r r2 kv (if ok then kv ++ [(k, v)] else kv) k v 0 false (if ok then 0 else 3) := by
  refine .inr (.inr ⟨hf, hk, rfl, rfl, ok, rfl, rfl, ?_, hI⟩)
  have hkp := hI.kp
  cases ok
  · exact ⟨hI.inv, hkp, by rw [h2n, ← S.n]; rfl, h2c.trans S.op, S.fit, S.nd⟩
  · rw [if_pos rfl] at hkp
    have e1 : insAt (two kv) kv.length [[k, v]] = two (kv ++ [(k, v)]) := by
      rw [show [k, v] = [(k, v).1, (k, v).2] from rfl, two_ins]
      unfold insAt
      simp
    rw [e1] at hkp
    refine ⟨hI.inv, hkp, ?_, h2c.trans S.op, fun x hx => ?_, ?_⟩
    · rw [h2n, ← S.n]
      simp
    · rcases List.mem_append.1 hx with hx | hx
      · exact S.fit x hx
      · rw [List.mem_singleton] at hx
        rw [hx]
        exact hf
    · show (keysOf (kv ++ [(k, v)])).Nodup
      unfold keysOf
      rw [List.map_append]
      refine List.nodup_append.2 ⟨S.nd, by simp, fun x hx y hy e => ?_⟩
      simp at hy
      subst hy
      subst e
      exact hk hx
theorem at_key {k : Int} (h : k ∈ keysOf kv) : ∃ (i : Nat) (v : Int), kv[i]? = some (k, v) := by
  obtain ⟨x, hx, e⟩ := List.mem_map.1 h
  obtain ⟨i, hi, e2⟩ := List.getElem_of_mem hx
  refine ⟨i, x.2, ?_⟩
  rw [List.getElem?_eq_getElem hi, e2, ← e]
set_option maxHeartbeats 4000000 in
set_option maxRecDepth 100000 in
theorem putM_bad (L : LR w h r) (hop : r.closed = false) (k v : Int) (hf : fits2 (k, v) = false) :
    Calls Tryz.prog 21 #[r.ptr, .int .i64 k, .int .i64 v] w fun e w' => e = .returned (.tuple #[.int .i64 0, .bool false, .int .i64 1]) ∧ Q w w' := by
  have HAS : Hid (∀ W : World, Q w W → Calls Tryz.prog 71 #[r.ptr, .slice (some ⟨W.heap.size, 0, none⟩) 2 2] (W.alloc (.cells #[.int .i64 k, .int .i64 v] 3)) fun e w' => e = .returned (.int .i64 1) ∧ Q (W.alloc (.cells #[.int .i64 k, .int .i64 v] 3)) w') := fun W hq => by
    have := askedM_two L hop k v W hq
    rw [show (fitsB k && fitsB v) = false from hf] at this
    exact this
  have hrp : r.ptr = .pointer (some ⟨r.blk, 0, none⟩) := rfl
  rw [hrp] at HAS ⊢
  clear hrp L hf hop
  go_enter Tryz.func21, Tryz.ntmps21
  go_wp2_with (go_at_call 71; refine (HAS.out _ (Q.refl _)).mono ?_; rintro e w1 ⟨rfl, hq1⟩)
  refine bodyPost_ret (results_tmp3 rfl _ _) rfl ⟨rfl, ((Q.refl _).alloc _).trans hq1⟩
set_option maxHeartbeats 4000000 in
set_option maxRecDepth 100000 in
theorem putM_found (L : LR w h r) (S : MapR h.m r kv) (X0 : MS w h r mb w h.m r n D h) (hmo : r.more = [.map (some mb)]) (hW : Wh D (keysOf kv)) (k v : Int) (hf : fits2 (k, v) = true) (i : Nat) (old : Int) (hi : kv[i]? = some (k, old)) :
    Calls Tryz.prog 21 #[r.ptr, .int .i64 k, .int .i64 v] w fun e w' => e = .returned (.tuple #[.int .i64 old, .bool true, .int .i64 0]) ∧ ∃ m' h2, MS w h r mb w' m' r n D h2 ∧ PutO h.m m' r r kv (kv.set i (k, v)) k v old true 0 := by
  have HAS : Hid (∀ W : World, Q w W → Calls Tryz.prog 71 #[r.ptr, .slice (some ⟨W.heap.size, 0, none⟩) 2 2] (W.alloc (.cells #[.int .i64 k, .int .i64 v] 3)) fun e w' => e = .returned (.int .i64 0) ∧ Q (W.alloc (.cells #[.int .i64 k, .int .i64 v] 3)) w') := fun W hq => by
    have := askedM_two L S.op k v W hq
    rw [show (fitsB k && fitsB v) = true from hf] at this
    exact this
  have hil := (List.getElem?_eq_some_iff.1 hi).1
  have hle := S.le
  rw [← S.n] at hle
  have hmem := List.mem_of_getElem? hi
  obtain ⟨p, hp, -, hh⟩ := S.kp.pcs.at (i := i) (by rw [two_len]; exact hil)
  have HRD : Hid (∀ W, MS w h r mb W h.m r n D h → Calls Tryz.prog 72 #[r.ptr, .int .i64 i] W fun e W' => e = .returned (.agg #[.int .i64 k, .int .i64 old]) ∧ ∃ h2, MS w h r mb W' h.m r n D h2) := fun W X => X.read2 S.inv i (by omega) (S.kp.row i _ (two_at hi)) (S.bd _ (List.mem_of_getElem? (two_at hi)))
  have HWR : Hid (∀ W h1, MS w h r mb W h.m r n D h1 → Calls Tryz.prog 73 #[r.ptr, .int .i64 i, .agg #[.int .i64 k, .int .i64 v]] W fun e W' => e = .returned (.tuple #[]) ∧ ∃ m2 h2, MS w h r mb W' m2 r n D h2 ∧ Writing h.m m2 p (((i % 4 * (8 * 2) : Nat)) : Int) [k, v] (8 * 2) ∧ ∀ g, g < W.heap.size → ¬ h1.fp g → ¬ r.fp g → W'.heap[g]? = W.heap[g]?) := fun W h1 X => X.write2 S.inv i (by omega) hp hh k v
  have HO : Hid (∀ m2, Writing h.m m2 p (((i % 4 * (8 * 2) : Nat)) : Int) [k, v] (8 * 2) → PutO h.m m2 r r kv (kv.set i (k, v)) k v old true 0) := fun m2 W => putO_found S hf hi hp W
  have HX0 := hide X0
  have HKC : Hid (∀ W, MS w h r mb W h.m r n D h → W.cell? ⟨r.blk, 4, none⟩ = some (.map (some mb)) ∧ r.blk < W.heap.size) := fun W X => ⟨(X.k hmo).2.2.1, (X.k hmo).2.2.2⟩
  have hhas : Maps.has D (.int .i64 k) = true := by
    have := hW.hasK k
    rw [show (keysOf kv).contains k = true by rw [List.contains_iff_mem]; exact List.mem_of_getElem? (keys_at hi)] at this
    exact this
  have HAT : Hid (D.atKey (.int .i64 k) (.lit (.int .i64 0)) = .lit (.int .i64 (i : Int))) := hW.atK i k (keys_at hi) _
  have hkey := keyOf_int_mk Tryz.underlying3 (i64_wf (show fitsB k = true by unfold fits2 at hf; rw [Bool.and_eq_true] at hf; exact hf.1))
  have hrp : r.ptr = .pointer (some ⟨r.blk, 0, none⟩) := rfl
  rw [hrp] at HAS HRD HWR ⊢
  obtain ⟨b, eb⟩ : ∃ b, b = r.blk := ⟨_, rfl⟩
  rw [← eb] at HAS HRD HWR HKC ⊢
  have hii : (i : Int) ≤ 64 := by omega
  clear hrp L hf S hi hil hle hmem hp hh hW X0 eb hmo
  go_enter Tryz.func21, Tryz.ntmps21
  go_wp2_with (first
    | (go_at_call 71; refine (HAS.out _ (Q.refl _)).mono ?_; rintro e w1 ⟨rfl, hq1⟩; have HX1 := hide (HX0.out.q (((Q.refl _).alloc _).trans hq1)); obtain ⟨c4, hbl⟩ := HKC.out _ HX1.out)
    | (at_lookup; go_loud (refine wpList_lookup_own_ok_int _ rfl _ _ 119 rfl 3 3 .i64 lawI Tryz.underlying119 Tryz.underlying3 (zeroI _) mb n D rfl HX1.out.own _ _ rfl hkey ?_; intro c hat hwc; obtain rfl : c = (i : Int) := i64_inj (hat.symm.trans HAT.out); clear hat))
    | (go_at_call 72; refine (HRD.out _ HX1.out).mono ?_; rintro e w3 ⟨rfl, h3, hX3⟩; have HX3 := hide hX3; clear hX3)
    | (go_at_call 73; go_loud (refine (HWR.out _ h3 (HX3.out.q ((Q.refl _).alloc _))).mono ?_; rintro e w5 ⟨rfl, m5, h5, hX5, hW5, hfr⟩; have HX5 := hide hX5; have HW5 := hide hW5; have q12 := (hfr w3.heap.size (by simp) (fun e => Nat.lt_irrefl _ (HX3.out.lr.heap.lt _ e)) (fun e => Nat.lt_irrefl _ (HX3.out.lr.rlt _ e))).trans (heap_alloc_new w3 _); have c12 : w5.cell? ⟨w3.heap.size, 1, none⟩ = some (.int .i64 old) := (by rw [cell_of_row _ _ _ _ _ _ q12]; rfl); clear hX5 hW5 hfr q12)))
  refine bodyPost_ret (results_tmp3 rfl _ _) rfl ⟨rfl, m5, h5, HX5.out, HO.out _ HW5.out⟩
set_option maxHeartbeats 4000000 in
set_option maxRecDepth 100000 in
theorem putM_new (L : LR w h r) (S : MapR h.m r kv) (X0 : MS w h r mb w h.m r n D h) (hmo : r.more = [.map (some mb)]) (hW : Wh D (keysOf kv)) (hc : h.calls < 1000000000) (hn : n < 1000000) (k v : Int) (hf : fits2 (k, v) = true) (hi : k ∉ keysOf kv) :
    Calls Tryz.prog 21 #[r.ptr, .int .i64 k, .int .i64 v] w fun e w' => ∃ (ok : Bool) (m' : HM) (r2 : Rw) (n2 : Nat) (D2 : DM) (h2 : Hp), e = .returned (.tuple #[.int .i64 0, .bool false, .int .i64 (if ok then 0 else 3)]) ∧ MS w h r mb w' m' r2 n2 D2 h2 ∧ n2 ≤ n + 1 ∧ Wh D2 (keysOf (if ok then kv ++ [(k, v)] else kv)) ∧ r2.more = r.more ∧ PutO h.m m' r r2 kv (if ok then kv ++ [(k, v)] else kv) k v 0 false (if ok then 0 else 3) := by
  have HAS : Hid (∀ W : World, Q w W → Calls Tryz.prog 71 #[r.ptr, .slice (some ⟨W.heap.size, 0, none⟩) 2 2] (W.alloc (.cells #[.int .i64 k, .int .i64 v] 3)) fun e w' => e = .returned (.int .i64 0) ∧ Q (W.alloc (.cells #[.int .i64 k, .int .i64 v] 3)) w') := fun W hq => by
    have := askedM_two L S.op k v W hq
    rw [show (fitsB k && fitsB v) = true from hf] at this
    exact this
  have hle := S.le
  have hfk : fitsB k = true := by unfold fits2 at hf; rw [Bool.and_eq_true] at hf; exact hf.1
  have HIN : Hid (∀ W, MS w h r mb W h.m r n D h → Calls Tryz.prog 74 #[r.ptr, .int .i64 (kv.length : Int), .agg #[.int .i64 k, .int .i64 v]] W fun e W' => ∃ (ok : Bool) (m' : HM) (r2 : Rw) (er : Int), e = .returned (.int .i64 er) ∧ er = (if ok then 0 else 3) ∧ (∃ h2, MS w h r mb W' m' r2 n D h2) ∧ Insd h.m m' 2 r.ps r2.ps (two kv) kv.length [k, v] ok ∧ r2.n = r.n + (if ok then 1 else 0) ∧ r2.closed = r.closed ∧ r2.more = r.more) := fun W X => X.insert2 S.inv S.kp (by rw [two_len]; exact S.n) hc S.bd kv.length (by rw [S.n]; exact Nat.le_refl _) k v
  have HO : Hid (∀ m2 r2 ok, Insd h.m m2 2 r.ps r2.ps (two kv) kv.length [k, v] ok → r2.n = r.n + (if ok then 1 else 0) → r2.closed = r.closed → PutO h.m m2 r r2 kv (if ok then kv ++ [(k, v)] else kv) k v 0 false (if ok then 0 else 3)) := fun m2 r2 ok hI h2n h2c => putO_new S hf hi hI h2n h2c
  have HX0 := hide X0
  have HKC : Hid (∀ W h1 m1 r1, MS w h r mb W m1 r1 n D h1 → r1.more = r.more → W.cell? ⟨r.blk, 2, none⟩ = some (.int .i64 r1.n) ∧ W.cell? ⟨r.blk, 4, none⟩ = some (.map (some mb)) ∧ r.blk < W.heap.size) := fun W h1 m1 r1 X e => by
    obtain ⟨a, b, c, d⟩ := X.k (e.trans hmo)
    exact ⟨a, c, d⟩
  have HK1 : Hid (∀ W, MS w h r mb W h.m r n D h → W.cell? ⟨r.blk, 2, none⟩ = some (.int .i64 (kv.length : Int)) ∧ W.cell? ⟨r.blk, 4, none⟩ = some (.map (some mb)) ∧ r.blk < W.heap.size) := fun W X => by
    obtain ⟨a, b, c, d⟩ := X.k hmo
    rw [S.n]
    exact ⟨a, c, d⟩
  have hhas : Maps.has D (.int .i64 k) = false := by
    have := hW.hasK k
    rw [show (keysOf kv).contains k = false by rw [← Bool.not_eq_true, List.contains_iff_mem]; exact hi] at this
    exact this
  have HWK : Hid (Wh (D.put (.int .i64 k) (.lit (.int .i64 (kv.length : Int)))) (keysOf (kv ++ [(k, v)]))) := by
    have := hW.push hi (by trivial)
    have e : (keysOf kv).length = kv.length := List.length_map _
    rw [e] at this
    have e2 : keysOf (kv ++ [(k, v)]) = keysOf kv ++ [k] := by unfold keysOf; simp
    rw [e2]
    exact this
  have HW := hide hW
  have hkey := keyOf_int_mk Tryz.underlying3 (i64_wf hfk)
  have HSN := hide S.n
  have hrp : r.ptr = .pointer (some ⟨r.blk, 0, none⟩) := rfl
  rw [hrp] at HAS HIN ⊢
  obtain ⟨b, eb⟩ : ∃ b, b = r.blk := ⟨_, rfl⟩
  rw [← eb] at HAS HIN HKC HK1 ⊢
  obtain ⟨len, el⟩ : ∃ len, len = kv.length := ⟨_, rfl⟩
  have HEL := hide el
  rw [← el] at HIN HO HK1
  have hli : (len : Int) ≤ 64 := by have := S.n; omega
  have HLW : Hid ((Lit.int .i64 (len : Int)).wf = true) := nat_wf (i := len) (by omega)
  clear hrp L hf S hi hle hW X0 eb hmo el hfk
  go_enter Tryz.func21, Tryz.ntmps21
  go_wp2_with (first
    | (go_at_call 71; refine (HAS.out _ (Q.refl _)).mono ?_; rintro e w1 ⟨rfl, hq1⟩; have HX1 := hide (HX0.out.q (((Q.refl _).alloc _).trans hq1)); obtain ⟨c2, c4, hbl⟩ := HK1.out _ HX1.out)
    | (at_lookup; go_loud (refine wpList_lookup_own_ok_int _ rfl _ _ 119 rfl 3 3 .i64 lawI Tryz.underlying119 Tryz.underlying3 (zeroI _) mb n D rfl HX1.out.own _ _ rfl hkey ?_; intro c hat hwc; clear hat)))
  have hxc := ext_cell
  refine Ri.wp_region_cut 11 (fun w1 => ∃ k, w1 = ext _ k) (by kernel_rfl) (by kernel_rfl) rfl rfl (ext_of_q (Q.drew (Q.refl _))) ?_
  simp only [List.take_succ_cons, List.take_zero, List.drop_succ_cons, List.drop_zero]
  repeat (go_big_quiet_step ((fail)))
  clear hxc
  refine wpQuiet_nil ?_
  intro w4 hww4
  have hqw4 := q_of_ext hww4
  clear hww4
  obtain ⟨hcw4, hfw4, hzw4⟩ := hqw4.facts
  try simp at hzw4
  have HX4 := hide (HX1.out.q hqw4)
  refine Ri.wp_callP #[.pointer (some ⟨b, 0, none⟩), .int .i64 (len : Int), .agg #[.int .i64 k, .int .i64 v]] rfl (by simp [Act.eval]) Tryz.func74 (by kernel_rfl) (by kernel_rfl) ((HIN.out _ HX4.out).mono ?_)
  rintro e w5 ⟨ok, m5, r5, er, rfl, her, ⟨h5, hX5⟩, hI5, h5n, h5c, h5m⟩
  refine ⟨_, rfl, ?_⟩
  have HX5 := hide hX5
  have HI5 := hide hI5
  have H5N := hide h5n
  have H5C := hide h5c
  have H5M := hide h5m
  clear hX5 hI5 h5n h5c h5m hcw4 hfw4 hzw4 hqw4 c2 c4 hbl
  refine ⟨fun w1 => ∃ k, w1 = ext _ k, ext_of_q (Q.refl _), ?_⟩
  try simp only [Act.put, List.setIfInBounds_toArray, List.set_cons_succ, List.set_cons_zero]
  have hxc := ext_cell
  repeat (go_big_quiet_step ((fail)))
  clear hxc
  refine wpQuiet_nil ?_
  intro w6 hww6
  have hqw6 := q_of_ext hww6
  clear hww6
  obtain ⟨hcw6, hfw6, hzw6⟩ := hqw6.facts
  try simp at hzw6
  have HX6 := hide (HX5.out.q hqw6)
  clear hcw6 hfw6 hzw6 hqw6
  cases ok
  · have HER : Hid (er = 3) := her
    have hd3 : (er == 0) = false := by rw [HER.out]; decide
    clear her
    have HOO := hide (HO.out _ _ false HI5.out H5N.out H5C.out)
    go_wp2_with fail
    refine bodyPost_ret (results_tmp3 rfl _ _) rfl ⟨false, m5, r5, n, D, h5, by rw [← show er = 3 from HER.out]; rfl, HX6.out, by omega, HW.out, H5M.out, HOO.out⟩
  · have HER : Hid (er = 0) := her
    have hd3 : (er == 0) = true := by rw [HER.out]; decide
    clear her
    have HOO := hide (HO.out _ _ true HI5.out H5N.out H5C.out)
    obtain ⟨c2', c4, hbl⟩ := HKC.out _ _ _ _ HX6.out H5M.out
    have c2 : w6.cell? ⟨b, 2, none⟩ = some (.int .i64 ((len : Int) + 1)) := by rw [c2', H5N.out, ← HSN.out, ← HEL.out]; rfl
    clear c2'
    go_wp2_with fail
    have hxc := ext_cell
    refine Ri.wp_region_cut 11 (fun w1 => ∃ k, w1 = ext _ k) (by kernel_rfl) (by kernel_rfl) rfl rfl (ext_of_q (Q.drew (Q.refl _))) ?_
    simp only [List.take_succ_cons, List.take_zero, List.drop_succ_cons, List.drop_zero]
    repeat (go_big_quiet_step ((fail)))
    clear hxc
    refine wpQuiet_nil ?_
    intro w7 hww7
    have hqw7 := q_of_ext hww7
    clear hww7
    obtain ⟨hcw7, hfw7, hzw7⟩ := hqw7.facts
    try simp at hzw7
    have HX7 := hide (HX6.out.q hqw7)
    obtain ⟨w8, hrun, own8, tn8⟩ := HX7.out.own.store lawI Tryz.underlying119 (show n < maxLen by simp only [maxLen]; omega) hkey (plainElem_int (H := Unit) Tryz.underlying3 HLW.out)
    have HX8 := hide (HX7.out.grown tn8.grown own8)
    refine Ri.wp_skipP (w' := w8) (by unfold execOp; simp [Act.eval, hrun, Result.andThen]) ?_
    clear hrun own8 tn8 hcw7 hfw7 hzw7 hqw7 c2 c4 hbl
    refine ⟨fun w1 => ∃ k, w1 = ext _ k, ext_of_q (Q.refl _), ?_⟩
    try simp only [Act.put, List.setIfInBounds_toArray, List.set_cons_succ, List.set_cons_zero]
    have hxc := ext_cell
    repeat (go_big_quiet_step ((fail)))
    clear hxc
    refine wpQuiet_nil ?_
    intro w9 hww9
    have hqw9 := q_of_ext hww9
    clear hww9
    obtain ⟨hcw9, hfw9, hzw9⟩ := hqw9.facts
    try simp at hzw9
    have HX9 := hide (HX8.out.q hqw9)
    clear hcw9 hfw9 hzw9 hqw9
    go_wp2_with fail
    rw [← HEL.out] at HWK
    refine bodyPost_ret (results_tmp3 rfl _ _) rfl ⟨true, m5, r5, n + 1, _, h5, rfl, HX9.out, Nat.le_refl _, HWK.out, H5M.out, HOO.out⟩
end
end Go.Proofs.YtdaklffbfadghaaGreat
