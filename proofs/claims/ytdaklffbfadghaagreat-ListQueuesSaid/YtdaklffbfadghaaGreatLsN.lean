/- The state of a call on rows: of the world w, in which heap and rows lay so, the heap is m now, and the rows r1. Conditions: as each theorem says. -/
import Derived.Test.YtdaklffbfadghaaGreatLsU3
import Derived.Test.YtdaklffbfadghaaGreatCut
import Derived.ChangeKeysEq
namespace Go.Proofs.YtdaklffbfadghaaGreat
open Go.RowKit HP
set_option linter.unusedVariables false
set_option linter.unusedSimpArgs false
theorem wrap_small (j : Nat) (h : j < 1000000) : wrap64 (j : Int) = (j : Int) := by unfold wrap64; omega
theorem wrap_at {p c : Int} {k : Nat} (h0 : 0 ≤ p) (h1 : p ≤ 4096) (hk : k < 4) (hc : c = 8 ∨ c = 16 ∨ c = 24) : wrap64 (p + wrap64 ((k : Int) * c)) = p + (k : Int) * c := by
  rcases hc with rfl | rfl | rfl <;> (unfold wrap64; omega)
theorem wrap_addr {q : Int} {k b : Nat} (h0 : 0 ≤ q) (h1 : q < 5000) (hk : k < 3) (hb : b < 8) : wrap64 (wrap64 (q + wrap64 (8 * (k : Int))) + (b : Int)) = q + ((8 * k + b : Nat) : Int) := by
  unfold wrap64; omega
theorem u64_small {x : Int} (h0 : 0 ≤ x) (h1 : x < 18446744073709551616) : IntKind.u64.wrap x = x := by
  simp only [IntKind.wrap, IntKind.bits, IntKind.signed]
  simp
  omega
theorem word_or3 (v : Int) {b : Nat} (hb : b < 8) : bits .or .u64 ((wordN v : Int) % 2 ^ (8 * b)) (IntKind.u64.wrap (IntKind.u64.wrap (byteN v b : Nat) * 2 ^ (8 * b))) = ((wordN v % 2 ^ (8 * (b + 1)) : Nat) : Int) := by
  have h3 := byteN_lt v b
  have h4 : (2 : Nat) ^ (8 * b) ≤ 2 ^ 56 := Nat.pow_le_pow_right (by decide) (by omega)
  have h5 : byteN v b * 2 ^ (8 * b) ≤ 255 * 2 ^ 56 := Nat.mul_le_mul (by omega) h4
  rw [← word_or v b hb, u64_small (x := ((byteN v b : Nat) : Int)) (by omega) (by omega)]
  have e : ((byteN v b : Nat) : Int) * 2 ^ (8 * b) = ((byteN v b * 2 ^ (8 * b) : Nat) : Int) := by push_cast; rfl
  rw [e, u64_small (by omega) (by omega)]
  congr 1
theorem word_end {v : Int} {d : Nat} (hd : d = 8) (h1 : -9223372036854775808 ≤ v ∧ v ≤ 9223372036854775807) : wrap64 ((wordN v % 2 ^ (8 * d) : Nat) : Int) = v := by
  rw [hd, word_all]
  exact word_back h1.1 h1.2
theorem results_row1 {P : Program} {fn : Func} {p : Tmp} {ty : TypeId} (h : fn.results = #[.cell p ty]) (tmps : Array Value) (w : World) (g : Nat) (t : TypeId) (cs : Array Value) (fr : Nat × Nat) (d : TypeDesc)
    (hp : tmps.getD p undef = .pointer (some ⟨g, 0, none⟩)) (hg : w.heap[g]? = some (.cells cs t fr))
    (hu : P.underlying ty = some d) (hd : (match d with | .struct _ | .array _ _ => true | _ => false) = true) (hi : (P.info? ty).map (·.size) = some cs.size) :
    (results fn tmps).run P w = .ok (.agg cs) w := by
  have hp' : tmps[p]?.getD undef = .pointer (some ⟨g, 0, none⟩) := by simpa using hp
  simp [results, h, hp', asAddr, run_loadVar_row w g t ty cs fr d hg hu hd hi]
theorem Has.bounds {m : HM} {p n : Int} (h : Has m p n) (I : Inv m) : 0 ≤ p ∧ p ≤ 4096 := by
  obtain ⟨x, hx, e⟩ := List.mem_map.1 h
  unfold shape at e
  injection e with e1 e2
  have h4 := I.fit.inn x hx
  have h5 := I.fit.sz
  unfold pend at *
  omega
theorem wrap_word (v : Int) : IntKind.u64.wrap v = ((wordN v : Nat) : Int) := by
  unfold wordN
  simp only [IntKind.wrap, IntKind.bits, IntKind.signed]
  simp
  omega
theorem word_shr3 (v : Int) (b : Nat) : wrap64 (bits .and .u64 ((wordN v : Int) / 2 ^ (8 * b)) 255) = ((byteN v b : Nat) : Int) := by
  have e : (wordN v : Int) / 2 ^ (8 * b) = ((wordN v / 2 ^ (8 * b) : Nat) : Int) := by push_cast; rfl
  rw [e, word_shr]
  have := byteN_lt v b
  exact wrap_small _ (by omega)
/-- an element of an array's value -/
theorem run_idx_arr {P : Program} {t e : TypeId} {n k : Nat} {cs : Array Value} {v : Value} (hu : P.underlying t = some (.array n e)) (he : P.plainKey e = true) (hs : (P.info? e).map (·.size) = some 1) (hk : k < n) (hv : cs[k]? = some v) (w : World) :
    (Instr.index t (.agg cs) (.int .i64 (k : Nat))).run P w = .ok v w := by
  have h1 : ∀ w, (sizeOf e).run P w = .ok 1 w := fun w => by
    cases hi : P.info? e with
    | none => rw [hi] at hs; cases hs
    | some i =>
      rw [hi] at hs
      have : i.size = 1 := by simpa using hs
      simp [sizeOf, typeInfo, hi, this]
  have hp := run_part_plain (P := P) (w := w) he hv
  simp [Instr.index, run_underlying hu, h1, hp, asIntOf, Result.andThen, hk]
def LS (w : World) (h : Hp) (r : Rw) (W : World) (m : HM) (r1 : Rw) : Prop := ∃ h1, LDid w h r W h1 r1 ∧ h1.m = m
def Rw.ptr (r : Rw) : Value := .pointer (some ⟨r.blk, 0, none⟩)
section
variable {w W W' : World} {h h2 : Hp} {r r1 r2 : Rw} {m : HM}
theorem LS.start (L : LR w h r) : LS w h r w h.m r := ⟨h, .refl L, rfl⟩
theorem LS.q (X : LS w h r W m r1) (hq : Q W W') : LS w h r W' m r1 := by
  obtain ⟨h1, D, e⟩ := X
  exact ⟨h1, D.q hq, e⟩
theorem LS.rb (X : LS w h r W m r1) : r1.blk = r.blk := by
  obtain ⟨h1, D, e⟩ := X
  exact D.rb
theorem LS.lt (X : LS w h r W m r1) : r.blk < W.heap.size := by
  obtain ⟨h1, D, e⟩ := X
  rw [← D.rb]
  exact D.lr.rlt _ (.inl rfl)
theorem LS.trans {m2 : HM} (X : LS w h r W m r1) (hY : ∀ h1, LR W h1 r1 → h1.m = m → h1.ptr = h.ptr → LS W h1 r1 W' m2 r2) : LS w h r W' m2 r2 := by
  obtain ⟨h1, D, e⟩ := X
  obtain ⟨h2, D2, e2⟩ := hY h1 D.lr e (by unfold Hp.ptr; rw [D.hb])
  exact ⟨h2, D.trans D2, e2⟩
/-- what the box holds -/
theorem LS.cells (X : LS w h r W m r1) : ∃ t f, W.heap[r.blk]? = some (.cells (r1.cells h) t f) := by
  obtain ⟨h1, D, e⟩ := X
  have := D.lr.cells
  rw [D.rb] at this
  have e2 : r1.cells h1 = r1.cells h := by unfold Rw.cells Hp.ptr; rw [D.hb]
  rw [e2] at this
  exact ⟨_, _, this⟩
theorem LS.k0 (X : LS w h r W m r1) : W.cell? ⟨r.blk, 0, none⟩ = some h.ptr := by
  obtain ⟨t, f, e⟩ := X.cells
  rw [cell_of_row _ _ _ _ _ _ e]; rfl
theorem LS.k1 (X : LS w h r W m r1) : W.cell? ⟨r.blk, 1, none⟩ = some r1.pv := by
  obtain ⟨t, f, e⟩ := X.cells
  rw [cell_of_row _ _ _ _ _ _ e]; rfl
theorem LS.k2 (X : LS w h r W m r1) : W.cell? ⟨r.blk, 2, none⟩ = some (.int .i64 r1.n) := by
  obtain ⟨t, f, e⟩ := X.cells
  rw [cell_of_row _ _ _ _ _ _ e]; rfl
theorem LS.k3 (X : LS w h r W m r1) : W.cell? ⟨r.blk, 3, none⟩ = some (.bool r1.closed) := by
  obtain ⟨t, f, e⟩ := X.cells
  rw [cell_of_row _ _ _ _ _ _ e]; rfl
theorem LS.kj (X : LS w h r W m r1) (j : Nat) : W.cell? ⟨r.blk, j, none⟩ = (r1.cells h)[j]? := by
  obtain ⟨t, f, e⟩ := X.cells
  rw [cell_of_row _ _ _ _ _ _ e]
theorem LS.free (X : LS w h r W m r1) (j : Nat) : W.frozen? ⟨r.blk, j, none⟩ = false := by
  obtain ⟨h1, D, e⟩ := X
  rw [← D.rb]
  exact D.lr.free j
/-- a piece in its row -/
theorem LS.piece (X : LS w h r W m r1) {i : Nat} {p : Int} (hp : r1.ps[i]? = some p) : ∃ g c, r1.pv = .slice (some ⟨g, 0, none⟩) r1.ps.length c ∧ W.cell? ⟨g, i, none⟩ = some (.int .i64 p) ∧ g < W.heap.size := by
  obtain ⟨h1, D, e⟩ := X
  have hl := (List.getElem?_eq_some_iff.1 hp).1
  obtain ⟨g, c, e1, -, h2, -, -, h3, -⟩ := own_at D.lr.pcs (by omega)
  refine ⟨g, c, e1, h3 i _ ?_, h2⟩
  unfold intsV
  rw [List.getElem?_map, hp]
  rfl
theorem LS.pv (X : LS w h r W m r1) : ∃ A c, r1.pv = .slice A r1.ps.length c := by
  obtain ⟨h1, D, e⟩ := X
  rcases D.lr.pcs.2 with ⟨e1, e2⟩ | ⟨g, cap, cur, e1, -⟩
  · exact ⟨none, 0, by rw [e1, e2]⟩
  · exact ⟨_, _, e1⟩
/-- a store of how many there are -/
theorem LS.setN (X : LS w h r W m r1) (n : Nat) : LS w h r (W.setCell ⟨r.blk, 2, none⟩ (.int .i64 n)) m { r1 with n := n } := by
  obtain ⟨h1, D, e⟩ := X
  rw [← D.rb]
  exact ⟨h1, D.set 2 _ rfl rfl (by unfold Rw.cells; simp) rfl rfl, e⟩
theorem LS.setC (X : LS w h r W m r1) (b : Bool) : LS w h r (W.setCell ⟨r.blk, 3, none⟩ (.bool b)) m { r1 with closed := b } := by
  obtain ⟨h1, D, e⟩ := X
  rw [← D.rb]
  exact ⟨h1, D.set 3 _ rfl rfl (by unfold Rw.cells; simp) rfl rfl, e⟩
/-! with blocks of the walk's own beside them -/
abbrev Loc := Nat × Array Value × TypeId
structure Locs (w W : World) (h1 : Hp) (r1 : Rw) (bs : List Loc) : Prop where
  cells : ∀ x ∈ bs, W.heap[x.1]? = some (.cells x.2.1 x.2.2 (0, 0))
  ap : ∀ x ∈ bs, ¬ h1.fp x.1 ∧ ¬ r1.fp x.1
  new : ∀ x ∈ bs, w.heap.size ≤ x.1
  nodup : (bs.map (·.1)).Nodup
def LB (w : World) (h : Hp) (r : Rw) (W : World) (m : HM) (r1 : Rw) (bs : List Loc) : Prop := ∃ h1, LDid w h r W h1 r1 ∧ h1.m = m ∧ Locs w W h1 r1 bs
theorem LB.start (L : LR w h r) : LB w h r w h.m r [] := ⟨h, .refl L, rfl, fun x hx => (by cases hx), fun x hx => (by cases hx), fun x hx => (by cases hx), List.Pairwise.nil⟩
variable {bs bs2 : List Loc}
theorem LB.ls (X : LB w h r W m r1 bs) : LS w h r W m r1 := by
  obtain ⟨h1, D, e, -⟩ := X
  exact ⟨h1, D, e⟩
theorem LB.sub (X : LB w h r W m r1 bs) (hs : bs2.Sublist bs) : LB w h r W m r1 bs2 := by
  obtain ⟨h1, D, e, C⟩ := X
  exact ⟨h1, D, e, fun x hx => C.cells x (hs.subset hx), fun x hx => C.ap x (hs.subset hx), fun x hx => C.new x (hs.subset hx), C.nodup.sublist (hs.map _)⟩
theorem LB.at_ (X : LB w h r W m r1 bs) {b : Nat} {cs : Array Value} {t : TypeId} (hx : (b, cs, t) ∈ bs) : W.heap[b]? = some (.cells cs t (0, 0)) := by
  obtain ⟨h1, D, e, C⟩ := X
  exact C.cells _ hx
theorem LB.lt (X : LB w h r W m r1 bs) {b : Nat} {cs : Array Value} {t : TypeId} (hx : (b, cs, t) ∈ bs) : b < W.heap.size := blk_lt (X.at_ hx)
theorem LB.cell (X : LB w h r W m r1 bs) {b : Nat} {cs : Array Value} {t : TypeId} (hx : (b, cs, t) ∈ bs) (j : Nat) : W.cell? ⟨b, j, none⟩ = cs[j]? := cell_of_row _ _ _ _ _ _ (X.at_ hx)
theorem LB.fz (X : LB w h r W m r1 bs) {b : Nat} {cs : Array Value} {t : TypeId} (hx : (b, cs, t) ∈ bs) (j : Nat) : W.frozen? ⟨b, j, none⟩ = false := frozen_of_row _ _ _ _ _ (X.at_ hx)
theorem LB.ne_box (X : LB w h r W m r1 bs) {b : Nat} {cs : Array Value} {t : TypeId} (hx : (b, cs, t) ∈ bs) : b ≠ r.blk := by
  obtain ⟨h1, D, e, C⟩ := X
  exact fun e => (C.ap _ hx).2 (.inl (by rw [D.rb]; exact e))
/-- the world goes on, and nothing that was there turns -/
theorem LB.q (X : LB w h r W m r1 bs) (hq : Q W W') : LB w h r W' m r1 bs := by
  obtain ⟨h1, D, e, C⟩ := X
  exact ⟨h1, D.q hq, e, fun x hx => (hq.below.block _ (blk_lt (C.cells x hx))).trans (C.cells x hx), C.ap, C.new, C.nodup⟩
/-- a block is made -/
theorem LB.alloc (X : LB w h r W m r1 bs) (cs : Array Value) (t : TypeId) : LB w h r (W.alloc (.cells cs t (0, 0))) m r1 ((W.heap.size, cs, t) :: bs) := by
  obtain ⟨h1, D, e, C⟩ := X
  have hq : Q W (W.alloc (.cells cs t (0, 0))) := (Q.refl _).alloc _
  refine ⟨h1, D.q hq, e, fun x hx => ?_, fun x hx => ?_, fun x hx => ?_, ?_⟩
  · rcases List.mem_cons.1 hx with rfl | hx
    · exact heap_alloc_new W _
    · exact (hq.below.block _ (blk_lt (C.cells x hx))).trans (C.cells x hx)
  · rcases List.mem_cons.1 hx with rfl | hx
    · refine ⟨fun e => ?_, fun e => ?_⟩
      · have := D.lr.heap.lt _ e
        exact Nat.lt_irrefl _ this
      · have := D.lr.rlt _ e
        exact Nat.lt_irrefl _ this
    · exact C.ap x hx
  · rcases List.mem_cons.1 hx with rfl | hx
    · exact D.turn.size
    · exact C.new x hx
  · rw [List.map_cons, List.nodup_cons]
    refine ⟨fun hm => ?_, C.nodup⟩
    obtain ⟨x, hx, e⟩ := List.mem_map.1 hm
    have := blk_lt (C.cells x hx)
    omega
/-- a store into one of the blocks -/
theorem LB.put (X : LB w h r W m r1 bs) {k b : Nat} {cs : Array Value} {t : TypeId} (hk : bs[k]? = some (b, cs, t)) (j : Nat) (v : Value) : LB w h r (W.setCell ⟨b, j, none⟩ v) m r1 (bs.set k (b, cs.setIfInBounds j v, t)) := by
  obtain ⟨h1, D, e, C⟩ := X
  have hmem := List.mem_of_getElem? hk
  have hb := C.cells _ hmem
  have hap := C.ap _ hmem
  have hlt := (List.getElem?_eq_some_iff.1 hk).1
  have L := D.lr
  have e1 : (bs.set k (b, cs.setIfInBounds j v, t)).map (·.1) = bs.map (·.1) := by
    refine List.ext_getElem (by simp) fun i h1 h2 => ?_
    rw [List.getElem_map, List.getElem_map, List.getElem_set]
    split
    · rename_i e
      subst e
      rw [(List.getElem?_eq_some_iff.1 hk).2]
    · rfl
  have who : ∀ x ∈ bs.set k (b, cs.setIfInBounds j v, t), x = (b, cs.setIfInBounds j v, t) ∨ (x ∈ bs ∧ x.1 ≠ b) := fun x hx => by
    obtain ⟨i, hi, ex⟩ := List.getElem_of_mem hx
    rw [List.length_set] at hi
    rw [List.getElem_set] at ex
    split at ex
    · exact .inl ex.symm
    · rename_i hne
      refine .inr ⟨by rw [← ex]; exact List.getElem_mem hi, fun e => hne ?_⟩
      have hp := List.pairwise_iff_getElem.1 C.nodup
      have ek : bs[k].1 = b := by rw [(List.getElem?_eq_some_iff.1 hk).2]
      rcases Nat.lt_trichotomy k i with g | g | g
      · have := hp k i (by simpa using hlt) (by simpa using hi) g
        rw [List.getElem_map, List.getElem_map] at this
        exact absurd (ek.trans (by rw [← e, ← ex])) this
      · exact g
      · have := hp i k (by simpa using hi) (by simpa using hlt) g
        rw [List.getElem_map, List.getElem_map] at this
        exact absurd ((by rw [← e, ← ex] : b = bs[i].1).symm.trans ek.symm) this
  have keep : ∀ g, g ≠ b → (W.setCell ⟨b, j, none⟩ v).heap[g]? = W.heap[g]? := fun g hg => heap_setCell_other _ _ _ _ hg
  have hnew := C.new _ hmem
  have hT : Turn (fun b => h.fp b ∨ r.fp b) w (W.setCell ⟨b, j, none⟩ v) := D.turn.trans (S' := fun i => i = b) ((Turn.refl (fun i => i = b) W).set (p := ⟨b, j, none⟩) rfl v) fun i hi e => by
    have e : i = b := e
    omega
  refine ⟨h1, ⟨⟨L.heap.same fun g hg => keep g fun e => hap.1 (e ▸ hg), L.mu, (keep _ fun e => hap.2 (.inl e.symm)).trans L.cells, own_same L.pcs fun g hg => keep g fun e => hap.2 (.inr (e ▸ hg)), L.ap1, L.ap2⟩, D.hb, D.rb, D.rt, hT, D.hf, D.rf⟩, e, fun x hx => ?_, fun x hx => ?_, fun x hx => ?_, by rw [e1]; exact C.nodup⟩
  · rcases who x hx with rfl | ⟨hx, hne⟩
    · exact heap_setCell_same W b j cs _ v hb
    · exact (keep _ hne).trans (C.cells x hx)
  · rcases who x hx with rfl | ⟨hx, -⟩
    · exact hap
    · exact C.ap x hx
  · rcases who x hx with rfl | ⟨hx, -⟩
    · exact hnew
    · exact C.new x hx
/-- a call acts on heap and rows, as it is said of the world at its beginning: the blocks stay -/
theorem LB.call (X : LB w h r W m r1 bs) {f : FuncId} {args : Array Value} {P : Ending → World → HM → Rw → Prop}
    (hc : ∀ h1, LR W h1 r1 → h1.m = m → h1.ptr = h.ptr → h1.calls = m.calls → Calls Tryz.prog f args W fun e W' => ∃ m2 r2, LS W h1 r1 W' m2 r2 ∧ P e W' m2 r2) :
    Calls Tryz.prog f args W fun e W' => ∃ m2 r2, LB w h r W' m2 r2 bs ∧ P e W' m2 r2 := by
  obtain ⟨h1, D, e, C⟩ := X
  refine (hc h1 D.lr e (by unfold Hp.ptr; rw [D.hb]) (by rw [← e]; rfl)).mono ?_
  rintro e2 W' ⟨m2, r2, ⟨h2, D2, em⟩, hP⟩
  have hl : ∀ x ∈ bs, x.1 < W.heap.size := fun x hx => blk_lt (C.cells x hx)
  refine ⟨m2, r2, ⟨h2, D.trans D2, em, fun x hx => ?_, fun x hx => ⟨fun e => ?_, fun e => ?_⟩, C.new, C.nodup⟩, hP⟩
  · exact (D2.turn.block _ (hl x hx) fun e => e.elim (C.ap x hx).1 (C.ap x hx).2).trans (C.cells x hx)
  · rcases D2.hf _ e with e | e
    · exact (C.ap x hx).1 e
    · exact absurd (hl x hx) (by omega)
  · rcases D2.rf _ e with e | e
    · exact (C.ap x hx).2 e
    · exact absurd (hl x hx) (by omega)
/-- the rows' own cells are written -/
theorem LB.own (X : LB w h r W m r1 bs) {W2 : World} {r2 : Rw} (hD : ∀ h1, LR W h1 r1 → h1.m = m → LDid W h1 r1 W2 h1 r2) : LB w h r W2 m r2 bs := by
  obtain ⟨h1, D, e, C⟩ := X
  have D2 := hD h1 D.lr e
  have hl : ∀ x ∈ bs, x.1 < W.heap.size := fun x hx => blk_lt (C.cells x hx)
  refine ⟨h1, D.trans D2, e, fun x hx => ?_, fun x hx => ⟨(C.ap x hx).1, fun e => ?_⟩, C.new, C.nodup⟩
  · exact (D2.turn.block _ (hl x hx) fun e => e.elim (C.ap x hx).1 (C.ap x hx).2).trans (C.cells x hx)
  · rcases D2.rf _ e with e | e
    · exact (C.ap x hx).2 e
    · exact absurd (hl x hx) (by omega)
theorem LB.setN (X : LB w h r W m r1 bs) (n : Nat) : LB w h r (W.setCell ⟨r.blk, 2, none⟩ (.int .i64 n)) m { r1 with n := n } bs := by
  have hb := X.ls.rb
  rw [← hb]
  exact X.own fun h1 L _ => (LDid.refl L).set 2 _ rfl rfl (by unfold Rw.cells; simp) rfl rfl
theorem LB.setC (X : LB w h r W m r1 bs) (b : Bool) : LB w h r (W.setCell ⟨r.blk, 3, none⟩ (.bool b)) m { r1 with closed := b } bs := by
  have hb := X.ls.rb
  rw [← hb]
  exact X.own fun h1 L _ => (LDid.refl L).set 3 _ rfl rfl (by unfold Rw.cells; simp) rfl rfl
theorem LB.row (X : LB w h r W m r1 bs) {W2 : World} {v : Value} {ps : List Int} (hg : W.grownBy W2 r1.pv.ownBlock) (hv : W2.ownsRow 0 3 1 v ps.length (intsV ps)) (hn : ∀ b, v.ownBlock = some b → r1.pv.ownBlock = some b ∨ W.heap.size ≤ b) :
    LB w h r (W2.setCell ⟨r.blk, 1, none⟩ v) m { r1 with pv := v, ps := ps } bs := by
  have hb := X.ls.rb
  rw [← hb]
  exact X.own fun h1 L _ => (LDid.refl L).row hg hv hn
theorem LB.owns (X : LB w h r W m r1 bs) : W.ownsRow 0 3 1 r1.pv r1.ps.length (intsV r1.ps) := by
  obtain ⟨h1, D, e, C⟩ := X
  exact D.lr.pcs
theorem LB.ap (X : LB w h r W m r1 bs) : ∀ b, r1.pv.ownBlock = some b → b ≠ r.blk := fun b hb => by
  obtain ⟨h1, D, e, C⟩ := X
  rw [← D.rb]
  exact (D.lr.ap2 b hb).2
theorem LB.act (X : LB w h r W m r1 bs) (I : Inv m) {f : FuncId} {args : Array Value} {P : Ending → Prop} {m2 : HM}
    (hc : ∀ h1, HpR W h1 → Inv h1.m → h1.mu = 0 → h1.m = m → h1.ptr = h.ptr → Calls Tryz.prog f args W fun e W' => P e ∧ ∃ h2, Did W h1 W' h2 ∧ h2.mu = 0 ∧ h2.m = m2) :
    Calls Tryz.prog f args W fun e W' => P e ∧ LB w h r W' m2 r1 bs := by
  refine (X.call (P := fun e W' m3 r3 => m3 = m2 ∧ r3 = r1 ∧ P e) fun h1 L e1 e2 _ => ?_).mono ?_
  · refine (hc h1 L.heap (by rw [e1]; exact I) L.mu e1 e2).mono ?_
    rintro e W' ⟨hp, h2, D, hmu, hm⟩
    exact ⟨m2, r1, ⟨h2, (LDid.refl L).act D hmu, hm⟩, rfl, rfl, hp⟩
  · rintro e W' ⟨m3, r3, Y, rfl, rfl, hp⟩
    exact ⟨hp, Y⟩
theorem lb_load (X : LB w h r W m r1 bs) (I : Inv m) (at_ : Int) : Calls Tryz.prog 36 #[h.ptr, .int .i64 at_] W fun e W' => e = .returned (.tuple #[.int .i64 (loadM m at_).1, .int .i64 (loadM m at_).2]) ∧ LB w h r W' m r1 bs := by
  refine X.act I fun h1 x1 x2 x3 x4 x5 => ?_
  rw [← x5]
  refine (load_act h1 at_ W x1 x2 x3).mono ?_
  rintro e W' ⟨h2, he, D, hmu, hm⟩
  rw [x4] at he hm
  exact ⟨he, h2, D, hmu, hm⟩
theorem lb_store (X : LB w h r W m r1 bs) (I : Inv m) (at_ b : Int) : Calls Tryz.prog 11 #[h.ptr, .int .i64 at_, .int .i64 b] W fun e W' => e = .returned (.int .i64 (storeM m at_ b).2) ∧ LB w h r W' (storeM m at_ b).1 r1 bs := by
  refine X.act I fun h1 x1 x2 x3 x4 x5 => ?_
  rw [← x5]
  refine (store_act h1 at_ b W x1 x2 x3).mono ?_
  rintro e W' ⟨h2, he, D, hmu, hm⟩
  rw [x4] at he hm
  exact ⟨he, h2, D, hmu, hm⟩
theorem lb_alloc (X : LB w h r W m r1 bs) (I : Inv m) (hc : m.calls < 1000000000) (n al : Int) : Calls Tryz.prog 9 #[h.ptr, .int .i64 n, .int .i64 al] W fun e W' => e = .returned (.tuple #[.int .i64 (allocM m n al).2.1, .int .i64 (allocM m n al).2.2]) ∧ LB w h r W' (allocM m n al).1 r1 bs := by
  refine X.act I fun h1 x1 x2 x3 x4 x5 => ?_
  rw [← x5]
  refine (alloc_any h1 n al W x1 x2 x3 (by rw [← x4] at hc; exact hc)).mono ?_
  rintro e W' ⟨h2, he, D, hmu, hm⟩
  rw [x4] at he hm
  exact ⟨he, h2, D, hmu, hm⟩
theorem lb_free (X : LB w h r W m r1 bs) (I : Inv m) (at_ : Int) (ha0 : -9223372036854775808 ≤ at_) (ha1 : at_ ≤ 9223372036854775807) : Calls Tryz.prog 108 #[h.ptr, .int .i64 at_] W fun e W' => e = .returned (.int .i64 (freeM m at_).2) ∧ LB w h r W' (freeM m at_).1 r1 bs := by
  refine X.act I fun h1 x1 x2 x3 x4 x5 => ?_
  rw [← x5]
  refine (free_act h1 at_ W x1 x2 x3 ha0 ha1).mono ?_
  rintro e W' ⟨h2, he, D, hmu, hm⟩
  rw [x4] at he hm
  exact ⟨he, h2, D, hmu, hm⟩
/-- the front of an own row -/
theorem own_take {w : World} {base : Nat} {e : TypeId} {size g n c : Nat} {xs : List Value} (h : w.ownsRow base e size (.slice (some ⟨g, 0, none⟩) n c) n xs) {k : Nat} (hk : k ≤ n) : w.ownsRow base e size (.slice (some ⟨g, 0, none⟩) k c) k (xs.take (k * size)) := by
  have hl := h.1
  rcases h.2 with ⟨h0, -⟩ | ⟨g', cap, cur, e1, hb, hh, h1, h2, h3, h4⟩
  · cases h0
  · cases e1
    have hkn : k * size ≤ n * size := Nat.mul_le_mul_right _ hk
    refine ⟨by rw [List.length_take, hl]; omega, .inr ⟨g, c, cur, rfl, hb, hh, Nat.le_trans hk h1, h2, h3, ?_⟩⟩
    rw [← h4, List.take_take, Nat.min_eq_left hkn]
def BdL (Ls : List (List Int)) : Prop := ∀ row ∈ Ls, ∀ v ∈ row, -9223372036854775808 ≤ v ∧ v ≤ 9223372036854775807
/-- a row has been put in, or not -/
structure Insd (m m' : HM) (T : Nat) (ps qs : List Int) (Ls : List (List Int)) (i : Nat) (t : List Int) (ok : Bool) : Prop where
  inv : Inv m'
  fr : Fr m m' ps qs
  kp : Kp m' T qs (if ok then insAt Ls i [t] else Ls)
  lt : ok = true → Ls.length < 64
  full : Ls.length = 64 → ok = false ∧ m'.calls = m.calls
  calls : m.calls ≤ m'.calls ∧ m'.calls ≤ m.calls + 1
  low : ∀ d, Low m T ps d → Low m' T qs d ∧ (Ls.length < 16 → ok = true)
theorem insd_no {m m' : HM} {T : Nat} {ps qs : List Int} {Ls : List (List Int)} {i : Nat} {t : List Int} (K : Kp m T ps Ls) (G : Grew m m' T ps qs Ls.length false) : Insd m m' T ps qs Ls i t false := by
  have e := (G.no rfl).1
  subst e
  exact ⟨G.inv, G.fr, G.still K, fun h => (by cases h), G.full, G.calls, G.low⟩
theorem insd_yes {m m1 m2 m3 : HM} {T : Nat} {ps qs : List Int} {Ls : List (List Int)} {i : Nat} {t : List Int} (G : Grew m m1 T ps qs Ls.length true) (S : ShUp m2 T qs Ls i) (F : Fr m1 m2 qs qs) (hc : m2.calls = m1.calls) (hf : m2.failIn = m1.failIn) (hi : i ≤ Ls.length) {p : Int} (hp : qs[i / 4]? = some p) (ht : t.length = T)
    (W : Writing m2 m3 p (((i % 4 * (8 * T) : Nat)) : Int) t (8 * t.length)) : Insd m m3 T ps qs Ls i t true := by
  have hlt := (G.yes rfl).1
  obtain ⟨k1, f1⟩ := S.done hi hlt hp ht W
  refine ⟨W.inv, (G.fr.trans F).trans f1, by rw [if_pos rfl]; exact k1, fun _ => hlt, fun h => ⟨(by have := (G.full h).1; cases this), by rw [W.calls, hc]; exact (G.full h).2⟩, by rw [W.calls, hc]; exact G.calls, fun d hL => ?_⟩
  obtain ⟨l1, l2⟩ := G.low d hL
  exact ⟨(l1.same F hf).same f1 W.failIn, l2⟩
/-- a row has been taken off the end -/
structure Dropd (m m' : HM) (T : Nat) (ps qs : List Int) (k : Nat) : Prop where
  inv : Inv m'
  pcs : Pcs m' T qs k
  fr : Fr m m' ps qs
  calls : m'.calls = m.calls
  failIn : m'.failIn = m.failIn
  rows : ∀ j row, j < k → RowIs m T ps j row → RowIs m' T qs j row
  low : ∀ d, Low m T ps d → Low m' T qs d
theorem dropd_same {m : HM} {T : Nat} {ps : List Int} {k : Nat} (I : Inv m) (P : Pcs m T ps (k + 1)) (h : k % 4 ≠ 0) : Dropd m m T ps ps k := ⟨I, drop_same P h, .refl _ _, rfl, rfl, fun _ _ _ h => h, fun _ h => h⟩
theorem dropd_free {m : HM} {T : Nat} {ps : List Int} {k : Nat} (I : Inv m) (P : Pcs m T ps (k + 1)) (h : k % 4 = 0) : ∃ qs p, ps = qs ++ [p] ∧ 0 ≤ p ∧ p ≤ 4096 ∧ (freeM m p).2 = 0 ∧ Dropd m (freeM m p).1 T ps qs k := by
  obtain ⟨qs, p, e, f1, f2, f3, f4, f5, f6, f7⟩ := drop_free I P h
  obtain ⟨b1, b2⟩ := (P.has p (by rw [e]; simp)).bounds I
  refine ⟨qs, p, e, b1, b2, f1, f2, f5, f6, f3, f4, f7, fun d hL => ?_⟩
  rw [e] at hL f6
  exact hL.drop f6 f4
/-- a row has been taken out -/
structure Remd (m m' : HM) (T : Nat) (ps qs : List Int) (Ls : List (List Int)) (i : Nat) : Prop where
  inv : Inv m'
  fr : Fr m m' ps qs
  kp : Kp m' T qs (delAt Ls i 1)
  calls : m'.calls = m.calls
  failIn : m'.failIn = m.failIn
  low : ∀ d, Low m T ps d → Low m' T qs d
theorem remd_of {m m2 m3 : HM} {T : Nat} {ps qs : List Int} {Ls : List (List Int)} {i k : Nat} (K : Kp m T ps Ls) (S : ShDn m2 T ps Ls i k) (hl : Ls.length = k + 1) (hi : i < Ls.length) (F : Fr m m2 ps ps) (hc : m2.calls = m.calls) (hf : m2.failIn = m.failIn) (D : Dropd m2 m3 T ps qs k) : Remd m m3 T ps qs Ls i := by
  have hln : (delAt Ls i 1).length = k := by rw [delAt_len _ _ _ (by omega)]; omega
  have h64 := K.len
  refine ⟨D.inv, F.trans D.fr, ⟨by rw [hln]; exact D.pcs, by omega, fun j row hj => ?_⟩, D.calls.trans hc, D.failIn.trans hf, fun d hL => D.low d (hL.same F hf)⟩
  have := (List.getElem?_eq_some_iff.1 hj).1
  exact D.rows j row (by omega) (S.all hl hi j row hj)
/-- all rows have been taken off -/
structure Clsd (m m' : HM) (ps : List Int) : Prop where
  inv : Inv m'
  fr : Fr m m' ps []
  calls : m'.calls = m.calls
  failIn : m'.failIn = m.failIn
theorem clsd_of {m m' : HM} {T : Nat} {ps qs : List Int} (I : Inv m') (P : Pcs m' T qs 0) (F : Fr m m' ps qs) (hc : m'.calls = m.calls) (hf : m'.failIn = m.failIn) : qs = [] ∧ Clsd m m' ps := by
  have h := P.len
  have : qs = [] := List.eq_nil_of_length_eq_zero (by simpa using h)
  subst this
  exact ⟨rfl, I, F, hc, hf⟩
/-- a row while it is read: k of its numbers are there -/
def rowC (xs : List Int) (k : Nat) : Array Value := (intsV (xs.take k) ++ List.replicate (xs.length - k) (Value.int .i64 0)).toArray
theorem rowC_len (xs : List Int) (k : Nat) (hk : k ≤ xs.length) : (intsV (xs.take k)).length = k := by
  unfold intsV
  rw [List.length_map, List.length_take]
  omega
theorem rowC_set {xs : List Int} {k : Nat} {v : Int} (hv : xs[k]? = some v) : (rowC xs k).setIfInBounds k (.int .i64 v) = rowC xs (k + 1) := by
  obtain ⟨hk, e⟩ := List.getElem?_eq_some_iff.1 hv
  unfold rowC
  rw [List.setIfInBounds_toArray]
  congr 1
  rw [List.set_append_right _ _ (by rw [rowC_len xs k (by omega)]; exact Nat.le_refl _), rowC_len xs k (by omega), Nat.sub_self, show xs.length - k = (xs.length - (k + 1)) + 1 by omega, List.replicate_succ, List.set_cons_zero]
  unfold intsV
  rw [List.take_succ_eq_append_getElem hk, e, List.map_append]
  simp
theorem rowC_at {xs : List Int} {k : Nat} (hk : k < xs.length) : (rowC xs k)[k]? = some (.int .i64 0) := by
  unfold rowC
  rw [List.getElem?_toArray, List.getElem?_append_right (by rw [rowC_len xs k (by omega)]; exact Nat.le_refl _), rowC_len xs k (by omega), Nat.sub_self, List.getElem?_replicate, if_pos (by omega)]
theorem rowC_all (xs : List Int) : rowC xs xs.length = (intsV xs).toArray := by
  unfold rowC
  rw [List.take_length, Nat.sub_self]
  simp
theorem RowIs.place {m : HM} (I : Inv m) {T : Nat} {ps : List Int} {i : Nat} {xs : List Int} (h : RowIs m T ps i xs) (hT : 0 < T) : ∃ p, ps[i / 4]? = some p ∧ xs.length = T ∧ 0 ≤ p ∧ p ≤ 4096 := by
  obtain ⟨p, hp, hl, hR⟩ := h
  obtain ⟨x, hx, e, h1, h2, h3⟩ := hR 0 (by omega)
  have h4 := I.fit.inn x hx
  have h5 := I.fit.sz
  unfold pend at *
  exact ⟨p, hp, hl, by omega, by omega⟩
end
end Go.Proofs.YtdaklffbfadghaaGreat
