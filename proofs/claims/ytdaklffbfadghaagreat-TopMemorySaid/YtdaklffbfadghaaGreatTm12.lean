/- The document's map: find, Has, Get. The document's map: Put. Delete of the document's map. The acts of the law on maps: the map's and the document's side by side. The law ListMaps: what stands between its acts. Conditions: as each theorem says. -/
import Derived.Test.YtdaklffbfadghaaGreatTm11
namespace Go.Proofs.YtdaklffbfadghaaGreat
open Go.RowKit HP
set_option linter.unusedVariables false
set_option linter.unusedSimpArgs false
def valsOf (kv : List (Int × Int)) : List Int := kv.map (·.2)
/-- the place of a key, -1 if it is not there -/
def fkI (ks : List Int) (k : Int) : Int := match ks.findIdx? (· == k) with | some i => (i : Int) | none => -1
theorem fk_here {ks : List Int} {k x : Int} {i : Nat} (h : ∀ j < i, ∀ y, ks[j]? = some y → (y == k) = false) (hx : ks[i]? = some x) (he : (x == k) = true) : fkI ks k = (i : Int) := by
  obtain ⟨hi, e⟩ := List.getElem?_eq_some_iff.1 hx
  have : ks.findIdx? (· == k) = some i := by
    rw [List.findIdx?_eq_some_iff_getElem]
    refine ⟨hi, by rw [e]; exact he, fun j hj => ?_⟩
    have := h j hj _ (List.getElem?_eq_getElem (by omega))
    simpa using this
  unfold fkI
  rw [this]
theorem fk_none {ks : List Int} {k : Int} {n : Nat} (hn : n = ks.length) (h : ∀ j < n, ∀ y, ks[j]? = some y → (y == k) = false) : fkI ks k = -1 := by
  have : ks.findIdx? (· == k) = none := by
    rw [List.findIdx?_eq_none_iff]
    intro y hy
    obtain ⟨j, hj, rfl⟩ := List.getElem_of_mem hy
    have := h j (by omega) _ (List.getElem?_eq_getElem hj)
    simpa using this
  unfold fkI
  rw [this]
theorem fk_no {ks : List Int} {k : Int} (h : k ∉ ks) : fkI ks k = -1 := fk_none rfl fun j hj y hy => by
  have := List.mem_of_getElem? hy
  simp
  rintro rfl
  exact h this
theorem fk_at {ks : List Int} {k : Int} {i : Nat} (nd : ks.Nodup) (hi : ks[i]? = some k) : fkI ks k = (i : Int) := fk_here (fun j hj y hy => by
  simp
  rintro rfl
  obtain ⟨h1, e1⟩ := List.getElem?_eq_some_iff.1 hi
  obtain ⟨h2, e2⟩ := List.getElem?_eq_some_iff.1 hy
  have := nodup_idx nd h1 h2 (by rw [e1, e2])
  omega) hi (by simp)
/-- a map of the document at its place -/
structure RM (W : World) (nb : Nat) (A : Option Addr) (n c : Nat) (B : Option Addr) (c2 : Nat) (kv : List (Int × Int)) : Prop where
  box : W.heap[nb]? = some (.cells #[.slice A n c, .slice B n c2] 49 (0, 0))
  sk : Sl 1 (encI .i64) W A n c (keysOf kv)
  sv : Sl 1 (encI .i64) W B n c2 (valsOf kv)
section
variable {w W : World} {nb n c c2 : Nat} {A B : Option Addr} {kv : List (Int × Int)}
theorem RM.q (R : RM w nb A n c B c2 kv) (hq : Q w W) : RM W nb A n c B c2 kv := ⟨(hq.below.block _ (blk_lt R.box)).trans R.box, R.sk.up hq, R.sv.up hq⟩
theorem RM.len (R : RM w nb A n c B c2 kv) : n = kv.length := by
  have := R.sk.len
  unfold keysOf at this
  rw [List.length_map] at this
  exact this.symm
theorem RM.k (R : RM w nb A n c B c2 kv) : w.cell? ⟨nb, 0, none⟩ = some (.slice A n c) ∧ w.cell? ⟨nb, 1, none⟩ = some (.slice B n c2) ∧ nb < w.heap.size ∧ w.frozen? ⟨nb, 0, none⟩ = false ∧ w.frozen? ⟨nb, 1, none⟩ = false := by
  refine ⟨?_, ?_, blk_lt R.box, frozen_of_row _ _ _ _ _ R.box, frozen_of_row _ _ _ _ _ R.box⟩
  all_goals (rw [cell_of_row _ _ _ _ _ _ R.box]; rfl)
set_option maxHeartbeats 4000000 in
set_option maxRecDepth 100000 in
theorem findR_any (R : RM w nb A n c B c2 kv) (hn : n ≤ 1000) (k : Int) : Calls Tryz.prog 75 #[.pointer (some ⟨nb, 0, none⟩), .int .i64 k] w fun e w' => e = .returned (.int .i64 (fkI (keysOf kv) k)) ∧ Q w w' := by
  have HR : Hid (∀ W, Q w W → RM W nb A n c B c2 kv) := fun W hq => R.q hq
  have HL : Hid (n = (keysOf kv).length) := R.sk.len.symm
  have hni : (n : Int) ≤ 1000 := by omega
  obtain ⟨k0, -, hl, -, -⟩ := R.k
  clear R
  go_enter Tryz.func75, Tryz.ntmps75
  go_wp2_with fail
  go_loopw [5] (fun vi wr => ∃ i : Nat, i ≤ n ∧ vi = .int .i64 (i : Int) ∧ Q w wr ∧ Hid (∀ j < i, ∀ y, (keysOf kv)[j]? = some y → (y == k) = false)) (fun vi _ => n - (intOf vi).toNat)
  case atStart => exact ⟨0, by omega, by go_num, Q.refl _, fun j hj => absurd hj (by omega)⟩
  case round =>
    obtain ⟨i, hi, rfl, hq, HH⟩ := hrel
    obtain ⟨c0, -, hbl, -, -⟩ := (HR.out _ hq).k
    clear k0 hl
    by_cases hlt : i < n
    · have hd1 : decide ((i : Int) < (n : Int)) = true := by simp; omega
      have hd0 : decide (i < n) = true := by simp; omega
      have hlti : (i : Int) < (n : Int) := by omega
      obtain ⟨b1, o1, x, rfl, hb1, g1, k1⟩ := (HR.out _ hq).sk.i1 i hlt
      have HG1 := hide g1
      clear g1
      cases hx : (x == k) with
      | true =>
        have HX := hide hx
        go_wp2_with fail
        go_ret
        exact ⟨ret_int (fk_here HH.out HG1.out HX.out).symm, hq⟩
      | false =>
        have HX := hide hx
        go_wp2_with fail
        go_roundw
        case rel =>
          refine ⟨i + 1, by omega, by go_num, hq, fun j hj y hy => ?_⟩
          by_cases e : j = i
          · subst e
            rw [HG1.out] at hy
            obtain rfl := Option.some.inj hy
            exact HX.out
          · exact HH.out j (by omega) y hy
        case measure => simp [intOf] <;> omega
    · have hd1 : decide ((i : Int) < (n : Int)) = false := by simp; omega
      have hd0 : decide (i < n) = false := by simp; omega
      obtain rfl : i = n := by omega
      go_wp2_with fail
      go_ret
      exact ⟨ret_int (fk_none HL.out HH.out).symm, hq⟩
/-- what the document's Get says -/
def gtV (kv : List (Int × Int)) (k : Int) : Int := if fitsB k = true ∧ 0 ≤ fkI (keysOf kv) k then (valsOf kv).getD (fkI (keysOf kv) k).toNat 0 else 0
def gtB (kv : List (Int × Int)) (k : Int) : Bool := fitsB k && decide (0 ≤ fkI (keysOf kv) k)
def gtE (k : Int) : Int := if fitsB k then 0 else 1
theorem fk_lt {ks : List Int} {k : Int} (h : 0 ≤ fkI ks k) : (fkI ks k).toNat < ks.length := by
  unfold fkI at h ⊢
  split
  · rename_i i hi
    obtain ⟨h1, -⟩ := List.findIdx?_eq_some_iff_getElem.1 hi
    simpa using h1
  · rename_i hi
    rw [hi] at h
    exact absurd h (by decide)
set_option maxHeartbeats 4000000 in
set_option maxRecDepth 100000 in
theorem getRM_any (R : RM w nb A n c B c2 kv) (hn : n ≤ 1000) (k : Int) : Calls Tryz.prog 43 #[.pointer (some ⟨nb, 0, none⟩), .int .i64 k] w fun e w' => e = .returned (.tuple #[.int .i64 (gtV kv k), .bool (gtB kv k), .int .i64 (gtE k)]) ∧ Q w w' := by
  have HF : Hid (∀ W, Q w W → Calls Tryz.prog 75 #[.pointer (some ⟨nb, 0, none⟩), .int .i64 k] W fun e w' => e = .returned (.int .i64 (fkI (keysOf kv) k)) ∧ Q W w') := fun W hq => findR_any (R.q hq) hn k
  have HFT := hide (fits_any k)
  have HR : Hid (∀ W, Q w W → RM W nb A n c B c2 kv) := fun W hq => R.q hq
  have HLT : Hid (0 ≤ fkI (keysOf kv) k → (fkI (keysOf kv) k).toNat < n) := hide fun h => by
    have := fk_lt h
    rw [R.sk.len] at this
    exact this
  clear R
  cases hf : fitsB k
  · have e1 : gtV kv k = 0 := if_neg fun h => by rw [hf] at h; exact absurd h.1 (by decide)
    have e2 : gtB kv k = false := by unfold gtB; rw [hf]; rfl
    have e3 : gtE k = 1 := by unfold gtE; rw [hf]; rfl
    rw [e1, e2, e3]
    rw [hf] at HFT
    have HFT : Hid (∀ W, Calls Tryz.prog 68 #[.int .i64 k] W fun e w' => e = .returned (.bool false) ∧ Q W w') := HFT
    clear e1 e2 e3 hf
    go_enter Tryz.func43, Tryz.ntmps43
    go_wp2_with (go_at_call 68; refine (HFT.out _).mono ?_; rintro e w1 ⟨rfl, hq1⟩)
    refine bodyPost_ret (results_tmp3 rfl _ _) rfl ?_
    exact ⟨rfl, hq1⟩
  · have e3 : gtE k = 0 := by unfold gtE; rw [hf]; rfl
    rw [e3]
    rw [hf] at HFT
    have HFT : Hid (∀ W, Calls Tryz.prog 68 #[.int .i64 k] W fun e w' => e = .returned (.bool true) ∧ Q W w') := HFT
    by_cases h0 : 0 ≤ fkI (keysOf kv) k
    · have e1 : gtV kv k = (valsOf kv).getD (fkI (keysOf kv) k).toNat 0 := if_pos ⟨hf, h0⟩
      have e2 : gtB kv k = true := by unfold gtB; rw [hf]; simpa using h0
      rw [e1, e2]
      have hlt := HLT.out h0
      obtain ⟨i, ei⟩ : ∃ i : Nat, fkI (keysOf kv) k = (i : Int) := ⟨_, (Int.toNat_of_nonneg h0).symm⟩
      rw [ei, Int.toNat_natCast] at hlt
      rw [ei, Int.toNat_natCast]
      rw [ei] at HF
      have d0 : decide ((i : Int) < 0) = false := by simp
      have hli : (i : Int) < (n : Int) := by omega
      clear e1 e2 e3 hf h0 ei HLT
      go_enter Tryz.func43, Tryz.ntmps43
      go_wp2_with (first
        | (go_at_call 68; refine (HFT.out _).mono ?_; rintro e w1 ⟨rfl, hq1⟩)
        | (go_at_call 75; refine (HF.out _ hq1).mono ?_; rintro e w2 ⟨rfl, hq2⟩; have hq12 := hq1.trans hq2; obtain ⟨-, c1, hbl, -, -⟩ := (HR.out _ hq12).k; obtain ⟨b1, o1, x, eB, hb1, g1, k1⟩ := (HR.out _ hq12).sv.i1 i hlt; subst eB; have HG1 := hide g1; clear g1))
      refine bodyPost_ret (results_tmp3 rfl _ _) rfl ?_
      refine ⟨?_, hq12⟩
      have e : (valsOf kv).getD i 0 = x := by rw [List.getD_eq_getElem?_getD, HG1.out]; rfl
      rw [e]
      rfl
    · have e1 : gtV kv k = 0 := if_neg fun h => h0 h.2
      have e2 : gtB kv k = false := by unfold gtB; rw [hf]; simpa using h0
      rw [e1, e2]
      have d0 : decide (fkI (keysOf kv) k < 0) = true := by simp; omega
      obtain ⟨f, ef⟩ : ∃ f, f = fkI (keysOf kv) k := ⟨_, rfl⟩
      rw [← ef] at HF d0
      clear e1 e2 e3 hf h0 ef HLT
      go_enter Tryz.func43, Tryz.ntmps43
      go_wp2_with (first
        | (go_at_call 68; refine (HFT.out _).mono ?_; rintro e w1 ⟨rfl, hq1⟩)
        | (go_at_call 75; refine (HF.out _ hq1).mono ?_; rintro e w2 ⟨rfl, hq2⟩; have hq12 := hq1.trans hq2))
      refine bodyPost_ret (results_tmp3 rfl _ _) rfl ?_
      exact ⟨rfl, hq12⟩
end
end Go.Proofs.YtdaklffbfadghaaGreat

namespace Go.Proofs.YtdaklffbfadghaaGreat
open Go.RowKit HP
set_option linter.unusedVariables false
set_option linter.unusedSimpArgs false
/-- a map of the document at its place, whose rows are its own -/
structure OM (W : World) (B nb : Nat) (vk vv : Value) (ks vs : List Int) : Prop where
  box : W.heap[nb]? = some (.cells #[vk, vv] 49 (0, 0))
  ok : W.ownsRow B 3 1 vk ks.length (intsV ks)
  ov : W.ownsRow B 3 1 vv vs.length (intsV vs)
  ap : ∀ g, vk.ownBlock = some g → vv.ownBlock ≠ some g
/-- what a call may turn of it -/
def OMt (nb : Nat) (vk vv : Value) (b : Nat) : Prop := b = nb ∨ vk.ownBlock = some b ∨ vv.ownBlock = some b
/-- what has become of it -/
def OMok (w : World) (B nb : Nat) (vk vv : Value) (ks vs : List Int) (W : World) : Prop := ∃ vk2 vv2, OM W B nb vk2 vv2 ks vs ∧ Turn (OMt nb vk vv) w W ∧ ∀ b, OMt nb vk2 vv2 b → OMt nb vk vv b ∨ w.heap.size ≤ b
theorem boxM_ne {w : World} {b B : Nat} {cs : Array Value} {f : Nat × Nat} {v : Value} {n : Nat} {xs : List Value} (hb : w.heap[b]? = some (.cells cs 49 f)) (h : w.ownsRow B 3 1 v n xs) : v.ownBlock ≠ some b := fun e => by
  obtain ⟨c2, h2⟩ := own_blk h e
  rw [hb] at h2
  injection h2 with h2
  injection h2 with _ h3 _
  exact absurd h3 (by decide)
section
variable {w W : World} {B nb : Nat} {vk vv v2 : Value} {ks vs : List Int} {kv : List (Int × Int)}
theorem OM.q (X : OM w B nb vk vv ks vs) (hq : Q w W) : OM W B nb vk vv ks vs := ⟨(hq.below.block _ (blk_lt X.box)).trans X.box, own_q X.ok hq, own_q X.ov hq, X.ap⟩
theorem OM.lt (X : OM w B nb vk vv ks vs) : ∀ b, OMt nb vk vv b → b < w.heap.size := fun b e => by
  rcases e with rfl | e | e
  · exact blk_lt X.box
  · exact (X.ok.lt b e).2
  · exact (X.ov.lt b e).2
theorem OM.same (X : OM w B nb vk vv ks vs) (h : ∀ b, OMt nb vk vv b → W.heap[b]? = w.heap[b]?) : OM W B nb vk vv ks vs :=
  ⟨(h _ (.inl rfl)).trans X.box, own_same X.ok fun g hg => h g (.inr (.inl hg)), own_same X.ov fun g hg => h g (.inr (.inr hg)), X.ap⟩
theorem OM.rm (X : OM w B nb vk vv (keysOf kv) (valsOf kv)) : ∃ A c A2 c2, vk = .slice A kv.length c ∧ vv = .slice A2 kv.length c2 ∧ RM w nb A kv.length c A2 c2 kv := by
  have lk : (keysOf kv).length = kv.length := by unfold keysOf; rw [List.length_map]
  have lv : (valsOf kv).length = kv.length := by unfold valsOf; rw [List.length_map]
  obtain ⟨A, c, e1, -⟩ := own_form X.ok
  obtain ⟨A2, c2, e2, -⟩ := own_form X.ov
  subst e1
  subst e2
  refine ⟨A, c, A2, c2, by rw [lk], by rw [lv], ?_, ?_, ?_⟩
  · have := X.box
    rw [lk, lv] at this
    exact this
  · have := own_sl rfl X.ok
    rw [lk] at this
    exact this
  · have := own_sl rfl X.ov
    rw [lv] at this
    exact this
theorem OM.k (X : OM w B nb vk vv ks vs) : w.cell? ⟨nb, 0, none⟩ = some vk ∧ w.cell? ⟨nb, 1, none⟩ = some vv ∧ nb < w.heap.size ∧ w.frozen? ⟨nb, 0, none⟩ = false ∧ w.frozen? ⟨nb, 1, none⟩ = false := by
  refine ⟨?_, ?_, blk_lt X.box, frozen_of_row _ _ _ _ _ X.box, frozen_of_row _ _ _ _ _ X.box⟩
  all_goals (rw [cell_of_row _ _ _ _ _ _ X.box]; rfl)
theorem OM.kg (X : OM w B nb vk vv ks vs) {row : Option Nat} (hg : w.grownBy W row) (hr : ∀ g, row = some g → vk.ownBlock = some g ∨ vv.ownBlock = some g) : W.cell? ⟨nb, 0, none⟩ = some vk ∧ W.cell? ⟨nb, 1, none⟩ = some vv ∧ nb < W.heap.size ∧ W.frozen? ⟨nb, 0, none⟩ = false ∧ W.frozen? ⟨nb, 1, none⟩ = false := by
  have hb : W.heap[nb]? = some (.cells #[vk, vv] 49 (0, 0)) := (hg.block _ (blk_lt X.box) fun e => (hr _ e.symm).elim (boxM_ne X.box X.ok) (boxM_ne X.box X.ov)).trans X.box
  refine ⟨?_, ?_, blk_lt hb, frozen_of_row _ _ _ _ _ hb, frozen_of_row _ _ _ _ _ hb⟩
  all_goals (rw [cell_of_row _ _ _ _ _ _ hb]; rfl)
/-- another row of keys is laid into the box -/
theorem OM.layK (X : OM w B nb vk vv ks vs) {row : Option Nat} (hg : w.grownBy W row) (hr : ∀ g, row = some g → vk.ownBlock = some g) {ys : List Int} (ho : W.ownsRow B 3 1 v2 ys.length (intsV ys)) (hn : ∀ b, v2.ownBlock = some b → vk.ownBlock = some b ∨ w.heap.size ≤ b) :
    OM (W.setCell ⟨nb, 0, none⟩ v2) B nb v2 vv ys vs ∧ Turn (OMt nb vk vv) w (W.setCell ⟨nb, 0, none⟩ v2) ∧ ∀ b, OMt nb v2 vv b → OMt nb vk vv b ∨ w.heap.size ≤ b := by
  have hl := blk_lt X.box
  have n1 := boxM_ne X.box X.ok
  have n2 := boxM_ne X.box X.ov
  have hb : W.heap[nb]? = some (.cells #[vk, vv] 49 (0, 0)) := (hg.block _ hl fun e => n1 (hr _ e.symm)).trans X.box
  have n3 := boxM_ne hb ho
  refine ⟨⟨?_, own_same ho fun g hg2 => heap_setCell_other _ _ _ _ fun e => n3 (hg2.trans (congrArg some e)), own_same X.ov fun g hg2 => (heap_setCell_other _ _ _ _ fun e => n2 (hg2.trans (congrArg some e))).trans (hg.block _ (X.ov.lt g hg2).2 fun e => X.ap g (hr _ e.symm) hg2), fun g hg2 h2 => ?_⟩, ?_, fun b e => ?_⟩
  · have := heap_setCell_same W nb 0 _ _ v2 hb
    rw [this]
    rfl
  · rcases hn g hg2 with e | e
    · exact X.ap g e h2
    · have := (X.ov.lt g h2).2
      omega
  · exact ((Turn.refl (OMt nb vk vv) w).grown hg fun k hk _ => .inr (.inl (hr k hk))).set (p := ⟨nb, 0, none⟩) (.inl rfl) _
  · rcases e with e | e | e
    · exact .inl (.inl e)
    · rcases hn b e with e | e
      · exact .inl (.inr (.inl e))
      · exact .inr e
    · exact .inl (.inr (.inr e))
/-- another row of values -/
theorem OM.layV (X : OM w B nb vk vv ks vs) {row : Option Nat} (hg : w.grownBy W row) (hr : ∀ g, row = some g → vv.ownBlock = some g) {ys : List Int} (ho : W.ownsRow B 3 1 v2 ys.length (intsV ys)) (hn : ∀ b, v2.ownBlock = some b → vv.ownBlock = some b ∨ w.heap.size ≤ b) :
    OM (W.setCell ⟨nb, 1, none⟩ v2) B nb vk v2 ks ys ∧ Turn (OMt nb vk vv) w (W.setCell ⟨nb, 1, none⟩ v2) ∧ ∀ b, OMt nb vk v2 b → OMt nb vk vv b ∨ w.heap.size ≤ b := by
  have hl := blk_lt X.box
  have n1 := boxM_ne X.box X.ok
  have n2 := boxM_ne X.box X.ov
  have hb : W.heap[nb]? = some (.cells #[vk, vv] 49 (0, 0)) := (hg.block _ hl fun e => n2 (hr _ e.symm)).trans X.box
  have n3 := boxM_ne hb ho
  refine ⟨⟨?_, own_same X.ok fun g hg2 => (heap_setCell_other _ _ _ _ fun e => n1 (hg2.trans (congrArg some e))).trans (hg.block _ (X.ok.lt g hg2).2 fun e => X.ap g hg2 (hr _ e.symm)), own_same ho fun g hg2 => heap_setCell_other _ _ _ _ fun e => n3 (hg2.trans (congrArg some e)), fun g hg2 h2 => ?_⟩, ?_, fun b e => ?_⟩
  · have := heap_setCell_same W nb 1 _ _ v2 hb
    rw [this]
    rfl
  · rcases hn g h2 with e | e
    · exact X.ap g hg2 e
    · have := (X.ok.lt g hg2).2
      omega
  · exact ((Turn.refl (OMt nb vk vv) w).grown hg fun k hk _ => .inr (.inr (hr k hk))).set (p := ⟨nb, 1, none⟩) (.inl rfl) _
  · rcases e with e | e | e
    · exact .inl (.inl e)
    · exact .inl (.inr (.inl e))
    · rcases hn b e with e | e
      · exact .inl (.inr (.inr e))
      · exact .inr e
theorem OMok.step {vk2 vv2 : Value} {ks2 vs2 : List Int} {W2 : World} (t : Turn (OMt nb vk vv) w W) (h : ∀ b, OMt nb vk2 vv2 b → OMt nb vk vv b ∨ w.heap.size ≤ b) (k : OMok W B nb vk2 vv2 ks2 vs2 W2) : OMok w B nb vk vv ks2 vs2 W2 := by
  obtain ⟨v5, v6, X, t2, h2⟩ := k
  have hsz := t.size
  refine ⟨v5, v6, X, t.trans t2 fun i hi e => (h i e).elim id fun e => absurd hi (by omega), fun b e => ?_⟩
  rcases h2 b e with e | e
  · exact h b e
  · exact .inr (by omega)
theorem OMok.refl (X : OM w B nb vk vv ks vs) (hq : Q w W) : OMok w B nb vk vv ks vs W := ⟨vk, vv, X.q hq, .of_q hq, fun b e => .inl e⟩
/-- what the document's Put says -/
def ptE (kv : List (Int × Int)) (k v : Int) : Int := if fits2 (k, v) = false then 1 else if 0 ≤ fkI (keysOf kv) k then 0 else if 64 ≤ kv.length then 3 else 0
def ptB (kv : List (Int × Int)) (k v : Int) : Bool := fits2 (k, v) && decide (0 ≤ fkI (keysOf kv) k)
def ptV (kv : List (Int × Int)) (k v : Int) : Int := if ptB kv k v then (valsOf kv).getD (fkI (keysOf kv) k).toNat 0 else 0
def ptY (kv : List (Int × Int)) (k v : Int) : List (Int × Int) := if ptE kv k v = 0 then (if 0 ≤ fkI (keysOf kv) k then kv.set (fkI (keysOf kv) k).toNat (k, v) else kv ++ [(k, v)]) else kv
set_option maxHeartbeats 4000000 in
set_option maxRecDepth 100000 in
theorem putR_bad (X : OM w B nb vk vv (keysOf kv) (valsOf kv)) (k v : Int) (hf : fits2 (k, v) = false) : Calls Tryz.prog 22 #[.pointer (some ⟨nb, 0, none⟩), .int .i64 k, .int .i64 v] w fun e w' => e = .returned (.tuple #[.int .i64 0, .bool false, .int .i64 1]) ∧ Q w w' := by
  have HFT : Hid (∀ v W, Calls Tryz.prog 68 #[.int .i64 v] W fun e w' => e = .returned (.bool (fitsB v)) ∧ Q W w') := fun v W => fits_any v W
  have hf2 : fitsB k = false ∨ (fitsB k = true ∧ fitsB v = false) := by
    unfold fits2 at hf
    cases h1 : fitsB k
    · exact .inl rfl
    · rw [h1] at hf
      exact .inr ⟨rfl, hf⟩
  clear X hf
  rcases hf2 with h1 | ⟨h1, h2⟩
  · go_enter Tryz.func22, Tryz.ntmps22
    go_wp2_with (go_at_call 68; refine (HFT.out _ _).mono ?_; rintro e w1 ⟨rfl, hq1⟩)
    refine bodyPost_ret (results_tmp3 rfl _ _) rfl ?_
    exact ⟨rfl, hq1⟩
  · have HK : Hid (∀ W, Calls Tryz.prog 68 #[.int .i64 k] W fun e w' => e = .returned (.bool true) ∧ Q W w') := fun W => by have := HFT.out k W; rw [h1] at this; exact this
    have HV : Hid (∀ W, Calls Tryz.prog 68 #[.int .i64 v] W fun e w' => e = .returned (.bool false) ∧ Q W w') := fun W => by have := HFT.out v W; rw [h2] at this; exact this
    clear h1 h2 HFT
    have tok1 : True := trivial
    go_enter Tryz.func22, Tryz.ntmps22
    go_wp2_with (first
      | (go_at_call 68; have _t := tok1; refine (HK.out _).mono ?_; rintro e w1 ⟨rfl, hq1⟩; clear tok1; have tok2 : True := trivial)
      | (go_at_call 68; have _t := tok2; refine (HV.out _).mono ?_; rintro e w2 ⟨rfl, hq2⟩; clear tok2))
    refine bodyPost_ret (results_tmp3 rfl _ _) rfl ?_
    exact ⟨rfl, hq1.trans hq2⟩
set_option maxHeartbeats 4000000 in
set_option maxRecDepth 100000 in
theorem putR_full (X : OM w B nb vk vv (keysOf kv) (valsOf kv)) (hn : kv.length ≤ 1000) (k v : Int) (hf : fits2 (k, v) = true) (h0 : ¬ 0 ≤ fkI (keysOf kv) k) (hl : 64 ≤ kv.length) : Calls Tryz.prog 22 #[.pointer (some ⟨nb, 0, none⟩), .int .i64 k, .int .i64 v] w fun e w' => e = .returned (.tuple #[.int .i64 0, .bool false, .int .i64 3]) ∧ Q w w' := by
  unfold fits2 at hf
  rw [Bool.and_eq_true] at hf
  have HK : Hid (∀ W, Calls Tryz.prog 68 #[.int .i64 k] W fun e w' => e = .returned (.bool true) ∧ Q W w') := fun W => by have := fits_any k W; rw [hf.1] at this; exact this
  have HV : Hid (∀ W, Calls Tryz.prog 68 #[.int .i64 v] W fun e w' => e = .returned (.bool true) ∧ Q W w') := fun W => by have := fits_any v W; rw [hf.2] at this; exact this
  obtain ⟨A, c, A2, c2, rfl, rfl, R⟩ := X.rm
  have HF : Hid (∀ W, Q w W → Calls Tryz.prog 75 #[.pointer (some ⟨nb, 0, none⟩), .int .i64 k] W fun e w' => e = .returned (.int .i64 (fkI (keysOf kv) k)) ∧ Q W w') := fun W hq => findR_any (R.q hq) hn k
  have HKK : Hid (∀ W, Q w W → W.cell? ⟨nb, 0, none⟩ = some (.slice A kv.length c) ∧ nb < W.heap.size) := fun W hq => ⟨(R.q hq).k.1, (R.q hq).k.2.2.1⟩
  obtain ⟨n, en⟩ : ∃ n, n = kv.length := ⟨_, rfl⟩
  rw [← en] at hn hl HKK
  obtain ⟨f, ef⟩ : ∃ f, f = fkI (keysOf kv) k := ⟨_, rfl⟩
  rw [← ef] at HF h0
  have d0 : decide (0 ≤ f) = false := by simp; omega
  have d1 : decide ((64 : Int) ≤ (n : Int)) = true := by simp; omega
  clear X R hf h0 ef en hl
  have tok1 : True := trivial
  go_enter Tryz.func22, Tryz.ntmps22
  go_wp2_with (first
    | (go_at_call 68; have _t := tok1; refine (HK.out _).mono ?_; rintro e w1 ⟨rfl, hq1⟩; clear tok1; have tok2 : True := trivial)
    | (go_at_call 68; have _t := tok2; refine (HV.out _).mono ?_; rintro e w2 ⟨rfl, hq2⟩; clear tok2; have hq12 := hq1.trans hq2)
    | (go_at_call 75; refine (HF.out _ hq12).mono ?_; rintro e w3 ⟨rfl, hq3⟩; have hq13 := hq12.trans hq3; obtain ⟨c0, hbl⟩ := HKK.out _ hq13))
  refine bodyPost_ret (results_tmp3 rfl _ _) rfl ?_
  exact ⟨rfl, hq13⟩
set_option maxHeartbeats 4000000 in
set_option maxRecDepth 100000 in
theorem putR_found (X : OM w B nb vk vv (keysOf kv) (valsOf kv)) (hn : kv.length ≤ 1000) (k v : Int) (hf : fits2 (k, v) = true) (i : Nat) (hi : fkI (keysOf kv) k = (i : Int)) (hil : i < kv.length) : Calls Tryz.prog 22 #[.pointer (some ⟨nb, 0, none⟩), .int .i64 k, .int .i64 v] w fun e w' => e = .returned (.tuple #[.int .i64 ((valsOf kv).getD i 0), .bool true, .int .i64 0]) ∧ OMok w B nb vk vv (keysOf kv) ((valsOf kv).set i v) w' := by
  unfold fits2 at hf
  rw [Bool.and_eq_true] at hf
  have HK : Hid (∀ W, Calls Tryz.prog 68 #[.int .i64 k] W fun e w' => e = .returned (.bool true) ∧ Q W w') := fun W => by have := fits_any k W; rw [hf.1] at this; exact this
  have HV : Hid (∀ W, Calls Tryz.prog 68 #[.int .i64 v] W fun e w' => e = .returned (.bool true) ∧ Q W w') := fun W => by have := fits_any v W; rw [hf.2] at this; exact this
  obtain ⟨A, c, A2, c2, e1, e2, R⟩ := X.rm
  have lv : (valsOf kv).length = kv.length := by unfold valsOf; rw [List.length_map]
  have HF : Hid (∀ W, Q w W → Calls Tryz.prog 75 #[.pointer (some ⟨nb, 0, none⟩), .int .i64 k] W fun e w' => e = .returned (.int .i64 (i : Int)) ∧ Q W w') := fun W hq => by rw [← hi]; exact findR_any (R.q hq) hn k
  obtain ⟨b1, o1, x, eA, -, g1, -⟩ := R.sv.i1 i hil
  have ho1 : o1 = 0 := by
    have := X.ov.2
    rw [e2, eA] at this
    rcases this with ⟨h0, -⟩ | ⟨g, cap, cur, h0, -⟩
    · cases h0
    · injection h0 with h0
      injection h0 with h0
      injection h0
  subst ho1
  subst eA
  have HKK : Hid (∀ W, Q w W → W.cell? ⟨nb, 1, none⟩ = some (.slice (some ⟨b1, 0, none⟩) kv.length c2) ∧ nb < W.heap.size ∧ W.cell? ⟨b1, i, none⟩ = some (.int .i64 x) ∧ b1 < W.heap.size ∧ W.frozen? ⟨b1, i, none⟩ = false) := fun W hq => by
    obtain ⟨b2, o2, y, e, h3, h4, h5⟩ := (R.q hq).sv.i1 i hil
    injection e with e
    injection e with e3 e4
    subst e3
    subst e4
    rw [g1] at h4
    obtain rfl := Option.some.inj h4
    refine ⟨(R.q hq).k.2.1, (R.q hq).k.2.2.1, by simpa using h5, h3, ?_⟩
    have := (X.q hq).ov
    rw [e2, lv] at this
    exact this.frozenAt i
  have HX : Hid (∀ W, Q w W → OM W B nb vk vv (keysOf kv) (valsOf kv)) := fun W hq => X.q hq
  have HEV := hide e2
  have HLV := hide lv
  have HX1 : Hid ((valsOf kv).getD i 0 = x) := by show _ = _; rw [List.getD_eq_getElem?_getD, g1]; rfl
  obtain ⟨n, en⟩ : ∃ n, n = kv.length := ⟨_, rfl⟩
  have HEN := hide en
  rw [← en] at hn hil HKK
  have d0 : decide (0 ≤ (i : Int)) = true := by simp
  have hli : (i : Int) < (n : Int) := by omega
  have HXV := hide (rfl : x = x)
  obtain ⟨vs, evs⟩ : ∃ vs, vs = valsOf kv := ⟨_, rfl⟩
  rw [← evs] at HX1
  have HEVS := hide evs
  rw [← evs]
  clear X R hf en hi e1 e2 lv g1 evs
  have tok1 : True := trivial
  go_enter Tryz.func22, Tryz.ntmps22
  go_wp2_with (first
    | (go_at_call 68; have _t := tok1; refine (HK.out _).mono ?_; rintro e w1 ⟨rfl, hq1⟩; clear tok1; have tok2 : True := trivial)
    | (go_at_call 68; have _t := tok2; refine (HV.out _).mono ?_; rintro e w2 ⟨rfl, hq2⟩; clear tok2; have hq12 := hq1.trans hq2)
    | (go_at_call 75; refine (HF.out _ hq12).mono ?_; rintro e w3 ⟨rfl, hq3⟩; have hq13 := hq12.trans hq3; obtain ⟨c1, hbl, k1, hb1, f1⟩ := HKK.out _ hq13))
  refine bodyPost_ret (results_tmp3 rfl _ _) rfl ?_
  have X3 := HX.out _ hq13
  rw [HEV.out] at X3
  have ho : (w3.setCell ⟨b1, i, none⟩ (.int .i64 v)).ownsRow B 3 1 (.slice (some ⟨b1, 0, none⟩) kv.length c2) ((valsOf kv).set i v).length (intsV ((valsOf kv).set i v)) := by
    have h := X3.ov
    rw [HLV.out] at h
    have := own_set h i (.int .i64 v)
    rw [List.length_set, HLV.out]
    have e : (intsV (valsOf kv)).set i (.int .i64 v) = intsV ((valsOf kv).set i v) := by unfold intsV; rw [List.map_set]
    rw [← e]
    exact this
  refine ⟨by rw [HX1.out]; rfl, ?_⟩
  have t : Turn (fun b => b = b1) w3 (w3.setCell ⟨b1, i, none⟩ (.int .i64 v)) := (Turn.refl (fun b => b = b1) _).set (p := ⟨b1, i, none⟩) rfl _
  have n1 := boxM_ne X3.box X3.ov
  rw [HEV.out, HEVS.out]
  refine ⟨vk, .slice (some ⟨b1, 0, none⟩) kv.length c2, ⟨(heap_setCell_other w3 ⟨b1, i, none⟩ nb (.int .i64 v) fun e => n1 (congrArg some e.symm)).trans X3.box, own_same X3.ok fun g hg => heap_setCell_other w3 ⟨b1, i, none⟩ g (.int .i64 v) fun e => X3.ap g hg (congrArg some e.symm), ho, X3.ap⟩, (Turn.of_q hq13).trans (S' := fun b => b = b1) t fun j hj e => .inr (.inr (by rw [e]; rfl)), fun b e => .inl e⟩
set_option maxHeartbeats 4000000 in
set_option maxRecDepth 100000 in
theorem putR_new (X : OM w B nb vk vv (keysOf kv) (valsOf kv)) (hB : B ≤ w.heap.size) (k v : Int) (hf : fits2 (k, v) = true) (h0 : ¬ 0 ≤ fkI (keysOf kv) k) (hl : kv.length < 64) : Calls Tryz.prog 22 #[.pointer (some ⟨nb, 0, none⟩), .int .i64 k, .int .i64 v] w fun e w' => e = .returned (.tuple #[.int .i64 0, .bool false, .int .i64 0]) ∧ OMok w B nb vk vv (keysOf kv ++ [k]) (valsOf kv ++ [v]) w' := by
  unfold fits2 at hf
  rw [Bool.and_eq_true] at hf
  have HK : Hid (∀ W, Calls Tryz.prog 68 #[.int .i64 k] W fun e w' => e = .returned (.bool true) ∧ Q W w') := fun W => by have := fits_any k W; rw [hf.1] at this; exact this
  have HV : Hid (∀ W, Calls Tryz.prog 68 #[.int .i64 v] W fun e w' => e = .returned (.bool true) ∧ Q W w') := fun W => by have := fits_any v W; rw [hf.2] at this; exact this
  obtain ⟨A, c, A2, c2, e1, e2, R⟩ := X.rm
  have HF : Hid (∀ W, Q w W → Calls Tryz.prog 75 #[.pointer (some ⟨nb, 0, none⟩), .int .i64 k] W fun e w' => e = .returned (.int .i64 (fkI (keysOf kv) k)) ∧ Q W w') := fun W hq => findR_any (R.q hq) (by omega) k
  have HX : Hid (∀ W, Q w W → OM W B nb vk vv (keysOf kv) (valsOf kv)) := fun W hq => X.q hq
  have lk : (keysOf kv).length = kv.length := by unfold keysOf; rw [List.length_map]
  have lv : (valsOf kv).length = kv.length := by unfold valsOf; rw [List.length_map]
  obtain ⟨f, ef⟩ : ∃ f, f = fkI (keysOf kv) k := ⟨_, rfl⟩
  rw [← ef] at HF h0
  obtain ⟨ks, eks⟩ : ∃ ks, ks = keysOf kv := ⟨_, rfl⟩
  obtain ⟨vs, evs⟩ : ∃ vs, vs = valsOf kv := ⟨_, rfl⟩
  rw [← eks] at HX lk
  rw [← evs] at HX lv
  rw [← eks, ← evs]
  have HAK : Hid (intsV ks ++ [.int .i64 k] = intsV (ks ++ [k])) := by show _ = _; unfold intsV; rw [List.map_append]; rfl
  have HAV : Hid (intsV vs ++ [.int .i64 v] = intsV (vs ++ [v])) := by show _ = _; unfold intsV; rw [List.map_append]; rfl
  obtain ⟨n, en⟩ : ∃ n, n = kv.length := ⟨_, rfl⟩
  rw [← en] at lk lv hl
  rw [← en] at e1 e2
  subst e1
  subst e2
  have HLK := hide lk
  have HLV := hide lv
  have d0 : decide (0 ≤ f) = false := by simp; omega
  have d1 : decide ((64 : Int) ≤ (n : Int)) = false := by simp; omega
  have hni : (n : Int) < 64 := by omega
  clear X R hf h0 ef en eks evs lk lv
  have tok1 : True := trivial
  go_enter Tryz.func22, Tryz.ntmps22
  go_wp2_with (first
    | (go_at_call 68; have _t := tok1; refine (HK.out _).mono ?_; rintro e w1 ⟨rfl, hq1⟩; clear tok1; have tok2 : True := trivial)
    | (go_at_call 68; have _t := tok2; refine (HV.out _).mono ?_; rintro e w2 ⟨rfl, hq2⟩; clear tok2; have hq12 := hq1.trans hq2)
    | (go_at_call 75; refine (HF.out _ hq12).mono ?_; rintro e w3 ⟨rfl, hq3⟩; have hq13 := hq12.trans hq3; have HX3 := hide (HX.out _ hq13); have HQ13 := hide hq13; obtain ⟨c0, c1, hbl, f0, f1⟩ := HX3.out.k; have hok := HX3.out.ok; rw [HLK.out] at hok; clear hq1 hq2 hq12 hq3; have tok3 : True := trivial)
    | (at_builtin; have _t := tok3; go_loud (refine wpList_app1b rfl El_int _ _ rfl rfl hok rfl rfl rfl ?_ ?_ ?_ ?_; (focus (simp [Value.oneCell'])); (focus omega); (focus (exact Nat.le_trans hB hq13.size)); intro v4 w4 hown4 hg4 hn4; have HG4 := hide hg4; obtain ⟨c04, c14, hbl4, f04, f14⟩ := HX3.out.kg hg4 (fun g h => .inl h); have ho5 : w4.ownsRow B 3 1 v4 (ks ++ [k]).length (intsV (ks ++ [k])) := (by rw [List.length_append, HLK.out, ← HAK.out]; exact hown4); have HX5 := hide (HX3.out.layK hg4 (fun g h => h) ho5 hn4); obtain ⟨A4, c4, e4, -⟩ := own_form hown4; subst e4; have hov := HX5.out.1.ov; rw [HLV.out] at hov; clear hown4 hg4 hn4 ho5 tok3 hok c0 c1 hbl f0 f1; have tok4 : True := trivial))
    | (at_builtin; have _t := tok4; go_loud (refine wpList_app1b rfl El_int _ _ rfl rfl hov (by simp [World.setCell]) rfl rfl ?_ ?_ ?_ ?_; (focus (simp [Value.oneCell'])); (focus omega); (focus (have h1 := HX5.out.2.1.size; have h2 := HQ13.out.size; omega)); intro v6 w6 hown6 hg6 hn6; obtain ⟨c06, c16, hbl6, f06, f16⟩ := HX5.out.1.kg hg6 (fun g h => .inr h); have ho7 : w6.ownsRow B 3 1 v6 (vs ++ [v]).length (intsV (vs ++ [v])) := (by rw [List.length_append, HLV.out, ← HAV.out]; exact hown6); have HX7 := hide (HX5.out.1.layV hg6 (fun g h => h) ho7 hn6); obtain ⟨A6, c6, e6, -⟩ := own_form hown6; subst e6; clear hown6 hg6 hn6 ho7 tok4 hov c04 c14 hbl4 f04 f14)))
  refine bodyPost_ret (results_tmp3 rfl _ _) rfl ?_
  refine ⟨rfl, ?_⟩
  exact OMok.step (.of_q HQ13.out) (fun b e => .inl e) (OMok.step HX5.out.2.1 HX5.out.2.2 ⟨_, _, HX7.out.1, HX7.out.2.1, HX7.out.2.2⟩)
end
end Go.Proofs.YtdaklffbfadghaaGreat

namespace Go.Proofs.YtdaklffbfadghaaGreat
open Go.RowKit HP
set_option linter.unusedVariables false
set_option linter.unusedSimpArgs false
theorem grown_q {w W : World} (h : Q w W) : w.grownBy W none := ⟨h.below.os, h.below.tape, h.below.output, h.size, fun k hk _ => h.below.block k hk⟩
section
variable {w W : World} {B nb : Nat} {vk vv : Value} {kv : List (Int × Int)}
set_option maxHeartbeats 4000000 in
set_option maxRecDepth 100000 in
theorem delR_none (X : OM w B nb vk vv (keysOf kv) (valsOf kv)) (hn : kv.length ≤ 1000) (k : Int) (hb : gtB kv k = false) : Calls Tryz.prog 24 #[.pointer (some ⟨nb, 0, none⟩), .int .i64 k] w fun e w' => e = .returned (.tuple #[.int .i64 0, .bool false, .int .i64 (gtE k)]) ∧ Q w w' := by
  obtain ⟨A, c, A2, c2, rfl, rfl, R⟩ := X.rm
  have HG : Hid (Calls Tryz.prog 43 #[.pointer (some ⟨nb, 0, none⟩), .int .i64 k] w fun e w' => e = .returned (.tuple #[.int .i64 0, .bool false, .int .i64 (gtE k)]) ∧ Q w w') := by
    have := getRM_any R hn k
    have e : gtV kv k = 0 := if_neg fun h => by
      unfold gtB at hb
      rw [h.1] at hb
      simp [h.2] at hb
    rw [hb, e] at this
    exact this
  obtain ⟨er, ee⟩ : ∃ er, er = gtE k := ⟨_, rfl⟩
  rw [← ee] at HG ⊢
  clear X R hb ee
  go_enter Tryz.func24, Tryz.ntmps24
  go_wp2_with fail
  refine HG.out.mono ?_
  rintro e w1 ⟨rfl, hq1⟩
  go_wp2_with fail
  refine bodyPost_ret (results_tmp3 rfl _ _) rfl ?_
  exact ⟨rfl, hq1⟩
set_option maxHeartbeats 4000000 in
set_option maxRecDepth 100000 in
theorem delR_found (X : OM w B nb vk vv (keysOf kv) (valsOf kv)) (hBB : B ≤ w.heap.size) (hn : kv.length ≤ 1000) (k : Int) (hf : fitsB k = true) (j : Nat) (hj : fkI (keysOf kv) k = (j : Int)) (hjl : j < kv.length) : Calls Tryz.prog 24 #[.pointer (some ⟨nb, 0, none⟩), .int .i64 k] w fun e w' => e = .returned (.tuple #[.int .i64 ((valsOf kv).getD j 0), .bool true, .int .i64 0]) ∧ OMok w B nb vk vv (delAt (keysOf kv) j 1) (delAt (valsOf kv) j 1) w' := by
  have X0 := X
  obtain ⟨A, c, A2, c2, rfl, rfl, R⟩ := X0.rm
  have HGT : Hid (Calls Tryz.prog 43 #[.pointer (some ⟨nb, 0, none⟩), .int .i64 k] w fun e w' => e = .returned (.tuple #[.int .i64 ((valsOf kv).getD j 0), .bool true, .int .i64 0]) ∧ Q w w') := by
    have := getRM_any R hn k
    have e1 : gtB kv k = true := by unfold gtB; rw [hf, hj]; simp
    have e2 : gtV kv k = (valsOf kv).getD j 0 := by
      unfold gtV
      rw [if_pos ⟨hf, by omega⟩, hj, Int.toNat_natCast]
    have e3 : gtE k = 0 := by unfold gtE; rw [hf]; rfl
    rw [e1, e2, e3] at this
    exact this
  have HFN : Hid (∀ W, Q w W → Calls Tryz.prog 75 #[.pointer (some ⟨nb, 0, none⟩), .int .i64 k] W fun e w' => e = .returned (.int .i64 (j : Int)) ∧ Q W w') := fun W hq => by rw [← hj]; exact findR_any (R.q hq) hn k
  have lk : (keysOf kv).length = kv.length := by unfold keysOf; rw [List.length_map]
  have lv : (valsOf kv).length = kv.length := by unfold valsOf; rw [List.length_map]
  obtain ⟨b1, o1, x1, eA, -, -, -⟩ := R.sk.i1 j hjl
  obtain ⟨b2, o2, x2, eA2, -, -, -⟩ := R.sv.i1 j hjl
  have z1 : o1 = 0 := by
    have := X.ok.2
    rw [eA] at this
    rcases this with ⟨h0, -⟩ | ⟨g, cap, cur, h0, -⟩
    · cases h0
    · injection h0 with h0
      injection h0 with h0
      injection h0
  have z2 : o2 = 0 := by
    have := X.ov.2
    rw [eA2] at this
    rcases this with ⟨h0, -⟩ | ⟨g, cap, cur, h0, -⟩
    · cases h0
    · injection h0 with h0
      injection h0 with h0
      injection h0
  subst z1
  subst z2
  subst eA
  subst eA2
  have hck := R.sk.cap
  have hcv := R.sv.cap
  obtain ⟨len, el⟩ : ∃ len, len = kv.length := ⟨_, rfl⟩
  obtain ⟨ks, eks⟩ : ∃ ks, ks = keysOf kv := ⟨_, rfl⟩
  obtain ⟨vs, evs⟩ : ∃ vs, vs = valsOf kv := ⟨_, rfl⟩
  rw [← eks, ← evs] at X
  rw [← evs] at HGT
  rw [← eks, ← evs]
  rw [← eks, ← el] at lk
  rw [← evs, ← el] at lv
  rw [← el] at X hn hjl
  rw [← el]
  obtain ⟨vx, evx⟩ : ∃ vx, vx = vs.getD j 0 := ⟨_, rfl⟩
  rw [← evx] at HGT ⊢
  have hcv : len ≤ c2 := by have := (own_form X.ov); obtain ⟨a1, a2, a3, a4, -⟩ := this; injection a3 with a5 a6 a7; omega
  have hck : len ≤ c := by have := (own_form X.ok); obtain ⟨a1, a2, a3, a4, -⟩ := this; injection a3 with a5 a6 a7; omega
  have hli : (len : Int) ≤ 1000 := by omega
  have hjlt : (j : Int) < (len : Int) := by omega
  have HX := hide X
  have HLK : Hid ((delAt ks j 1).length = len - 1) := by show (delAt ks j 1).length = len - 1; rw [delAt_len _ _ _ (by omega), lk]
  have HLV : Hid ((delAt vs j 1).length = len - 1) := by show (delAt vs j 1).length = len - 1; rw [delAt_len _ _ _ (by omega), lv]
  have hlenK : (intsV ks).length = len := by unfold intsV; rw [List.length_map, lk]
  have hlenV : (intsV vs).length = len := by unfold intsV; rw [List.length_map, lv]
  have HLV0 := hide lv
  have HLK0 := hide lk
  clear R X X0 hf hj el eks evs evx lk lv
  go_enter Tryz.func24, Tryz.ntmps24
  go_wp2_with (first
    | (go_at_call 43; refine HGT.out.mono ?_; rintro e w1 ⟨rfl, hq1⟩)
    | (go_at_call 75; refine (HFN.out _ hq1).mono ?_; rintro e w2 ⟨rfl, hq2⟩; have HQ2 := hide (hq1.trans hq2); clear hq1 hq2))
  have X2 := HX.out.q HQ2.out
  have HX2 := hide X2
  have ok2 := X2.ok
  have ov2 := X2.ov
  rw [HLK0.out] at ok2
  have HKKK : Hid (∀ W, Q w2 W → W.cell? ⟨nb, 0, none⟩ = some (.slice (some ⟨b1, 0, none⟩) len c) ∧ W.frozen? ⟨nb, 0, none⟩ = false ∧ nb < W.heap.size) := fun W hq => ⟨(X2.q hq).k.1, (X2.q hq).k.2.2.2.1, (X2.q hq).k.2.2.1⟩
  clear X2
  have HRDK : Hid (∀ W, Q w2 W → Rd W W.heap.size (some ⟨b1, 0, none⟩) ((intsV ks).take j)) := fun W hq => (own_rd (own_q ok2 hq)).take j
  have HRD2K : Hid (∀ W, Q w2 W → Rd W W.heap.size (some (if c = j + 1 then ⟨b1, 0, none⟩ else ⟨b1, j + 1, none⟩)) ((intsV ks).drop (j + 1))) := fun W hq => by
    split
    · have h0 : (intsV ks).drop (j + 1) = [] := List.eq_nil_of_length_eq_zero (by rw [List.length_drop, hlenK]; omega)
      rw [h0]
      exact Rd.nil _ _ _
    · have := (own_rd (own_q ok2 hq)).dropAt (j + 1)
      simpa using this
  have HEK : Hid ((intsV ks).take j ++ (intsV ks).drop (j + 1) = intsV (delAt ks j 1)) := by
    unfold intsV delAt
    rw [List.map_append, List.map_take, List.map_drop]
    exact rfl
  have HT1K : Hid (((intsV ks).take j).length = j * 1) := by show ((intsV ks).take j).length = j * 1; rw [List.length_take]; omega
  have HT2K : Hid (((intsV ks).drop (j + 1)).length = (len - (j + 1)) * 1) := by show ((intsV ks).drop (j + 1)).length = _; rw [List.length_drop]; omega
  have HC1K : Hid (∀ u ∈ (intsV ks).take j, u.oneCell' = true) := fun u hu => intsV_cell ks u (List.mem_of_mem_take hu)
  have HC2K : Hid (∀ u ∈ (intsV ks).drop (j + 1), u.oneCell' = true) := fun u hu => intsV_cell ks u (List.mem_of_mem_drop hu)
  clear ok2 ov2
  refine Ri.called_last 16 [0, 17, 18] (Ri.phi [Ri.isV (.pointer (some ⟨nb, 0, none⟩)), isLit w2.heap.size, Ri.isV (.pointer (some ⟨nb, 0, none⟩)), Ri.isV (.pointer (some ⟨nb, 0, none⟩)), Ri.isV (.pointer (some ⟨nb, 0, none⟩)), Ri.isV (.slice (some ⟨b1, 0, none⟩) len c), Ri.isV (.int .i64 (j : Int)), Ri.isV (.slice (some ⟨b1, 0, none⟩) j c), isOwnI w2.heap.size j ((intsV ks).take j), Ri.isV (.pointer (some ⟨nb, 0, none⟩)), Ri.isV (.pointer (some ⟨nb, 0, none⟩)), Ri.isV (.pointer (some ⟨nb, 0, none⟩)), Ri.isV (.slice (some ⟨b1, 0, none⟩) len c), Ri.isV (.int .i64 (j : Int)), Ri.isV (.int .i64 ((j : Int) + 1)), Ri.isV (.slice (some (if c = j + 1 then ⟨b1, 0, none⟩ else ⟨b1, j + 1, none⟩)) (len - (j + 1)) (c - (j + 1))), fun _ _ => True, Ri.isV (.pointer (some ⟨nb, 0, none⟩)), Ri.isV (.pointer (some ⟨nb, 0, none⟩))]) (fun v W => W.ownsRow w2.heap.size 3 1 v (len - 1) (intsV (delAt ks j 1)) ∧ Q w2 W) (by kernel_rfl) (by kernel_rfl) rfl (by kernel_rfl) rfl (by decide) (by kernel_rfl) (Ri.phi_mono ?_) ?_ ?_ ?_
  · exact ⟨Ri.mono_isV _, mono_lit _, Ri.mono_isV _, Ri.mono_isV _, Ri.mono_isV _, Ri.mono_isV _, Ri.mono_isV _, Ri.mono_isV _, mono_ownI _ _ _, Ri.mono_isV _, Ri.mono_isV _, Ri.mono_isV _, Ri.mono_isV _, Ri.mono_isV _, Ri.mono_isV _, Ri.mono_isV _, fun _ _ _ h _ => h, Ri.mono_isV _, Ri.mono_isV _, trivial⟩
  · intro i v w1 w2 hk hv
    match i, hk, hv with
    | 0, _, hv => exact hv
    | 1, hk, _ => exact absurd hk (by decide)
    | 2, hk, _ => exact absurd hk (by decide)
    | 3, hk, _ => exact absurd hk (by decide)
    | 4, hk, _ => exact absurd hk (by decide)
    | 5, hk, _ => exact absurd hk (by decide)
    | 6, hk, _ => exact absurd hk (by decide)
    | 7, hk, _ => exact absurd hk (by decide)
    | 8, hk, _ => exact absurd hk (by decide)
    | 9, hk, _ => exact absurd hk (by decide)
    | 10, hk, _ => exact absurd hk (by decide)
    | 11, hk, _ => exact absurd hk (by decide)
    | 12, hk, _ => exact absurd hk (by decide)
    | 13, hk, _ => exact absurd hk (by decide)
    | 14, hk, _ => exact absurd hk (by decide)
    | 15, hk, _ => exact absurd hk (by decide)
    | 16, hk, _ => exact absurd hk (by decide)
    | 17, _, hv => exact hv
    | 18, _, hv => exact hv
    | i + 19, hk, _ => exact absurd hk (by unfold Ri.kindOf; rw [if_neg (by omega), if_neg (by first | (simp; done) | (simp; omega))]; decide)
  · refine Ri.All.cons ?_ (Ri.All.cons ?_ (Ri.All.cons ?_ (Ri.All.cons ?_ (Ri.All.cons ?_ (Ri.All.cons ?_ (Ri.All.cons ?_ (Ri.All.cons ?_ (Ri.All.cons ?_ (Ri.All.cons ?_ (Ri.All.cons ?_ (Ri.All.cons ?_ (Ri.All.cons ?_ (Ri.All.cons ?_ (Ri.All.cons ?_ (Ri.All.cons ?_ (Ri.All.cons ?_ (Ri.All.cons ?_ (Ri.All.cons ?_ (Ri.All.nil)))))))))))))))))))
    · refine Ri.StepK.p (by decide) ⟨rfl, fun f W hf A hA hB => ?_⟩
      have e1 := (hB 0 (by kernel_rfl)).trans (show _ = .pointer (some ⟨nb, 0, none⟩) by simp [Act.eval])
      exact Ri.wp_pure _ (Ri.run_mv rfl e1) rfl
    · refine Ri.StepK.g (by decide) ⟨rfl, fun f W hq hf A hA hB hO => ?_⟩
      exact Ri.wp_lit0 El_int rfl ⟨_, rfl, own_lit0 W _ _ _ _ rfl ((Q.refl w2).drew.trans hq).size⟩
    · refine Ri.StepK.g (by decide) ⟨rfl, fun f W hq hf A hA hB hO => ?_⟩
      have e1 := (hB 0 (by kernel_rfl)).trans (show _ = .pointer (some ⟨nb, 0, none⟩) by simp [Act.eval])
      exact Ri.wp_value _ (Ri.run_mv rfl e1) rfl
    · refine Ri.StepK.g (by decide) ⟨rfl, fun f W hq hf A hA hB hO => ?_⟩
      have e1 := (hA 24 2 (by kernel_rfl) (by simp)).trans (show f 2 = _ from hf 2 (by kernel_rfl))
      exact Ri.wp_value _ (Ri.run_nil rfl e1) rfl
    · refine Ri.StepK.g (by decide) ⟨rfl, fun f W hq hf A hA hB hO => ?_⟩
      have e1 := (hA 25 3 (by kernel_rfl) (by simp)).trans (show f 3 = _ from hf 3 (by kernel_rfl))
      exact Ri.wp_value _ (Ri.run_fld (f := _) rfl e1 Tryz.underlying49 rfl (sz := 0) (by kernel_rfl)) rfl
    · refine Ri.StepK.g (by decide) ⟨rfl, fun f W hq hf A hA hB hO => ?_⟩
      have e1 := (hA 26 4 (by kernel_rfl) (by simp)).trans (show f 4 = _ from hf 4 (by kernel_rfl))
      exact Ri.wp_value _ (Ri.run_ld1 rfl e1 Tryz.underlying45 rfl ((HKKK.out _ ((Q.refl w2).drew.trans hq)).1)) rfl
    · refine Ri.StepK.g (by decide) ⟨rfl, fun f W hq hf A hA hB hO => ?_⟩
      have e1 := (hB 10 (by kernel_rfl)).trans (show _ = .int .i64 (j : Int) by simp [Act.eval])
      exact Ri.wp_value _ (Ri.run_mv rfl e1) rfl
    · refine Ri.StepK.g (by decide) ⟨rfl, fun f W hq hf A hA hB hO => ?_⟩
      have e1 := (hA 27 5 (by kernel_rfl) (by simp)).trans (show f 5 = _ from hf 5 (by kernel_rfl))
      have e2 := (hA 28 6 (by kernel_rfl) (by simp)).trans (show f 6 = _ from hf 6 (by kernel_rfl))
      exact Ri.wp_value _ (Ri.run_cut rfl e1 e2 Tryz.underlying45 (sz := 1) (by kernel_rfl) (by omega)) rfl
    · refine Ri.StepK.g (by decide) ⟨rfl, fun f W hq hf A hA hB hO => ?_⟩
      obtain ⟨b0, hb, hw⟩ : isLit w2.heap.size (f 1) W := hf 1 (by kernel_rfl)
      have e1 := (hA 23 1 (by kernel_rfl) (by simp)).trans hb
      have e2 := (hA 29 7 (by kernel_rfl) (by simp)).trans (show f 7 = _ from hf 7 (by kernel_rfl))
      refine Ri.wp_append El_int _ _ rfl e1 e2 hw (fun h => by cases h) HT1K.out (HRDK.out _ ((Q.refl w2).drew.trans hq)) HC1K.out (by omega) ((Q.refl w2).drew.trans hq).size (fun v w3 h => h)
    · refine Ri.StepK.g (by decide) ⟨rfl, fun f W hq hf A hA hB hO => ?_⟩
      have e1 := (hB 0 (by kernel_rfl)).trans (show _ = .pointer (some ⟨nb, 0, none⟩) by simp [Act.eval])
      exact Ri.wp_value _ (Ri.run_mv rfl e1) rfl
    · refine Ri.StepK.g (by decide) ⟨rfl, fun f W hq hf A hA hB hO => ?_⟩
      have e1 := (hA 31 9 (by kernel_rfl) (by simp)).trans (show f 9 = _ from hf 9 (by kernel_rfl))
      exact Ri.wp_value _ (Ri.run_nil rfl e1) rfl
    · refine Ri.StepK.g (by decide) ⟨rfl, fun f W hq hf A hA hB hO => ?_⟩
      have e1 := (hA 32 10 (by kernel_rfl) (by simp)).trans (show f 10 = _ from hf 10 (by kernel_rfl))
      exact Ri.wp_value _ (Ri.run_fld (f := _) rfl e1 Tryz.underlying49 rfl (sz := 0) (by kernel_rfl)) rfl
    · refine Ri.StepK.g (by decide) ⟨rfl, fun f W hq hf A hA hB hO => ?_⟩
      have e1 := (hA 33 11 (by kernel_rfl) (by simp)).trans (show f 11 = _ from hf 11 (by kernel_rfl))
      exact Ri.wp_value _ (Ri.run_ld1 rfl e1 Tryz.underlying45 rfl ((HKKK.out _ ((Q.refl w2).drew.trans hq)).1)) rfl
    · refine Ri.StepK.g (by decide) ⟨rfl, fun f W hq hf A hA hB hO => ?_⟩
      have e1 := (hB 10 (by kernel_rfl)).trans (show _ = .int .i64 (j : Int) by simp [Act.eval])
      exact Ri.wp_value _ (Ri.run_mv rfl e1) rfl
    · refine Ri.StepK.g (by decide) ⟨rfl, fun f W hq hf A hA hB hO => ?_⟩
      have e1 := (hA 35 13 (by kernel_rfl) (by simp)).trans (show f 13 = _ from hf 13 (by kernel_rfl))
      have e2 : A.eval (.const (.int .i64 1)) = .int .i64 1 := rfl
      exact Ri.wp_value _ (run_addI rfl e1 e2 Tryz.underlying3 (by omega) (by omega)) rfl
    · refine Ri.StepK.g (by decide) ⟨rfl, fun f W hq hf A hA hB hO => ?_⟩
      have e1 := (hA 34 12 (by kernel_rfl) (by simp)).trans (show f 12 = _ from hf 12 (by kernel_rfl))
      have e2 := (hA 36 14 (by kernel_rfl) (by simp)).trans (show f 14 = _ from hf 14 (by kernel_rfl))
      exact Ri.wp_value _ (run_cutlo rfl e1 (e2.trans (by push_cast; rfl)) Tryz.underlying45 (by kernel_rfl) (by omega)) rfl
    · refine Ri.StepK.w (by decide) ⟨rfl, fun f W hq hf A hA hB => ?_⟩
      have ho8 : W.ownsRow w2.heap.size 3 1 (f 8) j ((intsV ks).take j) := hf 8 (by kernel_rfl)
      have e1 := hA 30 8 (by kernel_rfl) (by simp)
      have e2 := (hA 37 15 (by kernel_rfl) (by simp)).trans (show f 15 = _ from hf 15 (by kernel_rfl))
      have hqW : Q w2 W := ((Q.refl w2).drew.trans hq)
      refine Ri.wp_appW El_int _ _ rfl e1 ho8 e2 HT2K.out (HRD2K.out _ hqW) HC2K.out (by omega) hqW.size (fun v2 w3 h1 h2 => ?_)
      rw [HEK.out, show j + (len - (j + 1)) = len - 1 by omega] at h1
      exact ⟨h1, q_below hqW (below_own ho8 h2 hqW.size) (Nat.le_refl _)⟩
    · refine Ri.StepK.p (by decide) ⟨rfl, fun f W hf A hA hB => ?_⟩
      have e1 := (hA 22 0 (by kernel_rfl) (by simp)).trans (show f 0 = _ from hf 0 (by kernel_rfl) (by decide))
      exact Ri.wp_pure _ (Ri.run_nil rfl e1) rfl
    · refine Ri.StepK.p (by decide) ⟨rfl, fun f W hf A hA hB => ?_⟩
      have e1 := (hA 39 17 (by kernel_rfl) (by simp)).trans (show f 17 = _ from hf 17 (by kernel_rfl) (by decide))
      exact Ri.wp_pure _ (Ri.run_fld (f := _) rfl e1 Tryz.underlying49 rfl (sz := 0) (by kernel_rfl)) rfl
  · intro f W hP hpu A hAe hA hB
    have e1 := (hA 40 18 (by kernel_rfl) (by simp)).trans (show f 18 = _ from hpu 18 (by simp) (by decide))
    have e2 := hA 38 16 (by kernel_rfl) (by simp)
    obtain ⟨u, hu⟩ : ∃ u, u = f 16 := ⟨_, rfl⟩
    rw [← hu] at hP e2
    obtain ⟨ho, hq2⟩ := hP
    obtain ⟨k0, f0, hl⟩ := HKKK.out _ hq2
    obtain ⟨A9, c9, eu, -⟩ := own_form ho
    subst eu
    rw [← HLK.out] at ho
    have hF := HX2.out.layK (grown_q hq2) (fun g h => by cases h) (own_low ho (Nat.le_trans hBB HQ2.out.size)) (fun b e => .inr (ho.lt b e).1)
    rw [HLK.out] at hF
    have HFK := hide hF
    refine Ri.wp_store rfl e1 e2 rfl (by kernel_rfl) rfl rfl k0 f0 ?_
    rw [hAe]
    simp only [Ri.acts, Act.put, List.setIfInBounds_toArray, List.set_cons_zero, List.set_cons_succ]
    clear hpu hA hB hAe e1 e2 ho hF k0 f0 hl hu
    obtain ⟨w6, ew6⟩ : ∃ w6, w6 = W.setCell ⟨nb, 0, none⟩ (.slice A9 (len - 1) c9) := ⟨_, rfl⟩
    have hF := HFK.out
    rw [← ew6] at hF
    rw [← ew6]
    have HS6 : Hid (w.heap.size ≤ w6.heap.size) := hide (by rw [ew6]; simp [World.setCell]; exact Nat.le_trans HQ2.out.size hq2.size)
    clear HFK ew6 hq2
    have HF6 := hide hF
    have ov6 := hF.1.ov
    have X6 := hF.1
    rw [HLV0.out] at ov6
    have HKKV : Hid (∀ W, Q w6 W → W.cell? ⟨nb, 1, none⟩ = some (.slice (some ⟨b2, 0, none⟩) len c2) ∧ W.frozen? ⟨nb, 1, none⟩ = false ∧ nb < W.heap.size) := fun W hq => ⟨(X6.q hq).k.2.1, (X6.q hq).k.2.2.2.2, (X6.q hq).k.2.2.1⟩
    have HX6 := hide X6
    clear hF X6 HRDK HRD2K HEK HT1K HT2K HC1K HC2K HKKK hlenK
    have HRDV : Hid (∀ W, Q w6 W → Rd W W.heap.size (some ⟨b2, 0, none⟩) ((intsV vs).take j)) := fun W hq => (own_rd (own_q ov6 hq)).take j
    have HRD2V : Hid (∀ W, Q w6 W → Rd W W.heap.size (some (if c2 = j + 1 then ⟨b2, 0, none⟩ else ⟨b2, j + 1, none⟩)) ((intsV vs).drop (j + 1))) := fun W hq => by
      split
      · have h0 : (intsV vs).drop (j + 1) = [] := List.eq_nil_of_length_eq_zero (by rw [List.length_drop, hlenV]; omega)
        rw [h0]
        exact Rd.nil _ _ _
      · have := (own_rd (own_q ov6 hq)).dropAt (j + 1)
        simpa using this
    have HEV : Hid ((intsV vs).take j ++ (intsV vs).drop (j + 1) = intsV (delAt vs j 1)) := by
      unfold intsV delAt
      rw [List.map_append, List.map_take, List.map_drop]
      exact rfl
    have HT1V : Hid (((intsV vs).take j).length = j * 1) := by show ((intsV vs).take j).length = j * 1; rw [List.length_take]; omega
    have HT2V : Hid (((intsV vs).drop (j + 1)).length = (len - (j + 1)) * 1) := by show ((intsV vs).drop (j + 1)).length = _; rw [List.length_drop]; omega
    have HC1V : Hid (∀ u ∈ (intsV vs).take j, u.oneCell' = true) := fun u hu => intsV_cell vs u (List.mem_of_mem_take hu)
    have HC2V : Hid (∀ u ∈ (intsV vs).drop (j + 1), u.oneCell' = true) := fun u hu => intsV_cell vs u (List.mem_of_mem_drop hu)
    clear ov6
    go_upto_region 5 with fail
    refine Ri.called_last 16 [0, 17, 18] (Ri.phi [Ri.isV (.pointer (some ⟨nb, 0, none⟩)), isLit w6.heap.size, Ri.isV (.pointer (some ⟨nb, 0, none⟩)), Ri.isV (.pointer (some ⟨nb, 0, none⟩)), Ri.isV (.pointer (some ⟨nb, 1, none⟩)), Ri.isV (.slice (some ⟨b2, 0, none⟩) len c2), Ri.isV (.int .i64 (j : Int)), Ri.isV (.slice (some ⟨b2, 0, none⟩) j c2), isOwnI w6.heap.size j ((intsV vs).take j), Ri.isV (.pointer (some ⟨nb, 0, none⟩)), Ri.isV (.pointer (some ⟨nb, 0, none⟩)), Ri.isV (.pointer (some ⟨nb, 1, none⟩)), Ri.isV (.slice (some ⟨b2, 0, none⟩) len c2), Ri.isV (.int .i64 (j : Int)), Ri.isV (.int .i64 ((j : Int) + 1)), Ri.isV (.slice (some (if c2 = j + 1 then ⟨b2, 0, none⟩ else ⟨b2, j + 1, none⟩)) (len - (j + 1)) (c2 - (j + 1))), fun _ _ => True, Ri.isV (.pointer (some ⟨nb, 0, none⟩)), Ri.isV (.pointer (some ⟨nb, 1, none⟩))]) (fun v W => W.ownsRow w6.heap.size 3 1 v (len - 1) (intsV (delAt vs j 1)) ∧ Q w6 W) (by kernel_rfl) (by kernel_rfl) rfl (by kernel_rfl) rfl (by decide) (by kernel_rfl) (Ri.phi_mono ?_) ?_ ?_ ?_
    · exact ⟨Ri.mono_isV _, mono_lit _, Ri.mono_isV _, Ri.mono_isV _, Ri.mono_isV _, Ri.mono_isV _, Ri.mono_isV _, Ri.mono_isV _, mono_ownI _ _ _, Ri.mono_isV _, Ri.mono_isV _, Ri.mono_isV _, Ri.mono_isV _, Ri.mono_isV _, Ri.mono_isV _, Ri.mono_isV _, fun _ _ _ h _ => h, Ri.mono_isV _, Ri.mono_isV _, trivial⟩
    · intro i v w1 w2 hk hv
      match i, hk, hv with
      | 0, _, hv => exact hv
      | 1, hk, _ => exact absurd hk (by decide)
      | 2, hk, _ => exact absurd hk (by decide)
      | 3, hk, _ => exact absurd hk (by decide)
      | 4, hk, _ => exact absurd hk (by decide)
      | 5, hk, _ => exact absurd hk (by decide)
      | 6, hk, _ => exact absurd hk (by decide)
      | 7, hk, _ => exact absurd hk (by decide)
      | 8, hk, _ => exact absurd hk (by decide)
      | 9, hk, _ => exact absurd hk (by decide)
      | 10, hk, _ => exact absurd hk (by decide)
      | 11, hk, _ => exact absurd hk (by decide)
      | 12, hk, _ => exact absurd hk (by decide)
      | 13, hk, _ => exact absurd hk (by decide)
      | 14, hk, _ => exact absurd hk (by decide)
      | 15, hk, _ => exact absurd hk (by decide)
      | 16, hk, _ => exact absurd hk (by decide)
      | 17, _, hv => exact hv
      | 18, _, hv => exact hv
      | i + 19, hk, _ => exact absurd hk (by unfold Ri.kindOf; rw [if_neg (by omega), if_neg (by first | (simp; done) | (simp; omega))]; decide)
    · refine Ri.All.cons ?_ (Ri.All.cons ?_ (Ri.All.cons ?_ (Ri.All.cons ?_ (Ri.All.cons ?_ (Ri.All.cons ?_ (Ri.All.cons ?_ (Ri.All.cons ?_ (Ri.All.cons ?_ (Ri.All.cons ?_ (Ri.All.cons ?_ (Ri.All.cons ?_ (Ri.All.cons ?_ (Ri.All.cons ?_ (Ri.All.cons ?_ (Ri.All.cons ?_ (Ri.All.cons ?_ (Ri.All.cons ?_ (Ri.All.cons ?_ (Ri.All.nil)))))))))))))))))))
      · refine Ri.StepK.p (by decide) ⟨rfl, fun f W hf A hA hB => ?_⟩
        have e1 := (hB 0 (by kernel_rfl)).trans (show _ = .pointer (some ⟨nb, 0, none⟩) by simp [Act.eval])
        exact Ri.wp_pure _ (Ri.run_mv rfl e1) rfl
      · refine Ri.StepK.g (by decide) ⟨rfl, fun f W hq hf A hA hB hO => ?_⟩
        exact Ri.wp_lit0 El_int rfl ⟨_, rfl, own_lit0 W _ _ _ _ rfl ((Q.refl w6).drew.trans hq).size⟩
      · refine Ri.StepK.g (by decide) ⟨rfl, fun f W hq hf A hA hB hO => ?_⟩
        have e1 := (hB 0 (by kernel_rfl)).trans (show _ = .pointer (some ⟨nb, 0, none⟩) by simp [Act.eval])
        exact Ri.wp_value _ (Ri.run_mv rfl e1) rfl
      · refine Ri.StepK.g (by decide) ⟨rfl, fun f W hq hf A hA hB hO => ?_⟩
        have e1 := (hA 43 2 (by kernel_rfl) (by simp)).trans (show f 2 = _ from hf 2 (by kernel_rfl))
        exact Ri.wp_value _ (Ri.run_nil rfl e1) rfl
      · refine Ri.StepK.g (by decide) ⟨rfl, fun f W hq hf A hA hB hO => ?_⟩
        have e1 := (hA 44 3 (by kernel_rfl) (by simp)).trans (show f 3 = _ from hf 3 (by kernel_rfl))
        exact Ri.wp_value _ (Ri.run_fld (f := _) rfl e1 Tryz.underlying49 rfl (sz := 0) (by kernel_rfl)) rfl
      · refine Ri.StepK.g (by decide) ⟨rfl, fun f W hq hf A hA hB hO => ?_⟩
        have e1 := (hA 45 4 (by kernel_rfl) (by simp)).trans (show f 4 = _ from hf 4 (by kernel_rfl))
        exact Ri.wp_value _ (Ri.run_ld1 rfl e1 Tryz.underlying45 rfl ((HKKV.out _ ((Q.refl w6).drew.trans hq)).1)) rfl
      · refine Ri.StepK.g (by decide) ⟨rfl, fun f W hq hf A hA hB hO => ?_⟩
        have e1 := (hB 10 (by kernel_rfl)).trans (show _ = .int .i64 (j : Int) by simp [Act.eval])
        exact Ri.wp_value _ (Ri.run_mv rfl e1) rfl
      · refine Ri.StepK.g (by decide) ⟨rfl, fun f W hq hf A hA hB hO => ?_⟩
        have e1 := (hA 46 5 (by kernel_rfl) (by simp)).trans (show f 5 = _ from hf 5 (by kernel_rfl))
        have e2 := (hA 47 6 (by kernel_rfl) (by simp)).trans (show f 6 = _ from hf 6 (by kernel_rfl))
        exact Ri.wp_value _ (Ri.run_cut rfl e1 e2 Tryz.underlying45 (sz := 1) (by kernel_rfl) (by omega)) rfl
      · refine Ri.StepK.g (by decide) ⟨rfl, fun f W hq hf A hA hB hO => ?_⟩
        obtain ⟨b0, hb, hw⟩ : isLit w6.heap.size (f 1) W := hf 1 (by kernel_rfl)
        have e1 := (hA 42 1 (by kernel_rfl) (by simp)).trans hb
        have e2 := (hA 48 7 (by kernel_rfl) (by simp)).trans (show f 7 = _ from hf 7 (by kernel_rfl))
        refine Ri.wp_append El_int _ _ rfl e1 e2 hw (fun h => by cases h) HT1V.out (HRDV.out _ ((Q.refl w6).drew.trans hq)) HC1V.out (by omega) ((Q.refl w6).drew.trans hq).size (fun v w3 h => h)
      · refine Ri.StepK.g (by decide) ⟨rfl, fun f W hq hf A hA hB hO => ?_⟩
        have e1 := (hB 0 (by kernel_rfl)).trans (show _ = .pointer (some ⟨nb, 0, none⟩) by simp [Act.eval])
        exact Ri.wp_value _ (Ri.run_mv rfl e1) rfl
      · refine Ri.StepK.g (by decide) ⟨rfl, fun f W hq hf A hA hB hO => ?_⟩
        have e1 := (hA 50 9 (by kernel_rfl) (by simp)).trans (show f 9 = _ from hf 9 (by kernel_rfl))
        exact Ri.wp_value _ (Ri.run_nil rfl e1) rfl
      · refine Ri.StepK.g (by decide) ⟨rfl, fun f W hq hf A hA hB hO => ?_⟩
        have e1 := (hA 51 10 (by kernel_rfl) (by simp)).trans (show f 10 = _ from hf 10 (by kernel_rfl))
        exact Ri.wp_value _ (Ri.run_fld (f := _) rfl e1 Tryz.underlying49 rfl (sz := 0) (by kernel_rfl)) rfl
      · refine Ri.StepK.g (by decide) ⟨rfl, fun f W hq hf A hA hB hO => ?_⟩
        have e1 := (hA 52 11 (by kernel_rfl) (by simp)).trans (show f 11 = _ from hf 11 (by kernel_rfl))
        exact Ri.wp_value _ (Ri.run_ld1 rfl e1 Tryz.underlying45 rfl ((HKKV.out _ ((Q.refl w6).drew.trans hq)).1)) rfl
      · refine Ri.StepK.g (by decide) ⟨rfl, fun f W hq hf A hA hB hO => ?_⟩
        have e1 := (hB 10 (by kernel_rfl)).trans (show _ = .int .i64 (j : Int) by simp [Act.eval])
        exact Ri.wp_value _ (Ri.run_mv rfl e1) rfl
      · refine Ri.StepK.g (by decide) ⟨rfl, fun f W hq hf A hA hB hO => ?_⟩
        have e1 := (hA 54 13 (by kernel_rfl) (by simp)).trans (show f 13 = _ from hf 13 (by kernel_rfl))
        have e2 : A.eval (.const (.int .i64 1)) = .int .i64 1 := rfl
        exact Ri.wp_value _ (run_addI rfl e1 e2 Tryz.underlying3 (by omega) (by omega)) rfl
      · refine Ri.StepK.g (by decide) ⟨rfl, fun f W hq hf A hA hB hO => ?_⟩
        have e1 := (hA 53 12 (by kernel_rfl) (by simp)).trans (show f 12 = _ from hf 12 (by kernel_rfl))
        have e2 := (hA 55 14 (by kernel_rfl) (by simp)).trans (show f 14 = _ from hf 14 (by kernel_rfl))
        exact Ri.wp_value _ (run_cutlo rfl e1 (e2.trans (by push_cast; rfl)) Tryz.underlying45 (by kernel_rfl) (by omega)) rfl
      · refine Ri.StepK.w (by decide) ⟨rfl, fun f W hq hf A hA hB => ?_⟩
        have ho8 : W.ownsRow w6.heap.size 3 1 (f 8) j ((intsV vs).take j) := hf 8 (by kernel_rfl)
        have e1 := hA 49 8 (by kernel_rfl) (by simp)
        have e2 := (hA 56 15 (by kernel_rfl) (by simp)).trans (show f 15 = _ from hf 15 (by kernel_rfl))
        have hqW : Q w6 W := ((Q.refl w6).drew.trans hq)
        refine Ri.wp_appW El_int _ _ rfl e1 ho8 e2 HT2V.out (HRD2V.out _ hqW) HC2V.out (by omega) hqW.size (fun v2 w3 h1 h2 => ?_)
        rw [HEV.out, show j + (len - (j + 1)) = len - 1 by omega] at h1
        exact ⟨h1, q_below hqW (below_own ho8 h2 hqW.size) (Nat.le_refl _)⟩
      · refine Ri.StepK.p (by decide) ⟨rfl, fun f W hf A hA hB => ?_⟩
        have e1 := (hA 41 0 (by kernel_rfl) (by simp)).trans (show f 0 = _ from hf 0 (by kernel_rfl) (by decide))
        exact Ri.wp_pure _ (Ri.run_nil rfl e1) rfl
      · refine Ri.StepK.p (by decide) ⟨rfl, fun f W hf A hA hB => ?_⟩
        have e1 := (hA 58 17 (by kernel_rfl) (by simp)).trans (show f 17 = _ from hf 17 (by kernel_rfl) (by decide))
        exact Ri.wp_pure _ (Ri.run_fld (f := _) rfl e1 Tryz.underlying49 rfl (sz := 0) (by kernel_rfl)) rfl
    · intro f W hP hpu A hAe hA hB
      have e1 := (hA 59 18 (by kernel_rfl) (by simp)).trans (show f 18 = _ from hpu 18 (by simp) (by decide))
      have e2 := hA 57 16 (by kernel_rfl) (by simp)
      obtain ⟨u, hu⟩ : ∃ u, u = f 16 := ⟨_, rfl⟩
      rw [← hu] at hP e2
      obtain ⟨ho, hq2⟩ := hP
      obtain ⟨k0, f0, hl⟩ := HKKV.out _ hq2
      obtain ⟨A9, c9, eu, -⟩ := own_form ho
      subst eu
      rw [← HLV.out] at ho
      have hF := HX6.out.layV (grown_q hq2) (fun g h => by cases h) (own_low ho (Nat.le_trans hBB HS6.out)) (fun b e => .inr (ho.lt b e).1)
      rw [HLV.out] at hF
      have HFV := hide hF
      refine Ri.wp_store rfl e1 e2 rfl (by kernel_rfl) rfl rfl k0 f0 ?_
      rw [hAe]
      simp only [Ri.acts, Act.put, List.setIfInBounds_toArray, List.set_cons_zero, List.set_cons_succ]
      clear hpu hA hB hAe e1 e2 ho hF k0 f0 hl hu
      go_wp2_with fail
      refine bodyPost_ret (results_tmp3 rfl _ _) rfl ?_
      refine ⟨rfl, ?_⟩
      exact OMok.step (.of_q HQ2.out) (fun b e => .inl e) (OMok.step HF6.out.2.1 HF6.out.2.2 ⟨_, _, HFV.out.1, HFV.out.2.1, HFV.out.2.2⟩)
end
end Go.Proofs.YtdaklffbfadghaaGreat

namespace Go.Proofs.YtdaklffbfadghaaGreat
open Go.RowKit HP
set_option linter.unusedVariables false
set_option linter.unusedSimpArgs false
theorem keeps_same {W W' : World} {kb n : Nat} {D : DM} (o : World.keeps W kb n D) (h : W'.heap[kb]? = W.heap[kb]?) : World.keeps W' kb n D := by
  obtain ⟨es, clock, hb, hr⟩ := o
  exact ⟨es, clock, h.trans hb, hr⟩
/-- a map of the program beside a ground and the blocks of S: rows, and the map kb of the keys' places -/
structure LMk (w W : World) (hb : Nat) (m : HM) (r : Rw) (G : Gd) (S : Nat → Prop) (kb nn : Nat) (kv : List (Int × Int)) : Prop where
  lg : LG w W hb m r G (fun b => S b ∨ b = kb)
  own : ∃ n D, World.keeps W kb n D ∧ n ≤ nn ∧ Wh D (keysOf kv)
  nk : ¬ S kb
  more : r.more = [.map (some kb)]
  mp : MapR m r kv
section
variable {w W W' : World} {hb kb nn : Nat} {m m2 : HM} {r r2 : Rw} {G G2 : Gd} {S S' T : Nat → Prop} {kv zs : List (Int × Int)} {f : FuncId} {args : Array Value}
theorem mc_core {h h2 : Hp} (L : LR W h r) (R : GR W h G) (e2 : h.blk = hb) (e3 : ∀ b, h.fp b → w.heap.size ≤ b) (e4 : ∀ b, S b ∨ b = kb → ¬ h.fp b) (h1 : Q w W) (h2' : ¬ r.fp G.blk) (h3 : ∀ b o, G.A = some ⟨b, o, none⟩ → ¬ r.fp b ∧ ¬ (S b ∨ b = kb)) (h4 : ∀ b, r.fp b → w.heap.size ≤ b) (h5 : w.heap.size ≤ G.blk) (h6 : ∀ b, S b ∨ b = kb → b < W.heap.size ∧ w.heap.size ≤ b ∧ ¬ r.fp b ∧ b ≠ G.blk)
    (C : MC W h r kb W' m2 r2 h2) (hT : ∀ b, T b → (S b ∧ b ≠ kb) ∨ (b = kb ∧ ¬ h2.fp kb ∧ ¬ r2.fp kb)) : LG w W' hb m2 r2 G T ∧ r2.blk = r.blk ∧ ∀ b, S b → b ≠ kb → W'.heap[b]? = W.heap[b]? := by
  have hsz := h1.size
  have ap : ∀ b, b < W.heap.size → ¬ h.fp b → ¬ r.fp b → b ≠ kb → W'.heap[b]? = W.heap[b]? ∧ ¬ h2.fp b ∧ ¬ r2.fp b := fun b hb n1 n2 n3 =>
    ⟨C.turn.block b hb fun e => by rcases e with e | e | e; exact n1 e; exact n2 e; exact n3 e, fun e => (C.hf b e).elim n1 (by omega), fun e => (C.rf b e).elim n2 (by omega)⟩
  have hbl := blk_lt R.box
  have nkb : kb ≠ G.blk := (h6 kb (.inr rfl)).2.2.2
  have ag := ap _ hbl R.ap h2' fun e => nkb e.symm
  have aA : ∀ b o, G.A = some ⟨b, o, none⟩ → W'.heap[b]? = W.heap[b]? ∧ ¬ h2.fp b ∧ ¬ r2.fp b := fun b o ea => ap b (R.apo b o ea).1 (R.apo b o ea).2.1 (h3 b o ea).1 fun e => (h3 b o ea).2 (.inr e)
  have sT : ∀ b, T b → S b ∨ b = kb := fun b hb => (hT b hb).elim (fun e => .inl e.1) fun e => .inr e.1
  have aT : ∀ b, T b → ¬ h2.fp b ∧ ¬ r2.fp b := fun b hb => by
    rcases hT b hb with ⟨e, e'⟩ | ⟨rfl, e⟩
    · obtain ⟨a1, a2, a3, a4⟩ := h6 b (.inl e)
      exact (ap b a1 (e4 b (.inl e)) a3 e').2
    · exact e
  refine ⟨⟨⟨h2, C.lr, ⟨C.lr.heap, C.lr.mu, ?_, R.oth.same C.turn.size fun b o ea hl => (aA b o ea).1, ag.2.1, fun b o ea => ⟨Nat.lt_of_lt_of_le (R.apo b o ea).1 C.turn.size, (aA b o ea).2.1, (R.apo b o ea).2.2⟩, R.few⟩, C.hm, C.hb.trans e2, fun b hf => ?_, fun b hb => (aT b hb).1⟩, Turn.q_of h1 C.turn fun i hi => ?_, ag.2.2, fun b o ea => ⟨(aA b o ea).2.2, fun e => (h3 b o ea).2 (sT b e)⟩, fun b hf => ?_, h5, fun b hb => ⟨Nat.lt_of_lt_of_le (h6 b (sT b hb)).1 C.turn.size, (h6 b (sT b hb)).2.1, (aT b hb).2, (h6 b (sT b hb)).2.2.2⟩⟩, C.rb, fun b hS hne => ?_⟩
  · rw [ag.1, R.box]
    unfold Gd.cells Hp.ptr
    rw [C.hb]
  · rcases C.hf b hf with x | x
    · exact e3 b x
    · omega
  · rcases hi with x | x | x
    · exact e3 i x
    · exact h4 i x
    · exact (h6 i (.inr x)).2.1
  · rcases C.rf b hf with x | x
    · exact h4 b x
    · omega
  · obtain ⟨a1, a2, a3, a4⟩ := h6 b (.inl hS)
    exact (ap b a1 (e4 b (.inl hS)) a3 hne).1
/-- a call on the map -/
theorem LMk.call (X : LMk w W hb m r G S kb nn kv) {P : Ending → World → HM → Rw → List (Int × Int) → Prop} {n2 : Nat}
    (hc : ∀ h n D, LR W h r → h.m = m → h.calls = m.calls → MS W h r kb W h.m r n D h → n ≤ nn → Wh D (keysOf kv) → Calls Tryz.prog f args W fun e W' => ∃ m2 r2 n' D' h2 zs, MS W h r kb W' m2 r2 n' D' h2 ∧ n' ≤ n2 ∧ Wh D' (keysOf zs) ∧ r2.more = r.more ∧ MapR m2 r2 zs ∧ P e W' m2 r2 zs) :
    Calls Tryz.prog f args W fun e W' => ∃ m2 r2 zs, LMk w W' hb m2 r2 G S kb n2 zs ∧ r2.blk = r.blk ∧ (∀ b, S b → W'.heap[b]? = W.heap[b]?) ∧ P e W' m2 r2 zs := by
  obtain ⟨⟨⟨h, L, R, e1, e2, e3, e4⟩, h1, h2, h3, h4, h5, h6⟩, ⟨n, D, ho, hn, hW⟩, nk, hmo, mp⟩ := X
  have nkS : ∀ b, S b → b ≠ kb := fun b hb e => nk (e ▸ hb)
  refine (hc h n D L e1 (by rw [← e1]; rfl) (MS.start L ho ⟨e4 _ (.inr rfl), (h6 _ (.inr rfl)).2.2.1⟩) hn hW).mono ?_
  rintro e W' ⟨m2, r2, n', D', h2b, zs, M, hn2, hW2, hm2, mp2, hP⟩
  obtain ⟨g1, g2, g3⟩ := mc_core (T := fun b => S b ∨ b = kb) L R e2 e3 e4 h1 h2 h3 h4 h5 h6 M.mc fun b hb => hb.elim (fun e => .inl ⟨e, nkS b e⟩) fun e => .inr ⟨e, M.ap⟩
  exact ⟨m2, r2, zs, ⟨g1, ⟨n', D', M.own, hn2, hW2⟩, nk, hm2.trans hmo, mp2⟩, g2, fun b hb => g3 b hb (nkS b hb), hP⟩
/-- the map is closed -/
theorem LMk.shut (X : LMk w W hb m r G S kb nn kv) {P : Ending → HM → Rw → Prop}
    (hc : ∀ h n D, LR W h r → h.m = m → h.calls = m.calls → MS W h r kb W h.m r n D h → n ≤ nn → Wh D (keysOf kv) → Calls Tryz.prog f args W fun e W' => ∃ m2 r2 h2, MC W h r kb W' m2 r2 h2 ∧ P e m2 r2) :
    Calls Tryz.prog f args W fun e W' => ∃ m2 r2, LG w W' hb m2 r2 G S ∧ r2.blk = r.blk ∧ P e m2 r2 := by
  obtain ⟨⟨⟨h, L, R, e1, e2, e3, e4⟩, h1, h2, h3, h4, h5, h6⟩, ⟨n, D, ho, hn, hW⟩, nk, hmo, mp⟩ := X
  have nkS : ∀ b, S b → b ≠ kb := fun b hb e => nk (e ▸ hb)
  refine (hc h n D L e1 (by rw [← e1]; rfl) (MS.start L ho ⟨e4 _ (.inr rfl), (h6 _ (.inr rfl)).2.2.1⟩) hn hW).mono ?_
  rintro e W' ⟨m2, r2, h2b, M, hP⟩
  obtain ⟨g1, g2, g3⟩ := mc_core (T := S) L R e2 e3 e4 h1 h2 h3 h4 h5 h6 M fun b hb => .inl ⟨hb, nkS b hb⟩
  exact ⟨m2, r2, g1, g2, hP⟩
theorem LMk.turn (X : LMk w W hb m r G S kb nn kv) (t : Turn T W W') (hT : ∀ b, T b → S b) (hS : ∀ b, S' b → S b ∨ (W.heap.size ≤ b ∧ b < W'.heap.size)) : LMk w W' hb m r G S' kb nn kv := by
  obtain ⟨n, D, ho, hn⟩ := X.own
  have hl := (X.lg.ss kb (.inr rfl)).1
  refine ⟨X.lg.turn t (fun b e => .inl (hT b e)) fun b e => ?_, ⟨n, D, keeps_same ho (t.block kb hl fun e => X.nk (hT _ e)), hn⟩, fun e => ?_, X.more, X.mp⟩
  · rcases e with e | e
    · exact (hS b e).elim (fun x => .inl (.inl x)) .inr
    · exact .inl (.inr e)
  · rcases hS kb e with x | ⟨x, -⟩
    · exact X.nk x
    · omega
theorem LMk.q (X : LMk w W hb m r G S kb nn kv) (hq : Q W W') : LMk w W' hb m r G S kb nn kv := X.turn (T := fun _ => False) (.of_q hq) (fun b e => e.elim) fun b e => .inl e
theorem LMk.more' {n2 : Nat} (X : LMk w W hb m r G S kb nn kv) (h : nn ≤ n2) : LMk w W hb m r G S kb n2 kv := by
  obtain ⟨n, D, ho, hn, hW⟩ := X.own
  exact { X with own := ⟨n, D, ho, by omega, hW⟩ }
end
/-- the state within a round -/
structure AM (w W : World) (hb lb gb kb mb ab nb : Nat) (vk vv vk3 vv3 : Value) (m : HM) (r : Rw) (G : Gd) (nn : Nat) (op A B : Int) (kv ys zs : List (Int × Int)) : Prop where
  rb : r.blk = lb
  gk : G.blk = gb
  lm : LMk w W hb m r G (fun b => b = ab ∨ OMt mb vk vv b ∨ OMt nb vk3 vv3 b) kb nn zs
  mo : OM W w.heap.size mb vk vv (keysOf kv) (valsOf kv)
  no : OM W w.heap.size nb vk3 vv3 (keysOf ys) (valsOf ys)
  abox : W.heap[ab]? = some (.cells #[.int .i64 op, .int .i64 A, .int .i64 B] 53 (0, 0))
  ne : (∀ b, OMt mb vk vv b → ¬ OMt nb vk3 vv3 b) ∧ ¬ OMt nb vk3 vv3 ab
section
variable {w W W' : World} {hb lb gb kb mb ab nb nn n2 k : Nat} {vk vv vk3 vv3 : Value} {m m2 : HM} {r r2 : Rw} {G G2 : Gd} {op A B : Int} {kv ys zs us : List (Int × Int)} {f : FuncId} {args : Array Value}
theorem AM.q (X : AM w W hb lb gb kb mb ab nb vk vv vk3 vv3 m r G nn op A B kv ys zs) (hq : Q W W') : AM w W' hb lb gb kb mb ab nb vk vv vk3 vv3 m r G nn op A B kv ys zs :=
  ⟨X.rb, X.gk, X.lm.q hq, X.mo.q hq, X.no.q hq, (hq.below.block _ (blk_lt X.abox)).trans X.abox, X.ne⟩
theorem AM.call (X : AM w W hb lb gb kb mb ab nb vk vv vk3 vv3 m r G nn op A B kv ys zs) {P : Ending → HM → Rw → List (Int × Int) → Prop}
    (hc : ∀ h n D, LR W h r → h.m = m → h.calls = m.calls → MS W h r kb W h.m r n D h → n ≤ nn → Wh D (keysOf zs) → Calls Tryz.prog f args W fun e W' => ∃ m2 r2 n' D' h2 us, MS W h r kb W' m2 r2 n' D' h2 ∧ n' ≤ n2 ∧ Wh D' (keysOf us) ∧ r2.more = r.more ∧ MapR m2 r2 us ∧ P e m2 r2 us) :
    Calls Tryz.prog f args W fun e W' => ∃ m2 r2 us, AM w W' hb lb gb kb mb ab nb vk vv vk3 vv3 m2 r2 G n2 op A B kv ys us ∧ P e m2 r2 us := by
  refine (X.lm.call (P := fun e _ m2 r2 us => P e m2 r2 us) hc).mono ?_
  rintro e W' ⟨m2, r2, us, hl, hb, hs, hP⟩
  exact ⟨m2, r2, us, ⟨hb.trans X.rb, X.gk, hl, X.mo.same fun b e => hs b (.inr (.inl e)), X.no.same fun b e => hs b (.inr (.inr e)), (hs _ (.inl rfl)).trans X.abox, X.ne⟩, hP⟩
theorem AM.cs (X : AM w W hb lb gb kb mb ab nb vk vv vk3 vv3 m r G nn op A B kv ys zs) : W.cell? ⟨ab, 0, none⟩ = some (.int .i64 op) ∧ W.cell? ⟨ab, 1, none⟩ = some (.int .i64 A) ∧ W.cell? ⟨ab, 2, none⟩ = some (.int .i64 B) ∧ W.cell? ⟨nb, 0, none⟩ = some vk3 ∧ W.cell? ⟨nb, 1, none⟩ = some vv3 ∧ ab < W.heap.size ∧ nb < W.heap.size ∧ mb < W.heap.size ∧ W.frozen? ⟨mb, 0, none⟩ = false ∧ W.frozen? ⟨mb, 1, none⟩ = false ∧ W.cell? ⟨mb, 0, none⟩ = some vk ∧ W.cell? ⟨mb, 1, none⟩ = some vv := by
  refine ⟨?_, ?_, ?_, X.no.k.1, X.no.k.2.1, blk_lt X.abox, X.no.k.2.2.1, X.mo.k.2.2.1, X.mo.k.2.2.2.1, X.mo.k.2.2.2.2, X.mo.k.1, X.mo.k.2.1⟩
  all_goals (rw [cell_of_row _ _ _ _ _ _ X.abox]; rfl)
theorem MapR.l64 {m : HM} {r : Rw} {kv : List (Int × Int)} (S : MapR m r kv) : kv.length ≤ 64 := by
  have := S.kp.len
  rw [two_len] at this
  exact this
theorem MapR.pcs {m : HM} {r : Rw} {kv : List (Int × Int)} (S : MapR m r kv) : Pcs m 2 r.ps kv.length := by
  have := S.kp.pcs
  rw [two_len] at this
  exact this
/-- what an act comes to -/
def ActM (m2 : HM) (r2 : Rw) (G G2 : Gd) (k : Nat) (kv ys zs : List (Int × Int)) (got want : Int) (lg : Bool) : Prop :=
  NextO G m2 got want lg ys.length G2 ∧ GI m2 2 r2.ps zs.length G2 (k + 1) ∧ (((got == 0) = true ∧ zs = ys) ∨ ((got == 0) = false ∧ zs = kv))
theorem ActM.same {got : Int} {lg : Bool} (g : GI m 2 r.ps kv.length G k) (h : (got == 0) = false) : ActM m r G G k kv ys kv got got lg :=
  ⟨.inl ⟨rfl, fun _ => by simp only [bne, h]; rfl, g.calls, rfl⟩, g.more (by omega), .inr ⟨h, rfl⟩⟩
theorem vals_at {i : Nat} {x v : Int} (h : kv[i]? = some (x, v)) : (valsOf kv).getD i 0 = v := by
  unfold valsOf
  rw [List.getD_eq_getElem?_getD, List.getElem?_map, h]
  rfl
theorem put_out {x v old err : Int} {is : Bool} (S : MapR m r kv) (g : GI m 2 r.ps kv.length G k) (O : PutO m m2 r r2 kv zs x v old is err) : old = ptV kv x v ∧ is = ptB kv x v ∧ ∃ G2, ActM m2 r2 G G2 k kv (ptY kv x v) zs err (ptE kv x v) (!decide (0 ≤ fkI (keysOf kv) x)) := by
  rcases O with ⟨h1, rfl, rfl, rfl, rfl, rfl, rfl⟩ | ⟨h1, ⟨i, hi, ez⟩, rfl, rfl, rfl, S2, I⟩ | ⟨h1, hk, rfl, rfl, ok, rfl, ez, S2, I⟩
  · have e : ptE zs x v = 1 := by unfold ptE; rw [if_pos h1]
    have eb : ptB zs x v = false := by unfold ptB; rw [h1]; rfl
    have ev : ptV zs x v = 0 := by unfold ptV; rw [eb]; rfl
    rw [e, eb, ev]
    exact ⟨rfl, rfl, G, .same g rfl⟩
  · have ef := fk_at S.nd (keys_at hi)
    have e0 : 0 ≤ fkI (keysOf kv) x := by rw [ef]; omega
    have e : ptE kv x v = 0 := by unfold ptE; rw [if_neg (by rw [h1]; decide), if_pos e0]
    have eb : ptB kv x v = true := by unfold ptB; rw [h1]; simpa using e0
    have ev : ptV kv x v = old := by unfold ptV; rw [eb, if_pos rfl, ef, Int.toNat_natCast, vals_at hi]
    have ey : ptY kv x v = zs := by unfold ptY; rw [e, if_pos rfl, if_pos e0, ef, Int.toNat_natCast, ez]
    have el : (!decide (0 ≤ fkI (keysOf kv) x)) = false := by simpa using e0
    rw [e, eb, ev, ey, el]
    refine ⟨rfl, rfl, G, .inl ⟨rfl, (fun e => by cases e), by rw [I.calls]; exact g.calls, rfl⟩, g.quiet S2.inv I.fr S2.pcs (by rw [ez, List.length_set]; exact Nat.le_refl _) I.calls fun L => I.low L, .inl ⟨rfl, rfl⟩⟩
  · have ef := fk_no hk
    have e0 : ¬ 0 ≤ fkI (keysOf kv) x := by rw [ef]; omega
    have h64 := S.l64
    have e : ptE kv x v = if 64 ≤ kv.length then 3 else 0 := by unfold ptE; rw [if_neg (by rw [h1]; decide), if_neg e0]
    have eb : ptB kv x v = false := by unfold ptB; rw [h1]; simpa using e0
    have ev : ptV kv x v = 0 := by unfold ptV; rw [eb]; rfl
    have el : (!decide (0 ≤ fkI (keysOf kv) x)) = true := by simpa using e0
    rw [eb, ev, el]
    refine ⟨rfl, rfl, ?_⟩
    have P2 := S2.pcs
    by_cases hf : kv.length = 64
    · obtain ⟨e1, e2⟩ := I.full (by rw [two_len]; exact hf)
      subst e1
      rw [if_pos (by omega)] at e
      have ez : zs = kv := ez
      have ey : ptY kv x v = kv := by unfold ptY; rw [e, if_neg (by decide)]
      rw [e, ey, ez]
      rw [ez] at P2
      exact ⟨G, .inl ⟨rfl, fun _ => rfl, by rw [e2]; exact g.calls, rfl⟩, g.quiet S2.inv I.fr P2 (Nat.le_refl _) e2 fun L => (I.low 0 L).1, .inr ⟨rfl, rfl⟩⟩
    · rw [if_neg (by omega)] at e
      have ey : ptY kv x v = kv ++ [(x, v)] := by unfold ptY; rw [e, if_pos rfl, if_neg e0]
      have hlen : (kv ++ [(x, v)]).length = kv.length + 1 := by simp
      rw [e, ey]
      cases ok with
      | true =>
        have ez : zs = kv ++ [(x, v)] := ez
        rw [ez] at P2 ⊢
        exact ⟨{ G with calls := m2.calls, most := max G.most ((kv ++ [(x, v)]).length : Int) }, .inr (.inl ⟨rfl, rfl, rfl, rfl⟩), g.ok S2.inv I.fr P2 (by omega) I.calls.2 fun L => (I.low 0 L).1, .inl ⟨rfl, rfl⟩⟩
      | false =>
        have ez : zs = kv := ez
        rw [ez] at P2 ⊢
        refine ⟨{ G with calls := m2.calls }, .inr (.inr ⟨rfl, rfl, rfl, fun hs => ?_, rfl⟩), g.no S2.inv I.fr P2 (Nat.le_refl _) I.calls.2 fun L => (I.low 0 L).1, .inr ⟨rfl, rfl⟩⟩
        have h16 : ¬ kv.length < 16 := fun h => by
          have := (I.low 0 (g.low hs)).2 (by rw [two_len]; exact h)
          cases this
        omega
theorem gt_of {x v err : Int} {is : Bool} (nd : (keysOf kv).Nodup) (O : GetO kv x v is err) : v = gtV kv x ∧ is = gtB kv x ∧ err = gtE x := by
  unfold gtV gtB gtE
  rcases O with ⟨h1, rfl, rfl, rfl⟩ | ⟨h1, ⟨i, hi⟩, rfl, rfl⟩ | ⟨h1, hk, rfl, rfl, rfl⟩
  · rw [h1]
    exact ⟨(if_neg fun h => absurd h.1 (by decide)).symm, rfl, rfl⟩
  · have ef := fk_at nd (keys_at hi)
    rw [h1, ef, if_pos ⟨rfl, by omega⟩, Int.toNat_natCast, vals_at hi]
    exact ⟨rfl, by simp, rfl⟩
  · have ef := fk_no hk
    rw [h1, ef]
    exact ⟨rfl, rfl, rfl⟩
def dlY (kv : List (Int × Int)) (x : Int) : List (Int × Int) := if gtB kv x then delAt kv (fkI (keysOf kv) x).toNat 1 else kv
theorem del_out {x v err : Int} {is : Bool} (S : MapR m r kv) (g : GI m 2 r.ps kv.length G k) (O : DelO m m2 r r2 kv zs x v is err) : v = gtV kv x ∧ is = gtB kv x ∧ err = gtE x ∧ ∃ G2, ActM m2 r2 G G2 k kv (dlY kv x) zs err (gtE x) false := by
  rcases O with ⟨h1, rfl, rfl, rfl, rfl, rfl, rfl⟩ | ⟨h1, hk, rfl, rfl, rfl, rfl, rfl, rfl⟩ | ⟨h1, rfl, rfl, i, hi, ez, S2, I⟩
  · obtain ⟨a1, a2, a3⟩ := gt_of (kv := zs) (x := x) S.nd (.inl ⟨h1, rfl, rfl, rfl⟩)
    have ey : dlY zs x = zs := by unfold dlY; rw [← a2]; rfl
    rw [ey, ← a3]
    exact ⟨a1, a2, rfl, G, .same g rfl⟩
  · obtain ⟨a1, a2, a3⟩ := gt_of (kv := zs) (x := x) S.nd (.inr (.inr ⟨h1, hk, rfl, rfl, rfl⟩))
    have ey : dlY zs x = zs := by unfold dlY; rw [← a2]; rfl
    rw [ey, ← a3]
    exact ⟨a1, a2, rfl, G, .inl ⟨rfl, (fun e => by cases e), g.calls, rfl⟩, g.more (by omega), .inl ⟨rfl, rfl⟩⟩
  · obtain ⟨a1, a2, a3⟩ := gt_of (kv := kv) (x := x) S.nd (.inr (.inl ⟨h1, ⟨i, hi⟩, rfl, rfl⟩))
    have ef := fk_at S.nd (keys_at hi)
    have ey : dlY kv x = zs := by unfold dlY; rw [← a2, if_pos rfl, ef, Int.toNat_natCast, ez]
    rw [ey, ← a3]
    have hil := (List.getElem?_eq_some_iff.1 hi).1
    exact ⟨a1, a2, rfl, G, .inl ⟨rfl, (fun e => by cases e), by rw [I.calls]; exact g.calls, rfl⟩, g.quiet S2.inv I.fr S2.pcs (by rw [ez, delAt_len _ _ _ (by omega)]; omega) I.calls fun L => I.low 0 L, .inl ⟨rfl, rfl⟩⟩
/-! the calls -/
theorem AM.ptr (X : AM w W hb lb gb kb mb ab nb vk vv vk3 vv3 m r G nn op A B kv ys zs) : r.ptr = .pointer (some ⟨lb, 0, none⟩) := by unfold Rw.ptr; rw [X.rb]
/-! the document's -/
end
end Go.Proofs.YtdaklffbfadghaaGreat

namespace Go.Proofs.YtdaklffbfadghaaGreat
open Go.RowKit HP
set_option linter.unusedVariables false
set_option linter.unusedSimpArgs false
def PXm (w : World) (hb lb gb kb mb i : Nat) (kv : List (Int × Int)) (vk vv : Value) (W : World) : Prop := ∃ (m : HM) (r : Rw) (G : Gd), r.blk = lb ∧ G.blk = gb ∧ LMk w W hb m r G (OMt mb vk vv) kb i kv ∧ OM W w.heap.size mb vk vv (keysOf kv) (valsOf kv) ∧ GI m 2 r.ps kv.length G i
/-- between two rounds -/
def PRm (w : World) (hb lb gb kb mb n i : Nat) (W : World) : Prop := i ≤ n ∧ ∃ (kv : List (Int × Int)) (vk vv : Value), PXm w hb lb gb kb mb i kv vk vv W
section
variable {w W W' wr wa W12 : World} {hb lb gb kb mb ab nb nn n i k j : Nat} {vk vv vk3 vv3 u1 u2 : Value} {m m2 : HM} {r r2 : Rw} {G G2 : Gd} {op A B : Int} {kv ys zs : List (Int × Int)}
theorem PXm.q (X : PXm w hb lb gb kb mb i kv vk vv W) (hq : Q W W') : PXm w hb lb gb kb mb i kv vk vv W' := by
  obtain ⟨m, r, G, a1, a2, a3, a4, a5⟩ := X
  exact ⟨m, r, G, a1, a2, a3.q hq, a4.q hq, a5⟩
theorem PXm.toQ (X : PXm w hb lb gb kb mb i kv vk vv W) : Q w W := by
  obtain ⟨m, r, G, a1, a2, a3, a4, a5⟩ := X
  exact a3.lg.q
theorem PRm.toQ (X : PRm w hb lb gb kb mb n i W) : Q w W := by
  obtain ⟨-, kv, vk, vv, X⟩ := X
  exact X.toQ
theorem PXm.l64 (X : PXm w hb lb gb kb mb i kv vk vv W) : kv.length ≤ 64 := by
  obtain ⟨m, r, G, a1, a2, a3, a4, a5⟩ := X
  exact a3.mp.l64
theorem AM.more (X : AM w W hb lb gb kb mb ab nb vk vv vk3 vv3 m r G nn op A B kv ys zs) {n2 : Nat} (h : nn ≤ n2) : AM w W hb lb gb kb mb ab nb vk vv vk3 vv3 m r G n2 op A B kv ys zs := { X with lm := X.lm.more' h }
/-- the model takes the next one's rows -/
theorem AM.take (X : AM w W hb lb gb kb mb ab nb vk vv vk3 vv3 m r G nn op A B kv ys ys) (g : GI m 2 r.ps ys.length G nn) : PXm w hb lb gb kb mb nn ys vk3 vv3 ((W.setCell ⟨mb, 0, none⟩ vk3).setCell ⟨mb, 1, none⟩ vv3) := by
  have hb := X.mo.box
  have n1 := boxM_ne hb X.no.ok
  have n2 := boxM_ne hb X.no.ov
  have t : Turn (fun b => b = mb) W ((W.setCell ⟨mb, 0, none⟩ vk3).setCell ⟨mb, 1, none⟩ vv3) := ((Turn.refl (fun b => b = mb) W).set (p := ⟨mb, 0, none⟩) rfl vk3).set (p := ⟨mb, 1, none⟩) rfl vv3
  have keep : ∀ b, b < W.heap.size → b ≠ mb → ((W.setCell ⟨mb, 0, none⟩ vk3).setCell ⟨mb, 1, none⟩ vv3).heap[b]? = W.heap[b]? := fun b h1 h2 => t.block b h1 h2
  refine ⟨m, r, G, X.rb, X.gk, X.lm.turn t (fun b e => .inr (.inl (.inl e))) fun b e => ?_, ⟨?_, own_same X.no.ok fun g hg => keep g (X.no.ok.lt g hg).2 fun e => n1 (by rw [← e]; exact hg), own_same X.no.ov fun g hg => keep g (X.no.ov.lt g hg).2 fun e => n2 (by rw [← e]; exact hg), X.no.ap⟩, g⟩
  · rcases e with e | e | e
    · exact .inl (.inr (.inl (.inl e)))
    · exact .inl (.inr (.inr (.inr (.inl e))))
    · exact .inl (.inr (.inr (.inr (.inr e))))
  · have h1 := heap_setCell_same W mb 0 _ _ vk3 hb
    have h2 := heap_setCell_same _ mb 1 _ _ vv3 h1
    rw [h2]
    rfl
end
end Go.Proofs.YtdaklffbfadghaaGreat
