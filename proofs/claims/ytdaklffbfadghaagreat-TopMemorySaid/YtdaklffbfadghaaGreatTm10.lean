/- A store at a key that is there, into the very map that is ranged over: which entries are still to come stays. The places of keys, as a map of the language holds them: plain. No program. The state of a call on a map: heap, rows, and the map of the language that holds each key's place. What a map is asked first; Put, Get of a map that is open. Put of a map that is open. Get, Keys, Close of a map that is open. Delete and Close of a map that is open; NewMap. Close of a map; NewList, NewMap, NewQueue. What a map and a queue that cannot be used answer. SameInts, SameStretches of the document; == of two pairs. Conditions: as each theorem says. -/
import Derived.ProofKit
import Derived.Maps.RangeWalk
import Derived.Test.YtdaklffbfadghaaGreatTm7
import Derived.Test.YtdaklffbfadghaaGreatTm9
namespace Go.Proofs.YtdaklffbfadghaaGreat
open Go Go.ChangeMaps Go.MapKept Go.WideShapes
open Go.WideElems (Fit rd rg pl rd_key rd_val rg_of other_key rd_mk)
open Go.Maps (Keyed fit_keys fit_apart sorted_put filter_one)
set_option linter.unusedVariables false
set_option linter.unusedSimpArgs false
section
variable {H : Type} {P : Program} {k : TypeId} {R : Value → Option (DataW H × List MemPlace)} {w : World} {b r n : Nat} {D : DataW H} {left : Lit → Bool} {cnt : Nat}
theorem ranges_store {t e : TypeId} (h : w.ranges P k R b r n D left cnt) (K : Keyed P k) (ht : P.underlying t = some (.map k e)) {key val : Value} {kl : Lit} {yv : DataW H × List MemPlace}
    (hkey : keyOf P k key = some kl) (hv : R val = some yv) (hthere : Maps.has D kl = true) :
    ∃ w', (Instr.mapUpdate t (.map (some b)) key val).run P w = .ok () w' ∧ w'.ranges P k R b r n (D.put kl yv.1) left cnt ∧ w.mapTurned w' b := by
  have hne := h.ne
  obtain ⟨es, clock, since, seen, c0, hb, F, hs, rfl, hr, hold, rfl, hl1, hl2, hsc, hsk⟩ := h
  rcases K.find w hkey es.toList F.keys with ⟨h1, h2⟩ | ⟨j, e0, h1, h2, h3⟩
  · exfalso
    obtain ⟨p, hp, hpk⟩ := List.any_eq_true.1 hthere
    obtain ⟨x, hx, rfl⟩ := List.mem_map.1 (mem_sorted.1 hp)
    obtain ⟨y, hy⟩ := F.reads x hx
    have e1 : (rg P k R x).1 = kl := WideAt.sameKey_eq hpk
    rw [rg_of hy] at e1
    exact h2 x hx (K.inj (e1 ▸ rd_key hy) hkey)
  · have hj : es[j]? = some e0 := by simpa using h2
    have hjl : j < es.toList.length := (List.getElem?_eq_some_iff.1 h2).1
    have hmem0 : e0 ∈ es.toList := List.mem_of_getElem? h2
    have hkeyf : ∀ e', es[j]? = some e' → ({ e' with key := key, val := val } : MapEntry).key = e'.key := fun e' he' => by rw [hj] at he'; cases he'; exact h3.symm
    have hlist : (es.modify j (fun e' => { e' with key := key, val := val })).toList = es.toList.set j { e0 with key := key, val := val } := by rw [Array.toList_modify, modify_eq_set _ _ _ _ h2]
    have who : ∀ x ∈ es.toList.set j { e0 with key := key, val := val }, x = { e0 with key := key, val := val } ∨ (x ∈ es.toList ∧ x.key ≠ key) := by
      intro x hx
      obtain ⟨i, hi, ex⟩ := List.getElem_of_mem hx
      rw [List.getElem_set] at ex
      split at ex
      · exact Or.inl ex.symm
      · rename_i hne
        have hi' : i < es.toList.length := by simpa using hi
        refine Or.inr ⟨ex ▸ List.getElem_mem hi', ?_⟩
        rw [← h3]
        exact other_key F h2 (by rw [List.getElem?_eq_getElem hi', ex]) (fun e1 => hne e1.symm)
    have hnewrg : (rg P k R { e0 with key := key, val := val }).1 = kl := by rw [rg_of (rd_mk hkey hv)]
    have holdrg : (rg P k R e0).1 = kl := by
      obtain ⟨y, hy⟩ := F.reads e0 hmem0
      rw [rg_of hy]
      have := rd_key hy
      rw [h3, hkey] at this
      exact (Option.some.inj this).symm
    have hborn : ∀ a : List MapEntry, (∀ i (e1 e2 : MapEntry), es.toList[i]? = some e1 → a[i]? = some e2 → e1.born = e2.born) → a.length = es.toList.length → (a.filter fun e => !seen.contains e.born).length = (es.toList.filter fun e => !seen.contains e.born).length := fun a ha hlen => by
      have e1 : a.map (·.born) = es.toList.map (·.born) := by
        refine List.ext_getElem (by simpa using hlen) fun i hi1 hi2 => ?_
        rw [List.getElem_map, List.getElem_map]
        rw [List.length_map] at hi1 hi2
        exact (ha i _ _ (List.getElem?_eq_getElem hi2) (List.getElem?_eq_getElem hi1)).symm
      have e2 : ∀ l : List MapEntry, (l.filter fun e => !seen.contains e.born).length = ((l.map (·.born)).filter fun z => !seen.contains z).length := fun l => by
        rw [List.filter_map, List.length_map]
        rfl
      rw [e2, e2, e1]
    refine ⟨_, ?_, ⟨es.modify j (fun e' => { e' with key := key, val := val }), clock, since, seen, c0, heap_setBlock_same hb _, ⟨by simpa using F.size, stamped_modify F.stamped _ _ (fun _ _ => rfl) (fun e' _ he' => hkeyf e' he'), ?_⟩, by simpa using hs, ?_, (heap_setBlock_other hb _ hne).trans hr, ?_, ?_, ?_, ?_, hsc, hsk⟩, ⟨es, clock, _, clock, hb, rfl⟩⟩
    · simp [Instr.mapUpdate, run_underlying ht, MapKept.run_getObj_map hb, K.check w false hkey, h1, hj, h3, K.stays w hkey, MapKept.run_setObj_map _ hb, Result.andThen, setBlock]
    · intro x hx
      rw [hlist] at hx
      rcases who x hx with rfl | ⟨hx', _⟩
      · exact ⟨_, rd_mk hkey hv⟩
      · exact F.reads x hx'
    · rw [DataW.put_eq]
      congr 1
      refine (sorted_put K.one ⟨key, hkey⟩ (fit_keys F) (fit_apart K F) ?_).symm
      rw [filter_one K F hkey h2 h3, hlist, List.map_set, rg_of (rd_mk hkey hv)]
      exact set_perm _ _ (by simpa using hjl) _
    · intro x hx
      rw [hlist] at hx
      rcases who x hx with rfl | ⟨hx', _⟩
      · exact hold e0 hmem0
      · exact hold x hx'
    · have e1 : ∀ a : Array MapEntry, (leftOf a seen).size = (a.toList.filter fun e => !seen.contains e.born).length := fun a => by
        unfold leftOf
        rw [← Array.toList_filter, Array.length_toList]
      rw [e1, e1, hlist]
      refine hborn _ (fun i e1 e2 he1 he2 => ?_) (by simp)
      rw [List.getElem?_set] at he2
      split at he2
      · rename_i e3
        subst e3
        rw [h2] at he1
        obtain rfl := Option.some.inj he1
        simp at he2
        obtain ⟨_, rfl⟩ := he2
        rfl
      · rw [he1] at he2
        rw [Option.some.inj he2]
    · intro x hx
      rw [hlist] at hx
      rcases who x hx with rfl | ⟨hx', _⟩
      · rw [hnewrg, ← holdrg]
        exact hl1 e0 hmem0
      · exact hl1 x hx'
    · intro x0 hx0
      obtain ⟨x, hx, rfl⟩ := hl2 x0 hx0
      rw [hlist]
      by_cases hxk : x.key = key
      · refine ⟨_, List.mem_set hjl _, ?_⟩
        rw [hnewrg]
        obtain ⟨y, hy⟩ := F.reads x hx
        rw [rg_of hy]
        have := rd_key hy
        rw [hxk, hkey] at this
        exact Option.some.inj this
      · obtain ⟨i, hi, ex⟩ := List.getElem_of_mem hx
        have hij : j ≠ i := fun e1 => by
          subst e1
          rw [List.getElem?_eq_getElem hi, ex] at h2
          obtain rfl := Option.some.inj h2
          exact hxk h3
        exact ⟨x, List.mem_of_getElem? (i := i) (by rw [List.getElem?_set_ne hij, List.getElem?_eq_getElem hi, ex]), rfl⟩
end
section
variable {H : Type} {P : Program} (w : World) {ops : Array Oper} {rest : List Oper} {o : Oper} {a : Act} {Q : Exit → Act → World → Prop}
theorem wpList_mapUpdate_ranges (hg : o.guard = none) (m x v : Operand) (t : TypeId) (hop : o.op = Op.mapUpdate t m x v)
    (k e : TypeId) (K : Keyed P k) (ht : P.underlying t = some (.map k e)) (R : Value → Option (DataW H × List MemPlace)) (b r n : Nat) (D : DataW H) (left : Lit → Bool) (cnt : Nat)
    (hm : a.eval m = .map (some b)) (h : w.ranges P k R b r n D left cnt) (key val : Value) (kl : Lit) (hx : a.eval x = key) (hv : a.eval v = val) (hkey : keyOf P k key = some kl)
    (d : DataW H) (ps : List MemPlace) (hval : R val = some (d, ps)) (hthere : Maps.has D kl = true)
    (hK : ∀ w', w'.ranges P k R b r n (D.put kl d) left cnt → w.mapTurned w' b → wpList P ops Q rest (a.put o.dst undef) w') :
    wpList P ops Q (o :: rest) a w := by
  refine wpList_plain hg fun K' hK' => ?_
  obtain ⟨w', hrun, r1, r2⟩ := ranges_store h K ht hkey hval hthere
  unfold Oper.wp
  simp [execOp, hop, hm, hx, hv, hrun, Result.andThen]
  exact hK' _ _ (hK w' r1 r2)
end
end Go.Proofs.YtdaklffbfadghaaGreat

namespace Go.Proofs.YtdaklffbfadghaaGreat
open Go Go.Maps
set_option linter.unusedVariables false
set_option linter.unusedSimpArgs false
section
variable {H : Type}
def kI (x : Int) : Lit := .int .i64 x
theorem kI_inj {x y : Int} (h : kI x = kI y) : x = y := by unfold kI at h; injection h
theorem kI_ne {x y : Int} (h : x ≠ y) : kI x ≠ kI y := fun e => h (kI_inj e)
/-- the map has the place of each key of a list -/
structure Wh (D : DataW H) (ks : List Int) : Prop where
  isMap : IsMap D
  hasK : ∀ x, has D (kI x) = ks.contains x
  atK : ∀ (i : Nat) (x : Int), ks[i]? = some x → ∀ z, D.atKey (kI x) z = .lit (.int .i64 i)
theorem Wh.nil : Wh (.map [] : DataW H) [] := ⟨isMap_empty, fun x => rfl, fun i x h => by simp at h⟩
theorem Wh.push {D : DataW H} {ks : List Int} (h : Wh D ks) {x : Int} (hx : x ∉ ks) (hk : WideAt.IsKeyLit (kI x)) : Wh (D.put (kI x) (.lit (.int .i64 ks.length))) (ks ++ [x]) := by
  refine ⟨h.isMap.put _ _, fun y => ?_, fun i y hy z => ?_⟩
  · by_cases e : y = x
    · subst e
      rw [has_put_same h.isMap hk]
      simp
    · rw [has_put_other (kI_ne e), h.hasK]
      simp [e]
  · rw [List.getElem?_append] at hy
    split at hy
    · have hm := List.mem_of_getElem? hy
      have e : y ≠ x := fun e => hx (by rw [← e]; exact hm)
      rw [atKey_put_other (kI_ne e)]
      exact h.atK i y hy z
    · obtain ⟨hi, e⟩ := List.getElem?_eq_some_iff.1 hy
      simp at hi e
      have hi2 : i = ks.length := by omega
      subst hi2
      subst e
      exact atKey_put_same h.isMap hk _ _
/-- a key is being taken out: the places behind it that have come are one less -/
structure WhMid (D : DataW H) (ks : List Int) (x : Int) (i : Nat) (left : Lit → Bool) : Prop where
  isMap : IsMap D
  hasK : ∀ y, has D (kI y) = (ks.contains y && !decide (y = x))
  atK : ∀ (j : Nat) (y : Int), ks[j]? = some y → y ≠ x → ∀ z, D.atKey (kI y) z = .lit (.int .i64 (if i < j ∧ left (kI y) = false then (j : Int) - 1 else j))
  lf : ∀ y, left (kI y) = true → y ∈ ks ∧ y ≠ x
theorem WhMid.start {D : DataW H} {ks : List Int} (h : Wh D ks) (x : Int) (i : Nat) : WhMid (D.del (kI x)) ks x i (has (D.del (kI x))) := by
  have hh : ∀ y, has (D.del (kI x)) (kI y) = (ks.contains y && !decide (y = x)) := fun y => by
    by_cases e : y = x
    · subst e
      rw [has_del_same]
      simp
    · rw [has_del_other (kI_ne e), h.hasK]
      simp [e]
  refine ⟨h.isMap.del _, hh, fun j y hy hne z => ?_, fun y hy => ?_⟩
  · rw [atKey_del_other (kI_ne hne), h.atK j y hy z, hh]
    have hm := List.mem_of_getElem? hy
    rw [if_neg]
    simp [hm, hne]
  · rw [hh] at hy
    simpa using hy
theorem WhMid.less {D : DataW H} {ks : List Int} {x : Int} {i j : Nat} {left : Lit → Bool} (h : WhMid D ks x i left) (hnd : ks.Nodup) {y : Int} (hl : left (kI y) = true) (hy : ks[j]? = some y) (hj : i < j) (hk : WideAt.IsKeyLit (kI y)) :
    WhMid (D.put (kI y) (.lit (.int .i64 ((j : Int) - 1)))) ks x i (fun z => left z && !z.sameKey (kI y)) := by
  have hyx := h.lf y hl
  refine ⟨h.isMap.put _ _, fun v => ?_, fun n v hv hne z => ?_, fun v hv => h.lf v (by simp at hv; exact hv.1)⟩
  · by_cases e : v = y
    · subst e
      rw [has_put_same h.isMap hk]
      simp [hyx.1, hyx.2]
    · rw [has_put_other (kI_ne e)]
      exact h.hasK v
  · by_cases e : v = y
    · subst e
      have hn : n = j := by
        obtain ⟨a1, a2⟩ := List.getElem?_eq_some_iff.1 hv
        obtain ⟨b1, b2⟩ := List.getElem?_eq_some_iff.1 hy
        exact nodup_idx hnd a1 b1 (a2.trans b2.symm)
      subst hn
      rw [atKey_put_same h.isMap hk, if_pos ⟨hj, by rw [WideAt.sameKey_self hk]; simp⟩]
    · rw [atKey_put_other (kI_ne e), h.atK n v hv hne z, sameKey_ne (kI_ne e)]
      simp
theorem WhMid.keep {D : DataW H} {ks : List Int} {x : Int} {i j : Nat} {left : Lit → Bool} (h : WhMid D ks x i left) (hnd : ks.Nodup) {y : Int} (hy : ks[j]? = some y) (hj : ¬ i < j) :
    WhMid D ks x i (fun z => left z && !z.sameKey (kI y)) := by
  refine ⟨h.isMap, h.hasK, fun n v hv hne z => ?_, fun v hv => h.lf v (by simp at hv; exact hv.1)⟩
  rw [h.atK n v hv hne z]
  by_cases e : v = y
  · subst e
    have hn : n = j := by
      obtain ⟨a1, a2⟩ := List.getElem?_eq_some_iff.1 hv
      obtain ⟨b1, b2⟩ := List.getElem?_eq_some_iff.1 hy
      exact nodup_idx hnd a1 b1 (a2.trans b2.symm)
    subst hn
    rw [if_neg (by omega), if_neg (by omega)]
  · rw [sameKey_ne (kI_ne e)]
    simp
/-- the value that comes out with a key -/
theorem WhMid.value {D : DataW H} {ks : List Int} {x : Int} {i : Nat} {left : Lit → Bool} (h : WhMid D ks x i left) {y : Int} (hl : left (kI y) = true) : ∃ j : Nat, ks[j]? = some y ∧ ∀ z, D.atKey (kI y) z = .lit (.int .i64 (j : Int)) := by
  obtain ⟨hm, hne⟩ := h.lf y hl
  obtain ⟨j, hj, e⟩ := List.getElem_of_mem hm
  refine ⟨j, by rw [List.getElem?_eq_getElem hj, e], fun z => ?_⟩
  rw [h.atK j y (by rw [List.getElem?_eq_getElem hj, e]) hne z, if_neg (by rw [hl]; simp)]
theorem WhMid.done {D : DataW H} {ks : List Int} {x : Int} {i : Nat} {left : Lit → Bool} (h : WhMid D ks x i left) (hnd : ks.Nodup) (hx : ks[i]? = some x) (hl : ∀ z, left z = false) : Wh D (delAt ks i 1) := by
  have hil := (List.getElem?_eq_some_iff.1 hx).1
  have hidx : ∀ (n : Nat), ks[n]? = some x → n = i := fun n hn => by
    obtain ⟨a1, a2⟩ := List.getElem?_eq_some_iff.1 hn
    obtain ⟨b1, b2⟩ := List.getElem?_eq_some_iff.1 hx
    exact nodup_idx hnd a1 b1 (a2.trans b2.symm)
  refine ⟨h.isMap, fun y => ?_, fun n y hy z => ?_⟩
  · rw [h.hasK y, Bool.eq_iff_iff]
    simp only [Bool.and_eq_true, List.contains_iff_mem, Bool.not_eq_true', decide_eq_false_iff_not]
    constructor
    · rintro ⟨hm, hne⟩
      obtain ⟨j, hj, e⟩ := List.getElem_of_mem hm
      have hji : j ≠ i := fun e2 => hne (by
        subst e2
        rw [List.getElem?_eq_getElem hj, e] at hx
        exact Option.some.inj hx)
      rcases Nat.lt_or_gt_of_ne hji with h1 | h1
      · exact List.mem_of_getElem? (i := j) (by rw [delAt_get _ _ _ (by omega), if_pos h1, List.getElem?_eq_getElem hj, e])
      · exact List.mem_of_getElem? (i := j - 1) (by rw [delAt_get _ _ _ (by omega), if_neg (by omega), show j - 1 + 1 = j by omega, List.getElem?_eq_getElem hj, e])
    · intro hm
      refine ⟨delAt_mem hm, fun e => ?_⟩
      obtain ⟨j, hj, e2⟩ := List.getElem_of_mem hm
      have hj2 : (delAt ks i 1)[j]? = some x := by rw [List.getElem?_eq_getElem hj, e2, e]
      rw [delAt_get _ _ _ (by omega)] at hj2
      split at hj2
      · have := hidx _ hj2
        omega
      · have := hidx _ hj2
        omega
  · rw [delAt_get _ _ _ (by omega)] at hy
    split at hy
    · rename_i hn
      have hne : y ≠ x := fun e => by
        have := hidx n (by rw [hy, e])
        omega
      rw [h.atK n y hy hne z, if_neg (by omega)]
    · rename_i hn
      have hne : y ≠ x := fun e => by
        have := hidx (n + 1) (by rw [hy, e])
        omega
      rw [h.atK (n + 1) y hy hne z, if_pos ⟨by omega, hl _⟩]
      congr 2
      omega
end
end Go.Proofs.YtdaklffbfadghaaGreat

namespace Go.Proofs.YtdaklffbfadghaaGreat
open Go.RowKit HP Go.Maps
set_option linter.unusedVariables false
set_option linter.unusedSimpArgs false
theorem lawI : Keyed Tryz.prog 3 := int_keyed Tryz.underlying3
theorem zeroI (w : World) : (zeroValue 3).run Tryz.prog w = .ok (.int .i64 0) w := by kernel_rfl
abbrev DM := DataW Unit
abbrev World.keeps (w : World) (mb : Nat) (n : Nat) (D : DM) : Prop := w.ownsMap Tryz.prog 3 (plainElem Tryz.prog 3) mb n D
/-- of the world w, in which heap, rows and map lay so, the heap is m now, the rows are r1, the map holds D -/
structure MS (w : World) (h : Hp) (r : Rw) (mb : Nat) (W : World) (m : HM) (r1 : Rw) (n : Nat) (D : DM) (h1 : Hp) : Prop where
  lr : LR W h1 r1
  hm : h1.m = m
  hb : h1.blk = h.blk
  rb : r1.blk = r.blk
  rt : r1.ty = r.ty
  turn : Turn (fun b => h.fp b ∨ r.fp b ∨ b = mb) w W
  hf : ∀ b, h1.fp b → h.fp b ∨ w.heap.size ≤ b
  rf : ∀ b, r1.fp b → r.fp b ∨ w.heap.size ≤ b
  own : World.keeps W mb n D
  ap : ¬ h1.fp mb ∧ ¬ r1.fp mb
section
variable {w W W2 : World} {h h1 : Hp} {r r1 : Rw} {mb n n2 : Nat} {m : HM} {D D2 : DM}
theorem MS.start (L : LR w h r) (o : World.keeps w mb n D) (ha : ¬ h.fp mb ∧ ¬ r.fp mb) : MS w h r mb w h.m r n D h := ⟨L, rfl, rfl, rfl, rfl, .refl _ _, fun b e => .inl e, fun b e => .inl e, o, ha⟩
theorem MS.ptr (X : MS w h r mb W m r1 n D h1) : h1.ptr = h.ptr := by unfold Hp.ptr; rw [X.hb]
theorem MS.q (X : MS w h r mb W m r1 n D h1) (hq : Q W W2) : MS w h r mb W2 m r1 n D h1 :=
  ⟨((LDid.refl X.lr).q hq).lr, X.hm, X.hb, X.rb, X.rt, X.turn.q hq, X.hf, X.rf, X.own.kept (row := none) ⟨hq.below.os, hq.below.tape, hq.below.output, hq.size, fun k hk _ => hq.below.block k hk⟩ (by simp), X.ap⟩
/-- the heap and the rows are acted on -/
theorem MS.act (X : MS w h r mb W m r1 n D h1) {m2 : HM} {r2 : Rw} (S : LS W h1 r1 W2 m2 r2) : ∃ h2, MS w h r mb W2 m2 r2 n D h2 := by
  obtain ⟨h2, D2, e⟩ := S
  have hl := X.own.lt
  obtain ⟨a1, a2, a3⟩ := D2.apart hl X.ap.1 X.ap.2
  have hk : World.keeps W2 mb n D := by
    obtain ⟨es, clock, hb, hr⟩ := X.own
    exact ⟨es, clock, a1.trans hb, hr⟩
  refine ⟨h2, D2.lr, e, D2.hb.trans X.hb, D2.rb.trans X.rb, D2.rt.trans X.rt, X.turn.trans D2.turn fun i hi e => ?_, fun b e => ?_, fun b e => ?_, hk, a2, a3⟩
  · rcases e with e | e
    · rcases X.hf i e with e | e
      · exact .inl e
      · omega
    · rcases X.rf i e with e | e
      · exact .inr (.inl e)
      · omega
  · rcases D2.hf b e with e | e
    · exact X.hf b e
    · exact .inr (Nat.le_trans X.turn.size e)
  · rcases D2.rf b e with e | e
    · exact X.rf b e
    · exact .inr (Nat.le_trans X.turn.size e)
theorem MS.call (X : MS w h r mb W m r1 n D h1) {f : FuncId} {args : Array Value} {P : Ending → World → HM → Rw → Prop}
    (hc : ∀ h1, LR W h1 r1 → h1.m = m → h1.ptr = h.ptr → h1.calls = m.calls → Calls Tryz.prog f args W fun e W' => ∃ m2 r2, LS W h1 r1 W' m2 r2 ∧ P e W' m2 r2) :
    Calls Tryz.prog f args W fun e W' => ∃ m2 r2 h2, MS w h r mb W' m2 r2 n D h2 ∧ P e W' m2 r2 := by
  refine (hc h1 X.lr X.hm X.ptr (by rw [← X.hm]; rfl)).mono ?_
  rintro e W' ⟨m2, r2, S, hP⟩
  obtain ⟨h2, Y⟩ := X.act S
  exact ⟨m2, r2, h2, Y, hP⟩
/-- the map is written -/
theorem MS.grown (X : MS w h r mb W m r1 n D h1) (hg : W.grownBy W2 (some mb)) (o : World.keeps W2 mb n2 D2) : MS w h r mb W2 m r1 n2 D2 h1 := by
  have L := X.lr
  have k1 : ∀ g, h1.fp g → W2.heap[g]? = W.heap[g]? := fun g hf => hg.block g (L.heap.lt g hf) fun e => X.ap.1 (by injection e with e; rw [← e]; exact hf)
  have k2 : ∀ g, r1.fp g → W2.heap[g]? = W.heap[g]? := fun g hf => hg.block g (L.rlt g hf) fun e => X.ap.2 (by injection e with e; rw [← e]; exact hf)
  exact ⟨⟨L.heap.same k1, L.mu, (k2 _ (.inl rfl)).trans L.cells, own_same L.pcs fun g hg => k2 g (.inr hg), L.ap1, L.ap2⟩, X.hm, X.hb, X.rb, X.rt, X.turn.grown hg fun k hk _ => by cases hk; exact .inr (.inr rfl), X.hf, X.rf, o, X.ap⟩
theorem MS.ls (X : MS w h r mb W m r1 n D h1) : LS W h1 r1 W m r1 := by
  have := LS.start X.lr
  rw [X.hm] at this
  exact this
theorem MS.k (X : MS w h r mb W m r1 n D h1) (hmo : r1.more = [.map (some mb)]) : W.cell? ⟨r.blk, 2, none⟩ = some (.int .i64 r1.n) ∧ W.cell? ⟨r.blk, 3, none⟩ = some (.bool r1.closed) ∧ W.cell? ⟨r.blk, 4, none⟩ = some (.map (some mb)) ∧ r.blk < W.heap.size := by
  have k2 := X.ls.k2
  have k3 := X.ls.k3
  have k4 := X.ls.kj 4
  have hl := X.ls.lt
  rw [X.rb] at k2 k3 k4 hl
  refine ⟨k2, k3, ?_, hl⟩
  rw [k4]
  unfold Rw.cells
  rw [hmo]
  rfl
end
/-! rows of two numbers -/
def two (kv : List (Int × Int)) : List (List Int) := kv.map fun x => [x.1, x.2]
theorem two_len (kv : List (Int × Int)) : (two kv).length = kv.length := List.length_map _
theorem two_at {kv : List (Int × Int)} {i : Nat} {x : Int × Int} (h : kv[i]? = some x) : (two kv)[i]? = some [x.1, x.2] := by unfold two; rw [List.getElem?_map, h]; rfl
theorem two_ins (kv : List (Int × Int)) (i : Nat) (x : Int × Int) : insAt (two kv) i [[x.1, x.2]] = two (insAt kv i [x]) := by
  unfold two
  rw [insAt_map]
theorem two_del (kv : List (Int × Int)) (i : Nat) : delAt (two kv) i 1 = two (delAt kv i 1) := by
  unfold two
  rw [delAt_map]
theorem two_set (kv : List (Int × Int)) (i : Nat) (x : Int × Int) : (two kv).set i [x.1, x.2] = two (kv.set i x) := by
  unfold two
  rw [List.map_set]
def fits2 (x : Int × Int) : Bool := fitsB x.1 && fitsB x.2
def keysOf (kv : List (Int × Int)) : List Int := kv.map (·.1)
structure MapR (m : HM) (r : Rw) (kv : List (Int × Int)) : Prop where
  inv : Inv m
  kp : Kp m 2 r.ps (two kv)
  n : kv.length = r.n
  op : r.closed = false
  fit : ∀ x ∈ kv, fits2 x = true
  nd : (keysOf kv).Nodup
theorem MapR.bd {m : HM} {r : Rw} {kv : List (Int × Int)} (S : MapR m r kv) : BdL (two kv) := fun row hr v hv => by
  obtain ⟨x, hx, rfl⟩ := List.mem_map.1 hr
  have := S.fit x hx
  unfold fits2 at this
  rw [Bool.and_eq_true] at this
  simp at hv
  rcases hv with rfl | rfl
  · exact fits_bd this.1
  · exact fits_bd this.2
theorem MapR.le {m : HM} {r : Rw} {kv : List (Int × Int)} (S : MapR m r kv) : r.n ≤ 64 := by
  have := S.kp.len
  rw [two_len, S.n] at this
  exact this
end Go.Proofs.YtdaklffbfadghaaGreat

namespace Go.Proofs.YtdaklffbfadghaaGreat
open Go.RowKit HP Go.Maps
set_option linter.unusedVariables false
set_option linter.unusedSimpArgs false
section
variable {w W : World} {h h1 : Hp} {r r1 : Rw} {mb n : Nat} {m : HM} {D : DM}
/-- the same, with what of old blocks is the same -/
theorem MS.callF (X : MS w h r mb W m r1 n D h1) {f : FuncId} {args : Array Value} {P : Ending → World → HM → Rw → Prop}
    (hc : ∀ h1, LR W h1 r1 → h1.m = m → h1.ptr = h.ptr → h1.calls = m.calls → Calls Tryz.prog f args W fun e W' => ∃ m2 r2, LS W h1 r1 W' m2 r2 ∧ P e W' m2 r2) :
    Calls Tryz.prog f args W fun e W' => ∃ m2 r2 h2, MS w h r mb W' m2 r2 n D h2 ∧ P e W' m2 r2 ∧ ∀ b, b < W.heap.size → ¬ h1.fp b → ¬ r1.fp b → W'.heap[b]? = W.heap[b]? := by
  refine (hc h1 X.lr X.hm X.ptr (by rw [← X.hm]; rfl)).mono ?_
  rintro e W' ⟨m2, r2, S, hP⟩
  have S' := S
  obtain ⟨h2, Y⟩ := X.act S
  obtain ⟨h3, D3, -⟩ := S'
  exact ⟨m2, r2, h2, Y, hP, fun b hb h1 h2 => (D3.apart hb h1 h2).1⟩
set_option maxHeartbeats 4000000 in
set_option maxRecDepth 100000 in
theorem askedM_any (L : LR w h r) (A : Option Addr) (n c : Nat) (l : List Int) (hl : l.length = n) (hr : Rd w w.heap.size A (intsV l)) (hn : n ≤ 1000) :
    Calls Tryz.prog 71 #[r.ptr, .slice A n c] w fun e w' => e = .returned (.int .i64 (if r.closed then 9 else if l.all fitsB then 0 else 1)) ∧ Q w w' := by
  have c3 := L.k3
  have HAN : Hid (Calls Tryz.prog 89 #[.slice A n c] w fun e w' => e = .returned (.bool (l.all fitsB)) ∧ Q w w') := areNumbers_any A n c l w hl hr hn
  unfold Rw.ptr
  obtain ⟨b, eb⟩ : ∃ b, b = r.blk := ⟨_, rfl⟩
  obtain ⟨cl, ec⟩ : ∃ c, c = r.closed := ⟨_, rfl⟩
  rw [← eb, ← ec] at c3
  rw [← eb, ← ec]
  clear eb ec L hr hl hn
  cases cl
  · cases ha : l.all fitsB
    · rw [ha] at HAN
      clear ha
      go_enter Tryz.func71, Tryz.ntmps71
      go_wp2_with (go_at_call 89; refine HAN.out.mono ?_; rintro e w1 ⟨rfl, hq1⟩)
      go_ret
      exact ⟨rfl, hq1⟩
    · rw [ha] at HAN
      clear ha
      go_enter Tryz.func71, Tryz.ntmps71
      go_wp2_with (go_at_call 89; refine HAN.out.mono ?_; rintro e w1 ⟨rfl, hq1⟩)
      go_ret
      exact ⟨rfl, hq1⟩
  · go_enter Tryz.func71, Tryz.ntmps71
    go_wp2_with fail
    go_ret
    exact ⟨rfl, Q.refl _⟩
/-- what asked says of two numbers laid in a new row -/
theorem askedM_two (L : LR w h r) (hop : r.closed = false) (k v : Int) (W : World) (hq : Q w W) : Calls Tryz.prog 71 #[r.ptr, .slice (some ⟨W.heap.size, 0, none⟩) 2 2] (W.alloc (.cells #[.int .i64 k, .int .i64 v] 3)) fun e w' => e = .returned (.int .i64 (if fitsB k && fitsB v then 0 else 1)) ∧ Q (W.alloc (.cells #[.int .i64 k, .int .i64 v] 3)) w' := by
  have := askedM_any ((LDid.refl L).q (hq.alloc (.cells #[.int .i64 k, .int .i64 v] 3))).lr (some ⟨W.heap.size, 0, none⟩) 2 2 [k, v] rfl (.inr ⟨W.heap.size, 0, rfl, by simp, fun j u hu => by
    rw [World.cell?_alloc_new]
    simpa [intsV] using hu⟩) (by decide)
  rw [hop] at this
  simpa using this
theorem askedM_one (L : LR w h r) (hop : r.closed = false) (k : Int) (W : World) (hq : Q w W) : Calls Tryz.prog 71 #[r.ptr, .slice (some ⟨W.heap.size, 0, none⟩) 1 1] (W.alloc (.cells #[.int .i64 k] 3)) fun e w' => e = .returned (.int .i64 (if fitsB k then 0 else 1)) ∧ Q (W.alloc (.cells #[.int .i64 k] 3)) w' := by
  have := askedM_any ((LDid.refl L).q (hq.alloc (.cells #[.int .i64 k] 3))).lr (some ⟨W.heap.size, 0, none⟩) 1 1 [k] rfl (.inr ⟨W.heap.size, 0, rfl, by simp, fun j u hu => by
    rw [World.cell?_alloc_new]
    simpa [intsV] using hu⟩) (by decide)
  rw [hop] at this
  simpa using this
theorem askedM_zero (L : LR w h r) (hop : r.closed = false) (W : World) (hq : Q w W) : Calls Tryz.prog 71 #[r.ptr, .slice none 0 0] W fun e w' => e = .returned (.int .i64 0) ∧ Q W w' := by
  have := askedM_any ((LDid.refl L).q hq).lr none 0 0 [] rfl (Rd.nil _ _ _) (by decide)
  rw [hop] at this
  simpa using this
end
end Go.Proofs.YtdaklffbfadghaaGreat

namespace Go.Proofs.YtdaklffbfadghaaGreat
open Go.RowKit HP Go.Maps
set_option linter.unusedVariables false
set_option linter.unusedSimpArgs false
theorem i64_wf {v : Int} (h : fitsB v = true) : (Lit.int .i64 v).wf = true := by
  have := fits_bd h
  exact WalkArith.wf_i64 this
theorem nat_wf {i : Nat} (h : i < 1000000) : (Lit.int .i64 (i : Int)).wf = true := WalkArith.wf_i64 (by omega)
theorem i64_inj {a b : Int} (h : (DataW.lit (.int .i64 a) : DM) = .lit (.int .i64 b)) : a = b := by
  injection h with h
  injection h
theorem results_tmp3 {P : Program} {fn : Func} {a b c : Tmp} (h : fn.results = #[.tmp a, .tmp b, .tmp c]) (tmps : Array Value) (w : World) : (results fn tmps).run P w = .ok (.tuple #[tmps.getD a undef, tmps.getD b undef, tmps.getD c undef]) w := by
  simp [results, h]
theorem results_tmp4 {P : Program} {fn : Func} {a b c d : Tmp} (h : fn.results = #[.tmp a, .tmp b, .tmp c, .tmp d]) (tmps : Array Value) (w : World) : (results fn tmps).run P w = .ok (.tuple #[tmps.getD a undef, tmps.getD b undef, tmps.getD c undef, tmps.getD d undef]) w := by
  simp [results, h]
section
variable {w W : World} {h h1 : Hp} {r r1 : Rw} {mb n nn : Nat} {m : HM} {D : DM} {kv : List (Int × Int)}
theorem MS.read2 (X : MS w h r mb W m r1 n D h1) (I : Inv m) (i : Nat) (hi : i < 64) {a b : Int} (hr : RowIs m 2 r1.ps i [a, b]) (hb : ∀ v ∈ [a, b], -9223372036854775808 ≤ v ∧ v ≤ 9223372036854775807) :
    Calls Tryz.prog 72 #[r.ptr, .int .i64 i] W fun e W' => e = .returned (.agg #[.int .i64 a, .int .i64 b]) ∧ ∃ h2, MS w h r mb W' m r1 n D h2 := by
  have hrb := X.rb
  refine (X.call (P := fun e W' m2 r2 => e = .returned (.agg #[.int .i64 a, .int .i64 b]) ∧ m2 = m ∧ r2 = r1) fun h3 L e1 e2 e3 => ?_).mono ?_
  · have := read2_any L (by rw [e1]; exact I) i hi (by rw [e1]; exact hr) hb
    unfold Rw.ptr at this ⊢
    rw [hrb, e1] at this
    refine this.mono ?_
    rintro e W' ⟨he, hX⟩
    exact ⟨m, r1, hX, he, rfl, rfl⟩
  · rintro e W' ⟨m2, r2, h2, hX, he, rfl, rfl⟩
    exact ⟨he, h2, hX⟩
theorem MS.write2 (X : MS w h r mb W m r1 n D h1) (I : Inv m) (i : Nat) (hi : i < 64) {p : Int} (hp : r1.ps[i / 4]? = some p) (hh : Has m p 64) (a b : Int) :
    Calls Tryz.prog 73 #[r.ptr, .int .i64 i, .agg #[.int .i64 a, .int .i64 b]] W fun e W' => e = .returned (.tuple #[]) ∧ ∃ m2 h2, MS w h r mb W' m2 r1 n D h2 ∧ Writing m m2 p (((i % 4 * (8 * 2) : Nat)) : Int) [a, b] (8 * 2) ∧ ∀ g, g < W.heap.size → ¬ h1.fp g → ¬ r1.fp g → W'.heap[g]? = W.heap[g]? := by
  have hrb := X.rb
  refine (X.callF (P := fun e W' m2 r2 => e = .returned (.tuple #[]) ∧ r2 = r1 ∧ Writing m m2 p (((i % 4 * (8 * 2) : Nat)) : Int) [a, b] (8 * 2)) fun h3 L e1 e2 e3 => ?_).mono ?_
  · have := write2_any L (by rw [e1]; exact I) i hi hp (by rw [e1]; exact hh) a b
    unfold Rw.ptr at this ⊢
    rw [hrb, e1] at this
    refine this.mono ?_
    rintro e W' ⟨m', he, hX, hW⟩
    exact ⟨m', r1, hX, he, rfl, hW⟩
  · rintro e W' ⟨m2, r2, h2, hX, ⟨he, rfl, hW⟩, hF⟩
    exact ⟨he, m2, h2, hX, hW, hF⟩
theorem MS.insert2 (X : MS w h r mb W m r1 n D h1) (I : Inv m) {Ls : List (List Int)} (K : Kp m 2 r1.ps Ls) (hl : Ls.length = r1.n) (hc : m.calls < 1000000000) (hb : BdL Ls) (i : Nat) (hi : i ≤ r1.n) (a b : Int) :
    Calls Tryz.prog 74 #[r.ptr, .int .i64 i, .agg #[.int .i64 a, .int .i64 b]] W fun e W' => ∃ (ok : Bool) (m' : HM) (r2 : Rw) (er : Int), e = .returned (.int .i64 er) ∧ er = (if ok then 0 else 3) ∧ (∃ h2, MS w h r mb W' m' r2 n D h2) ∧ Insd m m' 2 r1.ps r2.ps Ls i [a, b] ok ∧ r2.n = r1.n + (if ok then 1 else 0) ∧ r2.closed = r1.closed ∧ r2.more = r1.more := by
  have hrb := X.rb
  refine (X.call (P := fun e W' m' r2 => ∃ ok : Bool, e = .returned (.int .i64 (if ok then 0 else 3)) ∧ Insd m m' 2 r1.ps r2.ps Ls i [a, b] ok ∧ r2.n = r1.n + (if ok then 1 else 0) ∧ r2.closed = r1.closed ∧ r2.more = r1.more) fun h3 L e1 e2 e3 => ?_).mono ?_
  · have := insert2_any L (by rw [e1]; exact I) (by rw [e1]; exact K) hl (by rw [e3]; exact hc) hb i hi a b
    unfold Rw.ptr at this ⊢
    rw [hrb, e1] at this
    refine this.mono ?_
    rintro e W' ⟨ok, m', r2, he, hX, hG⟩
    exact ⟨m', r2, hX, ok, he, hG⟩
  · rintro e W' ⟨m2, r2, h2, hX, ok, he, hG⟩
    exact ⟨ok, m2, r2, _, he, rfl, ⟨h2, hX⟩, hG⟩
/-- what Put says -/
def PutO (m m' : HM) (r r2 : Rw) (kv kv2 : List (Int × Int)) (k v old : Int) (is : Bool) (err : Int) : Prop :=
  (fits2 (k, v) = false ∧ old = 0 ∧ is = false ∧ err = 1 ∧ m' = m ∧ r2 = r ∧ kv2 = kv) ∨
  (fits2 (k, v) = true ∧ (∃ i : Nat, kv[i]? = some (k, old) ∧ kv2 = kv.set i (k, v)) ∧ is = true ∧ err = 0 ∧ r2 = r ∧ MapR m' r2 kv2 ∧ Wrtn m m' 2 r.ps) ∨
  (fits2 (k, v) = true ∧ k ∉ keysOf kv ∧ old = 0 ∧ is = false ∧ ∃ ok : Bool, err = (if ok then 0 else 3) ∧ kv2 = (if ok then kv ++ [(k, v)] else kv) ∧ MapR m' r2 kv2 ∧ Insd m m' 2 r.ps r2.ps (two kv) kv.length [k, v] ok)
theorem keys_at {i : Nat} {k v : Int} (h : kv[i]? = some (k, v)) : (keysOf kv)[i]? = some k := by unfold keysOf; rw [List.getElem?_map, h]; rfl
theorem keys_set {i : Nat} {k v u : Int} (h : kv[i]? = some (k, u)) : keysOf (kv.set i (k, v)) = keysOf kv := by
  unfold keysOf
  rw [List.map_set]
  refine List.ext_getElem? fun j => ?_
  rw [List.getElem?_set]
  split
  · rename_i e
    subst e
    have hj := (List.getElem?_eq_some_iff.1 h).1
    rw [List.getElem?_map, h, List.length_map, if_pos hj]
    rfl
  · rfl
theorem putO_found {m m' : HM} {i : Nat} {k v old p : Int} (S : MapR m r kv) (hf : fits2 (k, v) = true) (hi : kv[i]? = some (k, old)) (hp : r.ps[i / 4]? = some p) (W : Writing m m' p (((i % 4 * (8 * 2) : Nat)) : Int) [k, v] (8 * 2)) : PutO m m' r r kv (kv.set i (k, v)) k v old true 0 := by
  have hil := (List.getElem?_eq_some_iff.1 hi).1
  obtain ⟨k1, f1⟩ := S.kp.set (i := i) (by rw [two_len]; exact hil) (r := [k, v]) hp rfl W
  have e2 := two_set kv i (k, v)
  rw [show [k, v] = [(k, v).1, (k, v).2] from rfl, e2] at k1
  refine .inr (.inl ⟨hf, ⟨i, hi, rfl⟩, rfl, rfl, rfl, ⟨W.inv, k1, ?_, S.op, fun x hx => ?_, by rw [keys_set hi]; exact S.nd⟩, W.inv, f1, W.calls, W.failIn⟩)
  · rw [List.length_set]; exact S.n
  · rcases List.mem_or_eq_of_mem_set hx with h | h
    · exact S.fit x h
    · rw [h]; exact hf
theorem putO_new {m m' : HM} {r2 : Rw} {k v : Int} {ok : Bool} (S : MapR m r kv) (hf : fits2 (k, v) = true) (hk : k ∉ keysOf kv) (hI : Insd m m' 2 r.ps r2.ps (two kv) kv.length [k, v] ok) (h2n : r2.n = r.n + (if ok then 1 else 0)) (h2c : r2.closed = r.closed) : PutO m m' r r2 kv (if ok then kv ++ [(k, v)] else kv) k v 0 false (if ok then 0 else 3) := by
  refine .inr (.inr ⟨hf, hk, rfl, rfl, ok, rfl, rfl, ?_, hI⟩)
  have hkp := hI.kp
  cases ok
  · exact ⟨hI.inv, hkp, by rw [h2n, ← S.n]; rfl, h2c.trans S.op, S.fit, S.nd⟩
  · rw [if_pos rfl] at hkp
    have e1 : insAt (two kv) kv.length [[k, v]] = two (kv ++ [(k, v)]) := by
      rw [show [k, v] = [(k, v).1, (k, v).2] from rfl, two_ins]
      unfold insAt
      simp
    rw [e1] at hkp
    refine ⟨hI.inv, hkp, ?_, h2c.trans S.op, fun x hx => ?_, ?_⟩
    · rw [h2n, ← S.n]
      simp
    · rcases List.mem_append.1 hx with hx | hx
      · exact S.fit x hx
      · rw [List.mem_singleton] at hx
        rw [hx]
        exact hf
    · show (keysOf (kv ++ [(k, v)])).Nodup
      unfold keysOf
      rw [List.map_append]
      refine List.nodup_append.2 ⟨S.nd, by simp, fun x hx y hy e => ?_⟩
      simp at hy
      subst hy
      subst e
      exact hk hx
theorem at_key {k : Int} (h : k ∈ keysOf kv) : ∃ (i : Nat) (v : Int), kv[i]? = some (k, v) := by
  obtain ⟨x, hx, e⟩ := List.mem_map.1 h
  obtain ⟨i, hi, e2⟩ := List.getElem_of_mem hx
  refine ⟨i, x.2, ?_⟩
  rw [List.getElem?_eq_getElem hi, e2, ← e]
set_option maxHeartbeats 4000000 in
set_option maxRecDepth 100000 in
theorem putM_bad (L : LR w h r) (hop : r.closed = false) (k v : Int) (hf : fits2 (k, v) = false) :
    Calls Tryz.prog 21 #[r.ptr, .int .i64 k, .int .i64 v] w fun e w' => e = .returned (.tuple #[.int .i64 0, .bool false, .int .i64 1]) ∧ Q w w' := by
  have HAS : Hid (∀ W : World, Q w W → Calls Tryz.prog 71 #[r.ptr, .slice (some ⟨W.heap.size, 0, none⟩) 2 2] (W.alloc (.cells #[.int .i64 k, .int .i64 v] 3)) fun e w' => e = .returned (.int .i64 1) ∧ Q (W.alloc (.cells #[.int .i64 k, .int .i64 v] 3)) w') := fun W hq => by
    have := askedM_two L hop k v W hq
    rw [show (fitsB k && fitsB v) = false from hf] at this
    exact this
  have hrp : r.ptr = .pointer (some ⟨r.blk, 0, none⟩) := rfl
  rw [hrp] at HAS ⊢
  clear hrp L hf hop
  go_enter Tryz.func21, Tryz.ntmps21
  go_wp2_with (go_at_call 71; refine (HAS.out _ (Q.refl _)).mono ?_; rintro e w1 ⟨rfl, hq1⟩)
  refine bodyPost_ret (results_tmp3 rfl _ _) rfl ⟨rfl, ((Q.refl _).alloc _).trans hq1⟩
set_option maxHeartbeats 4000000 in
set_option maxRecDepth 100000 in
theorem putM_found (L : LR w h r) (S : MapR h.m r kv) (X0 : MS w h r mb w h.m r n D h) (hmo : r.more = [.map (some mb)]) (hW : Wh D (keysOf kv)) (k v : Int) (hf : fits2 (k, v) = true) (i : Nat) (old : Int) (hi : kv[i]? = some (k, old)) :
    Calls Tryz.prog 21 #[r.ptr, .int .i64 k, .int .i64 v] w fun e w' => e = .returned (.tuple #[.int .i64 old, .bool true, .int .i64 0]) ∧ ∃ m' h2, MS w h r mb w' m' r n D h2 ∧ PutO h.m m' r r kv (kv.set i (k, v)) k v old true 0 := by
  have HAS : Hid (∀ W : World, Q w W → Calls Tryz.prog 71 #[r.ptr, .slice (some ⟨W.heap.size, 0, none⟩) 2 2] (W.alloc (.cells #[.int .i64 k, .int .i64 v] 3)) fun e w' => e = .returned (.int .i64 0) ∧ Q (W.alloc (.cells #[.int .i64 k, .int .i64 v] 3)) w') := fun W hq => by
    have := askedM_two L S.op k v W hq
    rw [show (fitsB k && fitsB v) = true from hf] at this
    exact this
  have hil := (List.getElem?_eq_some_iff.1 hi).1
  have hle := S.le
  rw [← S.n] at hle
  have hmem := List.mem_of_getElem? hi
  obtain ⟨p, hp, -, hh⟩ := S.kp.pcs.at (i := i) (by rw [two_len]; exact hil)
  have HRD : Hid (∀ W, MS w h r mb W h.m r n D h → Calls Tryz.prog 72 #[r.ptr, .int .i64 i] W fun e W' => e = .returned (.agg #[.int .i64 k, .int .i64 old]) ∧ ∃ h2, MS w h r mb W' h.m r n D h2) := fun W X => X.read2 S.inv i (by omega) (S.kp.row i _ (two_at hi)) (S.bd _ (List.mem_of_getElem? (two_at hi)))
  have HWR : Hid (∀ W h1, MS w h r mb W h.m r n D h1 → Calls Tryz.prog 73 #[r.ptr, .int .i64 i, .agg #[.int .i64 k, .int .i64 v]] W fun e W' => e = .returned (.tuple #[]) ∧ ∃ m2 h2, MS w h r mb W' m2 r n D h2 ∧ Writing h.m m2 p (((i % 4 * (8 * 2) : Nat)) : Int) [k, v] (8 * 2) ∧ ∀ g, g < W.heap.size → ¬ h1.fp g → ¬ r.fp g → W'.heap[g]? = W.heap[g]?) := fun W h1 X => X.write2 S.inv i (by omega) hp hh k v
  have HO : Hid (∀ m2, Writing h.m m2 p (((i % 4 * (8 * 2) : Nat)) : Int) [k, v] (8 * 2) → PutO h.m m2 r r kv (kv.set i (k, v)) k v old true 0) := fun m2 W => putO_found S hf hi hp W
  have HX0 := hide X0
  have HKC : Hid (∀ W, MS w h r mb W h.m r n D h → W.cell? ⟨r.blk, 4, none⟩ = some (.map (some mb)) ∧ r.blk < W.heap.size) := fun W X => ⟨(X.k hmo).2.2.1, (X.k hmo).2.2.2⟩
  have hhas : Maps.has D (.int .i64 k) = true := by
    have := hW.hasK k
    rw [show (keysOf kv).contains k = true by rw [List.contains_iff_mem]; exact List.mem_of_getElem? (keys_at hi)] at this
    exact this
  have HAT : Hid (D.atKey (.int .i64 k) (.lit (.int .i64 0)) = .lit (.int .i64 (i : Int))) := hW.atK i k (keys_at hi) _
  have hkey := keyOf_int_mk Tryz.underlying3 (i64_wf (show fitsB k = true by unfold fits2 at hf; rw [Bool.and_eq_true] at hf; exact hf.1))
  have hrp : r.ptr = .pointer (some ⟨r.blk, 0, none⟩) := rfl
  rw [hrp] at HAS HRD HWR ⊢
  obtain ⟨b, eb⟩ : ∃ b, b = r.blk := ⟨_, rfl⟩
  rw [← eb] at HAS HRD HWR HKC ⊢
  have hii : (i : Int) ≤ 64 := by omega
  clear hrp L hf S hi hil hle hmem hp hh hW X0 eb hmo
  go_enter Tryz.func21, Tryz.ntmps21
  go_wp2_with (first
    | (go_at_call 71; refine (HAS.out _ (Q.refl _)).mono ?_; rintro e w1 ⟨rfl, hq1⟩; have HX1 := hide (HX0.out.q (((Q.refl _).alloc _).trans hq1)); obtain ⟨c4, hbl⟩ := HKC.out _ HX1.out)
    | (at_lookup; go_loud (refine wpList_lookup_own_ok_int _ rfl _ _ 119 rfl 3 3 .i64 lawI Tryz.underlying119 Tryz.underlying3 (zeroI _) mb n D rfl HX1.out.own _ _ rfl hkey ?_; intro c hat hwc; obtain rfl : c = (i : Int) := i64_inj (hat.symm.trans HAT.out); clear hat))
    | (go_at_call 72; refine (HRD.out _ HX1.out).mono ?_; rintro e w3 ⟨rfl, h3, hX3⟩; have HX3 := hide hX3; clear hX3)
    | (go_at_call 73; go_loud (refine (HWR.out _ h3 (HX3.out.q ((Q.refl _).alloc _))).mono ?_; rintro e w5 ⟨rfl, m5, h5, hX5, hW5, hfr⟩; have HX5 := hide hX5; have HW5 := hide hW5; have q12 := (hfr w3.heap.size (by simp) (fun e => Nat.lt_irrefl _ (HX3.out.lr.heap.lt _ e)) (fun e => Nat.lt_irrefl _ (HX3.out.lr.rlt _ e))).trans (heap_alloc_new w3 _); have c12 : w5.cell? ⟨w3.heap.size, 1, none⟩ = some (.int .i64 old) := (by rw [cell_of_row _ _ _ _ _ _ q12]; rfl); clear hX5 hW5 hfr q12)))
  refine bodyPost_ret (results_tmp3 rfl _ _) rfl ⟨rfl, m5, h5, HX5.out, HO.out _ HW5.out⟩
set_option maxHeartbeats 4000000 in
set_option maxRecDepth 100000 in
theorem putM_new (L : LR w h r) (S : MapR h.m r kv) (X0 : MS w h r mb w h.m r n D h) (hmo : r.more = [.map (some mb)]) (hW : Wh D (keysOf kv)) (hc : h.calls < 1000000000) (hn : n < 1000000) (k v : Int) (hf : fits2 (k, v) = true) (hi : k ∉ keysOf kv) :
    Calls Tryz.prog 21 #[r.ptr, .int .i64 k, .int .i64 v] w fun e w' => ∃ (ok : Bool) (m' : HM) (r2 : Rw) (n2 : Nat) (D2 : DM) (h2 : Hp), e = .returned (.tuple #[.int .i64 0, .bool false, .int .i64 (if ok then 0 else 3)]) ∧ MS w h r mb w' m' r2 n2 D2 h2 ∧ n2 ≤ n + 1 ∧ Wh D2 (keysOf (if ok then kv ++ [(k, v)] else kv)) ∧ r2.more = r.more ∧ PutO h.m m' r r2 kv (if ok then kv ++ [(k, v)] else kv) k v 0 false (if ok then 0 else 3) := by
  have HAS : Hid (∀ W : World, Q w W → Calls Tryz.prog 71 #[r.ptr, .slice (some ⟨W.heap.size, 0, none⟩) 2 2] (W.alloc (.cells #[.int .i64 k, .int .i64 v] 3)) fun e w' => e = .returned (.int .i64 0) ∧ Q (W.alloc (.cells #[.int .i64 k, .int .i64 v] 3)) w') := fun W hq => by
    have := askedM_two L S.op k v W hq
    rw [show (fitsB k && fitsB v) = true from hf] at this
    exact this
  have hle := S.le
  have hfk : fitsB k = true := by unfold fits2 at hf; rw [Bool.and_eq_true] at hf; exact hf.1
  have HIN : Hid (∀ W, MS w h r mb W h.m r n D h → Calls Tryz.prog 74 #[r.ptr, .int .i64 (kv.length : Int), .agg #[.int .i64 k, .int .i64 v]] W fun e W' => ∃ (ok : Bool) (m' : HM) (r2 : Rw) (er : Int), e = .returned (.int .i64 er) ∧ er = (if ok then 0 else 3) ∧ (∃ h2, MS w h r mb W' m' r2 n D h2) ∧ Insd h.m m' 2 r.ps r2.ps (two kv) kv.length [k, v] ok ∧ r2.n = r.n + (if ok then 1 else 0) ∧ r2.closed = r.closed ∧ r2.more = r.more) := fun W X => X.insert2 S.inv S.kp (by rw [two_len]; exact S.n) hc S.bd kv.length (by rw [S.n]; exact Nat.le_refl _) k v
  have HO : Hid (∀ m2 r2 ok, Insd h.m m2 2 r.ps r2.ps (two kv) kv.length [k, v] ok → r2.n = r.n + (if ok then 1 else 0) → r2.closed = r.closed → PutO h.m m2 r r2 kv (if ok then kv ++ [(k, v)] else kv) k v 0 false (if ok then 0 else 3)) := fun m2 r2 ok hI h2n h2c => putO_new S hf hi hI h2n h2c
  have HX0 := hide X0
  have HKC : Hid (∀ W h1 m1 r1, MS w h r mb W m1 r1 n D h1 → r1.more = r.more → W.cell? ⟨r.blk, 2, none⟩ = some (.int .i64 r1.n) ∧ W.cell? ⟨r.blk, 4, none⟩ = some (.map (some mb)) ∧ r.blk < W.heap.size) := fun W h1 m1 r1 X e => by
    obtain ⟨a, b, c, d⟩ := X.k (e.trans hmo)
    exact ⟨a, c, d⟩
  have HK1 : Hid (∀ W, MS w h r mb W h.m r n D h → W.cell? ⟨r.blk, 2, none⟩ = some (.int .i64 (kv.length : Int)) ∧ W.cell? ⟨r.blk, 4, none⟩ = some (.map (some mb)) ∧ r.blk < W.heap.size) := fun W X => by
    obtain ⟨a, b, c, d⟩ := X.k hmo
    rw [S.n]
    exact ⟨a, c, d⟩
  have hhas : Maps.has D (.int .i64 k) = false := by
    have := hW.hasK k
    rw [show (keysOf kv).contains k = false by rw [← Bool.not_eq_true, List.contains_iff_mem]; exact hi] at this
    exact this
  have HWK : Hid (Wh (D.put (.int .i64 k) (.lit (.int .i64 (kv.length : Int)))) (keysOf (kv ++ [(k, v)]))) := by
    have := hW.push hi (by trivial)
    have e : (keysOf kv).length = kv.length := List.length_map _
    rw [e] at this
    have e2 : keysOf (kv ++ [(k, v)]) = keysOf kv ++ [k] := by unfold keysOf; simp
    rw [e2]
    exact this
  have HW := hide hW
  have hkey := keyOf_int_mk Tryz.underlying3 (i64_wf hfk)
  have HSN := hide S.n
  have hrp : r.ptr = .pointer (some ⟨r.blk, 0, none⟩) := rfl
  rw [hrp] at HAS HIN ⊢
  obtain ⟨b, eb⟩ : ∃ b, b = r.blk := ⟨_, rfl⟩
  rw [← eb] at HAS HIN HKC HK1 ⊢
  obtain ⟨len, el⟩ : ∃ len, len = kv.length := ⟨_, rfl⟩
  have HEL := hide el
  rw [← el] at HIN HO HK1
  have hli : (len : Int) ≤ 64 := by have := S.n; omega
  have HLW : Hid ((Lit.int .i64 (len : Int)).wf = true) := nat_wf (i := len) (by omega)
  clear hrp L hf S hi hle hW X0 eb hmo el hfk
  go_enter Tryz.func21, Tryz.ntmps21
  go_wp2_with (first
    | (go_at_call 71; refine (HAS.out _ (Q.refl _)).mono ?_; rintro e w1 ⟨rfl, hq1⟩; have HX1 := hide (HX0.out.q (((Q.refl _).alloc _).trans hq1)); obtain ⟨c2, c4, hbl⟩ := HK1.out _ HX1.out)
    | (at_lookup; go_loud (refine wpList_lookup_own_ok_int _ rfl _ _ 119 rfl 3 3 .i64 lawI Tryz.underlying119 Tryz.underlying3 (zeroI _) mb n D rfl HX1.out.own _ _ rfl hkey ?_; intro c hat hwc; clear hat)))
  have hxc := ext_cell
  refine Ri.wp_region_cut 11 (fun w1 => ∃ k, w1 = ext _ k) (by kernel_rfl) (by kernel_rfl) rfl rfl (ext_of_q (Q.drew (Q.refl _))) ?_
  simp only [List.take_succ_cons, List.take_zero, List.drop_succ_cons, List.drop_zero]
  repeat (go_big_quiet_step ((fail)))
  clear hxc
  refine wpQuiet_nil ?_
  intro w4 hww4
  have hqw4 := q_of_ext hww4
  clear hww4
  obtain ⟨hcw4, hfw4, hzw4⟩ := hqw4.facts
  try simp at hzw4
  have HX4 := hide (HX1.out.q hqw4)
  refine Ri.wp_callP #[.pointer (some ⟨b, 0, none⟩), .int .i64 (len : Int), .agg #[.int .i64 k, .int .i64 v]] rfl (by simp [Act.eval]) Tryz.func74 (by kernel_rfl) (by kernel_rfl) ((HIN.out _ HX4.out).mono ?_)
  rintro e w5 ⟨ok, m5, r5, er, rfl, her, ⟨h5, hX5⟩, hI5, h5n, h5c, h5m⟩
  refine ⟨_, rfl, ?_⟩
  have HX5 := hide hX5
  have HI5 := hide hI5
  have H5N := hide h5n
  have H5C := hide h5c
  have H5M := hide h5m
  clear hX5 hI5 h5n h5c h5m hcw4 hfw4 hzw4 hqw4 c2 c4 hbl
  refine ⟨fun w1 => ∃ k, w1 = ext _ k, ext_of_q (Q.refl _), ?_⟩
  try simp only [Act.put, List.setIfInBounds_toArray, List.set_cons_succ, List.set_cons_zero]
  have hxc := ext_cell
  repeat (go_big_quiet_step ((fail)))
  clear hxc
  refine wpQuiet_nil ?_
  intro w6 hww6
  have hqw6 := q_of_ext hww6
  clear hww6
  obtain ⟨hcw6, hfw6, hzw6⟩ := hqw6.facts
  try simp at hzw6
  have HX6 := hide (HX5.out.q hqw6)
  clear hcw6 hfw6 hzw6 hqw6
  cases ok
  · have HER : Hid (er = 3) := her
    have hd3 : (er == 0) = false := by rw [HER.out]; decide
    clear her
    have HOO := hide (HO.out _ _ false HI5.out H5N.out H5C.out)
    go_wp2_with fail
    refine bodyPost_ret (results_tmp3 rfl _ _) rfl ⟨false, m5, r5, n, D, h5, by rw [← show er = 3 from HER.out]; rfl, HX6.out, by omega, HW.out, H5M.out, HOO.out⟩
  · have HER : Hid (er = 0) := her
    have hd3 : (er == 0) = true := by rw [HER.out]; decide
    clear her
    have HOO := hide (HO.out _ _ true HI5.out H5N.out H5C.out)
    obtain ⟨c2', c4, hbl⟩ := HKC.out _ _ _ _ HX6.out H5M.out
    have c2 : w6.cell? ⟨b, 2, none⟩ = some (.int .i64 ((len : Int) + 1)) := by rw [c2', H5N.out, ← HSN.out, ← HEL.out]; rfl
    clear c2'
    go_wp2_with fail
    have hxc := ext_cell
    refine Ri.wp_region_cut 11 (fun w1 => ∃ k, w1 = ext _ k) (by kernel_rfl) (by kernel_rfl) rfl rfl (ext_of_q (Q.drew (Q.refl _))) ?_
    simp only [List.take_succ_cons, List.take_zero, List.drop_succ_cons, List.drop_zero]
    repeat (go_big_quiet_step ((fail)))
    clear hxc
    refine wpQuiet_nil ?_
    intro w7 hww7
    have hqw7 := q_of_ext hww7
    clear hww7
    obtain ⟨hcw7, hfw7, hzw7⟩ := hqw7.facts
    try simp at hzw7
    have HX7 := hide (HX6.out.q hqw7)
    obtain ⟨w8, hrun, own8, tn8⟩ := HX7.out.own.store lawI Tryz.underlying119 (show n < maxLen by simp only [maxLen]; omega) hkey (plainElem_int (H := Unit) Tryz.underlying3 HLW.out)
    have HX8 := hide (HX7.out.grown tn8.grown own8)
    refine Ri.wp_skipP (w' := w8) (by unfold execOp; simp [Act.eval, hrun, Result.andThen]) ?_
    clear hrun own8 tn8 hcw7 hfw7 hzw7 hqw7 c2 c4 hbl
    refine ⟨fun w1 => ∃ k, w1 = ext _ k, ext_of_q (Q.refl _), ?_⟩
    try simp only [Act.put, List.setIfInBounds_toArray, List.set_cons_succ, List.set_cons_zero]
    have hxc := ext_cell
    repeat (go_big_quiet_step ((fail)))
    clear hxc
    refine wpQuiet_nil ?_
    intro w9 hww9
    have hqw9 := q_of_ext hww9
    clear hww9
    obtain ⟨hcw9, hfw9, hzw9⟩ := hqw9.facts
    try simp at hzw9
    have HX9 := hide (HX8.out.q hqw9)
    clear hcw9 hfw9 hzw9 hqw9
    go_wp2_with fail
    rw [← HEL.out] at HWK
    refine bodyPost_ret (results_tmp3 rfl _ _) rfl ⟨true, m5, r5, n + 1, _, h5, rfl, HX9.out, Nat.le_refl _, HWK.out, H5M.out, HOO.out⟩
end
end Go.Proofs.YtdaklffbfadghaaGreat

namespace Go.Proofs.YtdaklffbfadghaaGreat
open Go.RowKit HP Go.Maps
set_option linter.unusedVariables false
set_option linter.unusedSimpArgs false
section
variable {w W W2 : World} {h h1 : Hp} {r r1 : Rw} {mb n : Nat} {m : HM} {D : DM} {kv : List (Int × Int)} {v v2 : Value}
/-- what Get says -/
def GetO (kv : List (Int × Int)) (k v : Int) (is : Bool) (err : Int) : Prop :=
  (fitsB k = false ∧ v = 0 ∧ is = false ∧ err = 1) ∨ (fitsB k = true ∧ (∃ i : Nat, kv[i]? = some (k, v)) ∧ is = true ∧ err = 0) ∨ (fitsB k = true ∧ k ∉ keysOf kv ∧ v = 0 ∧ is = false ∧ err = 0)
theorem Wh.no {k : Int} (hW : Wh D (keysOf kv)) (hi : k ∉ keysOf kv) : Maps.has D (.int .i64 k) = false := by
  have := hW.hasK k
  rw [show (keysOf kv).contains k = false by rw [← Bool.not_eq_true, List.contains_iff_mem]; exact hi] at this
  exact this
theorem Wh.yes {k u : Int} {i : Nat} (hW : Wh D (keysOf kv)) (hi : kv[i]? = some (k, u)) : Maps.has D (.int .i64 k) = true := by
  have := hW.hasK k
  rw [show (keysOf kv).contains k = true by rw [List.contains_iff_mem]; exact List.mem_of_getElem? (keys_at hi)] at this
  exact this
/-! with a row of the walk's own that grows -/
def MV (w : World) (h : Hp) (r : Rw) (mb : Nat) (W : World) (m : HM) (r1 : Rw) (n : Nat) (D : DM) (v : Value) : Prop := ∃ h1, MS w h r mb W m r1 n D h1 ∧ ∀ g, v.ownBlock = some g → ¬ h1.fp g ∧ ¬ r1.fp g ∧ g ≠ mb
theorem MV.start (X : MS w h r mb W m r1 n D h1) (hv : v.ownBlock = none) : MV w h r mb W m r1 n D v := ⟨h1, X, fun g hg => by rw [hv] at hg; cases hg⟩
theorem MV.call (X : MV w h r mb W m r1 n D v) {B e s k : Nat} {xs : List Value} (hv : W.ownsRow B e s v k xs) {f : FuncId} {args : Array Value} {P : Ending → World → HM → Rw → Prop}
    (hc : ∀ h1, LR W h1 r1 → h1.m = m → h1.ptr = h.ptr → h1.calls = m.calls → Calls Tryz.prog f args W fun e W' => ∃ m2 r2, LS W h1 r1 W' m2 r2 ∧ P e W' m2 r2) :
    Calls Tryz.prog f args W fun en W' => ∃ m2 r2, MV w h r mb W' m2 r2 n D v ∧ W'.ownsRow B e s v k xs ∧ P en W' m2 r2 := by
  obtain ⟨h1, Y, ha⟩ := X
  refine (hc h1 Y.lr Y.hm Y.ptr (by rw [← Y.hm]; rfl)).mono ?_
  rintro e2 W' ⟨m2, r2, S, hP⟩
  have hl : ∀ g, v.ownBlock = some g → g < W.heap.size := fun g hg => (hv.lt g hg).2
  obtain ⟨h2, D2, em⟩ := S
  obtain ⟨h3, Y3⟩ := Y.act (show LS W h1 r1 W' m2 r2 from ⟨h2, D2, em⟩)
  have hh : ∃ h3, MS w h r mb W' m2 r2 n D h3 ∧ ∀ g, v.ownBlock = some g → ¬ h3.fp g ∧ ¬ r2.fp g ∧ g ≠ mb := by
    have hmb := Y.own.lt
    obtain ⟨a1, a2, a3⟩ := D2.apart hmb Y.ap.1 Y.ap.2
    have hk : World.keeps W' mb n D := by
      obtain ⟨es, clock, hb, hr⟩ := Y.own
      exact ⟨es, clock, a1.trans hb, hr⟩
    refine ⟨h2, ⟨D2.lr, em, D2.hb.trans Y.hb, D2.rb.trans Y.rb, D2.rt.trans Y.rt, Y3.turn, fun b e => ?_, Y3.rf, hk, a2, a3⟩, fun g hg => ?_⟩
    · rcases D2.hf b e with e | e
      · exact Y.hf b e
      · exact .inr (Nat.le_trans Y.turn.size e)
    · obtain ⟨-, b2, b3⟩ := D2.apart (hl g hg) (ha g hg).1 (ha g hg).2.1
      exact ⟨b2, b3, (ha g hg).2.2⟩
  exact ⟨m2, r2, hh, own_same hv fun g hg => (D2.apart (hl g hg) (ha g hg).1 (ha g hg).2.1).1, hP⟩
theorem MV.grown (X : MV w h r mb W m r1 n D v) (hg : W.grownBy W2 v.ownBlock) (hb : ∀ g, v.ownBlock = some g → w.heap.size ≤ g) (hn : ∀ g, v2.ownBlock = some g → v.ownBlock = some g ∨ W.heap.size ≤ g) : MV w h r mb W2 m r1 n D v2 := by
  obtain ⟨h1, Y, ha⟩ := X
  have L := Y.lr
  have keep : ∀ g, g < W.heap.size → ¬ v.ownBlock = some g → W2.heap[g]? = W.heap[g]? := fun g h1 h2 => hg.block g h1 fun e => h2 e.symm
  have k1 : ∀ g, h1.fp g → W2.heap[g]? = W.heap[g]? := fun g hf => keep g (L.heap.lt g hf) fun e => (ha g e).1 hf
  have k2 : ∀ g, r1.fp g → W2.heap[g]? = W.heap[g]? := fun g hf => keep g (L.rlt g hf) fun e => (ha g e).2.1 hf
  have k3 := keep mb Y.own.lt fun e => (ha mb e).2.2 rfl
  have hk : World.keeps W2 mb n D := by
    obtain ⟨es, clock, hb, hr⟩ := Y.own
    exact ⟨es, clock, k3.trans hb, hr⟩
  refine ⟨h1, ⟨⟨L.heap.same k1, L.mu, (k2 _ (.inl rfl)).trans L.cells, own_same L.pcs fun g hg => k2 g (.inr hg), L.ap1, L.ap2⟩, Y.hm, Y.hb, Y.rb, Y.rt, Y.turn.grown hg fun k hk hlt => absurd (hb k hk) (by omega), Y.hf, Y.rf, hk, Y.ap⟩, fun g hg2 => ?_⟩
  rcases hn g hg2 with h3 | h3
  · exact ha g h3
  · exact ⟨fun e => by have := L.heap.lt g e; omega, fun e => by have := L.rlt g e; omega, fun e => by have := Y.own.lt; omega⟩
set_option maxHeartbeats 4000000 in
set_option maxRecDepth 100000 in
theorem keysM_any (L : LR w h r) (S : MapR h.m r kv) (X0 : MS w h r mb w h.m r n D h) (hmo : r.more = [.map (some mb)]) :
    Calls Tryz.prog 34 #[r.ptr] w fun e w' => ∃ v, e = .returned v ∧ w'.ownsRow w.heap.size 3 1 v kv.length (intsV (keysOf kv)) ∧ ∃ h2, MS w h r mb w' h.m r n D h2 := by
  have HX0 := hide X0
  have HAS : Hid (∀ W : World, Q w W → Calls Tryz.prog 71 #[r.ptr, .slice none 0 0] W fun e w' => e = .returned (.int .i64 0) ∧ Q W w') := fun W hq => askedM_zero L S.op W hq
  have HRM : Hid (∀ W (j : Nat) x v n1 ys, MV w h r mb W h.m r n D v → W.ownsRow w.heap.size 3 1 v n1 ys → kv[j]? = some x → Calls Tryz.prog 72 #[r.ptr, .int .i64 j] W fun e W' => e = .returned (.agg #[.int .i64 x.1, .int .i64 x.2]) ∧ MV w h r mb W' h.m r n D v ∧ W'.ownsRow w.heap.size 3 1 v n1 ys) := fun W j x v n1 ys X hown hv => by
    have h1 := (List.getElem?_eq_some_iff.1 hv).1
    have h2 := S.le
    have h3 := S.n
    refine (X.call hown (P := fun e W' m2 r2 => e = .returned (.agg #[.int .i64 x.1, .int .i64 x.2]) ∧ m2 = h.m ∧ r2 = r) fun h1 L1 e1 e2 _ => ?_).mono ?_
    · refine (read2_any L1 (by rw [e1]; exact S.inv) j (by omega) (by rw [e1]; exact S.kp.row j _ (two_at hv)) (S.bd _ (List.mem_of_getElem? (two_at hv)))).mono ?_
      rintro e W' ⟨he, hX⟩
      rw [e1] at hX
      exact ⟨h.m, r, hX, he, rfl, rfl⟩
    · rintro e W' ⟨m2, r2, hX, ho, he, rfl, rfl⟩
      exact ⟨he, hX, ho⟩
  have HK1 : Hid (∀ W, MS w h r mb W h.m r n D h → W.cell? ⟨r.blk, 2, none⟩ = some (.int .i64 (kv.length : Int)) ∧ r.blk < W.heap.size) := fun W X => by
    obtain ⟨a, b, c, d⟩ := X.k hmo
    rw [S.n]
    exact ⟨a, d⟩
  have hle := S.le
  rw [← S.n] at hle
  have hrp : r.ptr = .pointer (some ⟨r.blk, 0, none⟩) := rfl
  rw [hrp] at HAS HRM ⊢
  obtain ⟨b, eb⟩ : ∃ b, b = r.blk := ⟨_, rfl⟩
  rw [← eb] at HAS HRM HK1 ⊢
  obtain ⟨len, en⟩ : ∃ len, len = kv.length := ⟨_, rfl⟩
  have HEN := hide en
  rw [← en] at hle HK1 ⊢
  have hni : (len : Int) ≤ 64 := by omega
  clear hrp eb S L en X0 hmo
  go_enter Tryz.func34, Tryz.ntmps34
  go_wp2_with (go_at_call 71; refine (HAS.out _ (Q.refl _)).mono ?_; rintro e w1 ⟨rfl, hq1⟩; have HX1 := hide (HX0.out.q hq1); obtain ⟨c2, hbl⟩ := HK1.out _ HX1.out)
  go_loopw [3, 13] (fun v vi wr => ∃ k : Nat, k ≤ len ∧ vi = .int .i64 (k : Int) ∧ wr.ownsRow w.heap.size 3 1 v k (intsV ((keysOf kv).take k)) ∧ w.heap.size ≤ wr.heap.size ∧ MV w h r mb wr h.m r n D v) (fun _ vi _ => len - (intOf vi).toNat)
  case atStart => exact ⟨0, by omega, by go_num, World.ownsRow_nil _ _ _ _, hq1.size, MV.start HX1.out rfl⟩
  case round =>
    obtain ⟨k, hk, rfl, hown, hsz, hX⟩ := hrel
    have HX := hide hX
    clear hX
    by_cases hlt : k < len
    · have hd1 : decide ((k : Int) < (len : Int)) = true := by simp; omega
      have hd0 : decide (k < len) = true := by simp; omega
      have hlti : (k : Int) < (len : Int) := by omega
      obtain ⟨⟨x, y⟩, hx⟩ : ∃ x, kv[k]? = some x := ⟨kv[k]'(by rw [← HEN.out]; exact hlt), List.getElem?_eq_getElem _⟩
      have HXK := hide hx
      have HT : Hid (intsV ((keysOf kv).take (k + 1)) = intsV ((keysOf kv).take k) ++ [.int .i64 x]) := by
        obtain ⟨h1, h2⟩ := List.getElem?_eq_some_iff.1 (keys_at hx)
        unfold intsV
        rw [List.take_succ_eq_append_getElem h1, h2, List.map_append]
        rfl
      have hix : ∀ w', (Instr.index 64 (.agg #[.int .i64 x, .int .i64 y]) (.int .i64 0)).run Tryz.prog w' = .ok (.int .i64 x) w' := fun w' => run_idx_arr (k := 0) Tryz.underlying64 (by kernel_rfl) (by kernel_rfl) (by decide) rfl w'
      obtain ⟨A, c, ev, -⟩ := own_form hown
      subst ev
      have HOWN := hide hown
      clear hx hown
      go_wp2_with (first
        | (go_at_call 72; refine (HRM.out _ k (x, y) _ _ _ HX.out HOWN.out HXK.out).mono ?_; rintro e w3 ⟨rfl, hX3, hown3⟩; have HX3 := hide hX3; have hs3 : w.heap.size ≤ w3.heap.size := (by obtain ⟨h9, X9, -⟩ := hX3; exact X9.turn.size); clear hX3)
        | (at_builtin; go_loud (refine wpList_app1b rfl El_int _ _ rfl rfl hown3 rfl rfl rfl ?_ ?_ ?_ ?_; (focus (simp [Value.oneCell'])); (focus omega); (focus omega); intro v1 w7 hown7 hg7 hn7)))
      go_roundw
      case rel =>
        have hb9 : ∀ g, Value.ownBlock (.slice A k c) = some g → w.heap.size ≤ g := fun g hg => (hown3.lt g hg).1
        exact ⟨k + 1, by omega, by go_num, by rw [HT.out]; exact hown7, Nat.le_trans hs3 hg7.size, HX3.out.grown hg7 hb9 hn7⟩
      case measure => simp [intOf] <;> omega
    · have hd1 : decide ((k : Int) < (len : Int)) = false := by simp; omega
      have hd0 : decide (k < len) = false := by simp; omega
      obtain rfl : k = len := by omega
      have HOWN := hide hown
      clear hown
      go_wp2_with fail
      go_ret
      have ho := HOWN.out
      rw [List.take_of_length_le (by rw [HEN.out]; unfold keysOf; rw [List.length_map]; exact Nat.le_refl _)] at ho
      obtain ⟨h9, X9, -⟩ := HX.out
      exact ⟨_, rfl, ho, h9, X9⟩
end
end Go.Proofs.YtdaklffbfadghaaGreat

namespace Go.Proofs.YtdaklffbfadghaaGreat
open Go.RowKit HP Go.Maps
set_option linter.unusedVariables false
set_option linter.unusedSimpArgs false
section
variable {w W W2 : World} {h h1 : Hp} {r r1 : Rw} {mb n : Nat} {m : HM} {D : DM} {kv : List (Int × Int)} {v v2 : Value}
theorem MS.remove2 (X : MS w h r mb W m r1 n D h1) (I : Inv m) {Ls : List (List Int)} (K : Kp m 2 r1.ps Ls) (hl : Ls.length = r1.n) (hb : BdL Ls) (i : Nat) {a b : Int} (hrow : Ls[i]? = some [a, b]) :
    Calls Tryz.prog 76 #[r.ptr, .int .i64 i] W fun e W' => e = .returned (.agg #[.int .i64 a, .int .i64 b]) ∧ ∃ m2 r2 h2, MS w h r mb W' m2 r2 n D h2 ∧ Remd m m2 2 r1.ps r2.ps Ls i ∧ r2.n + 1 = r1.n ∧ r2.closed = r1.closed ∧ r2.more = r1.more := by
  have hrb := X.rb
  refine (X.call (P := fun e W' m2 r2 => e = .returned (.agg #[.int .i64 a, .int .i64 b]) ∧ Remd m m2 2 r1.ps r2.ps Ls i ∧ r2.n + 1 = r1.n ∧ r2.closed = r1.closed ∧ r2.more = r1.more) fun h3 L e1 e2 e3 => ?_).mono ?_
  · have := remove2_any L (by rw [e1]; exact I) (by rw [e1]; exact K) hl hb i hrow
    unfold Rw.ptr at this ⊢
    rw [hrb, e1] at this
    refine this.mono ?_
    rintro e W' ⟨m', r2, he, hX, hG⟩
    exact ⟨m', r2, hX, he, hG⟩
  · rintro e W' ⟨m2, r2, h2, hX, he, hG⟩
    exact ⟨he, m2, r2, h2, hX, hG⟩
/-- what Delete says -/
def DelO (m m' : HM) (r r2 : Rw) (kv kv2 : List (Int × Int)) (k v : Int) (is : Bool) (err : Int) : Prop :=
  (fitsB k = false ∧ v = 0 ∧ is = false ∧ err = 1 ∧ m' = m ∧ r2 = r ∧ kv2 = kv) ∨
  (fitsB k = true ∧ k ∉ keysOf kv ∧ v = 0 ∧ is = false ∧ err = 0 ∧ m' = m ∧ r2 = r ∧ kv2 = kv) ∨
  (fitsB k = true ∧ is = true ∧ err = 0 ∧ ∃ i : Nat, kv[i]? = some (k, v) ∧ kv2 = delAt kv i 1 ∧ MapR m' r2 kv2 ∧ Remd m m' 2 r.ps r2.ps (two kv) i)
theorem delO_of {m m' : HM} {r2 : Rw} {i : Nat} {k u : Int} (S : MapR m r kv) (hf : fitsB k = true) (hi : kv[i]? = some (k, u)) (R : Remd m m' 2 r.ps r2.ps (two kv) i) (h2n : r2.n + 1 = r.n) (h2c : r2.closed = r.closed) : DelO m m' r r2 kv (delAt kv i 1) k u true 0 := by
  have hil := (List.getElem?_eq_some_iff.1 hi).1
  refine .inr (.inr ⟨hf, rfl, rfl, i, hi, rfl, ⟨R.inv, by rw [← two_del]; exact R.kp, ?_, h2c.trans S.op, fun x hx => S.fit x (delAt_mem hx), ?_⟩, R⟩)
  · have := S.n
    rw [delAt_len _ _ _ (by omega)]
    omega
  · have := S.nd
    unfold keysOf at this ⊢
    rw [delAt_map]
    exact this.sublist (delAt_sub _ _ _)
set_option maxHeartbeats 4000000 in
set_option maxRecDepth 100000 in
theorem delM_none (L : LR w h r) (S : MapR h.m r kv) (X0 : MS w h r mb w h.m r n D h) (hmo : r.more = [.map (some mb)]) (hW : Wh D (keysOf kv)) (k : Int) (hk : fitsB k = false ∨ k ∉ keysOf kv) :
    Calls Tryz.prog 23 #[r.ptr, .int .i64 k] w fun e w' => e = .returned (.tuple #[.int .i64 0, .bool false, .int .i64 (if fitsB k then 0 else 1)]) ∧ ∃ h2, MS w h r mb w' h.m r n D h2 := by
  have HAS : Hid (∀ W : World, Q w W → Calls Tryz.prog 71 #[r.ptr, .slice (some ⟨W.heap.size, 0, none⟩) 1 1] (W.alloc (.cells #[.int .i64 k] 3)) fun e w' => e = .returned (.int .i64 (if fitsB k then 0 else 1)) ∧ Q (W.alloc (.cells #[.int .i64 k] 3)) w') := fun W hq => askedM_one L S.op k W hq
  have HX0 := hide X0
  have HKC : Hid (∀ W, MS w h r mb W h.m r n D h → W.cell? ⟨r.blk, 4, none⟩ = some (.map (some mb)) ∧ r.blk < W.heap.size) := fun W X => ⟨(X.k hmo).2.2.1, (X.k hmo).2.2.2⟩
  have HW := hide hW
  have hrp : r.ptr = .pointer (some ⟨r.blk, 0, none⟩) := rfl
  rw [hrp] at HAS ⊢
  obtain ⟨b, eb⟩ : ∃ b, b = r.blk := ⟨_, rfl⟩
  rw [← eb] at HAS HKC ⊢
  clear hrp L S hW X0 eb hmo
  cases hf : fitsB k
  · rw [hf] at HAS
    have HAS : Hid (∀ W : World, Q w W → Calls Tryz.prog 71 #[.pointer (some ⟨b, 0, none⟩), .slice (some ⟨W.heap.size, 0, none⟩) 1 1] (W.alloc (.cells #[.int .i64 k] 3)) fun e w' => e = .returned (.int .i64 1) ∧ Q (W.alloc (.cells #[.int .i64 k] 3)) w') := HAS
    clear hf hk
    go_enter Tryz.func23, Tryz.ntmps23
    go_wp2_with (go_at_call 71; refine (HAS.out _ (Q.refl _)).mono ?_; rintro e w1 ⟨rfl, hq1⟩)
    refine bodyPost_ret (results_tmp3 rfl _ _) rfl ?_
    exact ⟨rfl, _, HX0.out.q (((Q.refl _).alloc _).trans hq1)⟩
  · have hkey := keyOf_int_mk Tryz.underlying3 (i64_wf hf)
    have hk : k ∉ keysOf kv := hk.resolve_left (by rw [hf]; decide)
    rw [hf] at HAS
    have HAS : Hid (∀ W : World, Q w W → Calls Tryz.prog 71 #[.pointer (some ⟨b, 0, none⟩), .slice (some ⟨W.heap.size, 0, none⟩) 1 1] (W.alloc (.cells #[.int .i64 k] 3)) fun e w' => e = .returned (.int .i64 0) ∧ Q (W.alloc (.cells #[.int .i64 k] 3)) w') := HAS
    have hhas := HW.out.no hk
    clear hk hf
    go_enter Tryz.func23, Tryz.ntmps23
    go_wp2_with (first
      | (go_at_call 71; refine (HAS.out _ (Q.refl _)).mono ?_; rintro e w1 ⟨rfl, hq1⟩; have HX1 := hide (HX0.out.q (((Q.refl _).alloc _).trans hq1)); obtain ⟨c4, hbl⟩ := HKC.out _ HX1.out)
      | (at_lookup; refine wpList_lookup_own_ok_int _ rfl _ _ 119 rfl 3 3 .i64 lawI Tryz.underlying119 Tryz.underlying3 (zeroI _) mb n D rfl HX1.out.own _ _ rfl hkey ?_; intro c hat hwc; clear hat))
    refine bodyPost_ret (results_tmp3 rfl _ _) rfl ⟨rfl, _, HX1.out⟩
set_option maxHeartbeats 4000000 in
set_option maxRecDepth 100000 in
theorem delM_found (L : LR w h r) (S : MapR h.m r kv) (X0 : MS w h r mb w h.m r n D h) (hmo : r.more = [.map (some mb)]) (hW : Wh D (keysOf kv)) (k : Int) (hf : fitsB k = true) (i : Nat) (u : Int) (hi : kv[i]? = some (k, u)) :
    Calls Tryz.prog 23 #[r.ptr, .int .i64 k] w fun e w' => e = .returned (.tuple #[.int .i64 u, .bool true, .int .i64 0]) ∧ ∃ m' r2 D2 h2, MS w h r mb w' m' r2 n D2 h2 ∧ Wh D2 (keysOf (delAt kv i 1)) ∧ r2.more = r.more ∧ DelO h.m m' r r2 kv (delAt kv i 1) k u true 0 := by
  have HAS : Hid (∀ W : World, Q w W → Calls Tryz.prog 71 #[r.ptr, .slice (some ⟨W.heap.size, 0, none⟩) 1 1] (W.alloc (.cells #[.int .i64 k] 3)) fun e w' => e = .returned (.int .i64 0) ∧ Q (W.alloc (.cells #[.int .i64 k] 3)) w') := fun W hq => by
    have := askedM_one L S.op k W hq
    rw [hf] at this
    exact this
  have HRM : Hid (∀ W, MS w h r mb W h.m r n D h → Calls Tryz.prog 76 #[r.ptr, .int .i64 i] W fun e W' => e = .returned (.agg #[.int .i64 k, .int .i64 u]) ∧ ∃ m2 r2 h2, MS w h r mb W' m2 r2 n D h2 ∧ Remd h.m m2 2 r.ps r2.ps (two kv) i ∧ r2.n + 1 = r.n ∧ r2.closed = r.closed ∧ r2.more = r.more) := fun W X => X.remove2 S.inv S.kp (by rw [two_len]; exact S.n) S.bd i (two_at hi)
  have HO : Hid (∀ m2 r2, Remd h.m m2 2 r.ps r2.ps (two kv) i → r2.n + 1 = r.n → r2.closed = r.closed → DelO h.m m2 r r2 kv (delAt kv i 1) k u true 0) := fun m2 r2 R h1 h2 => delO_of S hf hi R h1 h2
  have HX0 := hide X0
  have HKC : Hid (∀ W m1 r1 D1 h1, MS w h r mb W m1 r1 n D1 h1 → r1.more = r.more → W.cell? ⟨r.blk, 4, none⟩ = some (.map (some mb)) ∧ r.blk < W.heap.size) := fun W m1 r1 D1 h1 X e => ⟨(X.k (e.trans hmo)).2.2.1, (X.k (e.trans hmo)).2.2.2⟩
  have hhas := hW.yes hi
  have HAT : Hid (D.atKey (.int .i64 k) (.lit (.int .i64 0)) = .lit (.int .i64 (i : Int))) := hW.atK i k (keys_at hi) _
  have hkey := keyOf_int_mk Tryz.underlying3 (i64_wf hf)
  have HMID := hide (WhMid.start hW k i)
  have HND := hide S.nd
  have HKI := hide (keys_at hi)
  have HDK : Hid (keysOf (delAt kv i 1) = delAt (keysOf kv) i 1) := delAt_map _ _ _ _
  have hle := S.le
  rw [← S.n] at hle
  have hil := (List.getElem?_eq_some_iff.1 hi).1
  have hii : (i : Int) ≤ 64 := by omega
  have HKL : Hid ((keysOf kv).length ≤ 64) := by show (keysOf kv).length ≤ 64; unfold keysOf; rw [List.length_map]; exact hle
  have hrp : r.ptr = .pointer (some ⟨r.blk, 0, none⟩) := rfl
  rw [hrp] at HAS HRM ⊢
  obtain ⟨b, eb⟩ : ∃ b, b = r.blk := ⟨_, rfl⟩
  rw [← eb] at HAS HRM HKC ⊢
  clear hrp L hf S hi hW X0 eb hmo hil hle
  go_enter Tryz.func23, Tryz.ntmps23
  go_wp2_with (first
    | (go_at_call 71; refine (HAS.out _ (Q.refl _)).mono ?_; rintro e w1 ⟨rfl, hq1⟩; have HX1 := hide (HX0.out.q (((Q.refl _).alloc _).trans hq1)); obtain ⟨c4, hbl⟩ := HKC.out _ _ _ _ _ HX1.out rfl)
    | (at_lookup; refine wpList_lookup_own_ok_int _ rfl _ _ 119 rfl 3 3 .i64 lawI Tryz.underlying119 Tryz.underlying3 (zeroI _) mb n D rfl HX1.out.own _ _ rfl hkey ?_; intro c hat hwc; obtain rfl : c = (i : Int) := i64_inj (hat.symm.trans HAT.out); clear hat)
    | (go_at_call 76; go_loud (refine (HRM.out _ HX1.out).mono ?_; rintro e w3 ⟨rfl, m3, r3, h3, hX3, hR3, h3n, h3c, h3m⟩; have HX3 := hide hX3; have HR3 := hide hR3; have H3N := hide h3n; have H3C := hide h3c; have H3M := hide h3m; have HX4 := hide (hX3.q ((Q.refl w3).alloc (.cells #[.int .i64 k, .int .i64 u] 64))); obtain ⟨c34, hbl3⟩ := HKC.out _ _ _ _ _ HX4.out h3m; have hne3 := (fun e => HX4.out.ap.2 (.inl (by rw [HX4.out.rb]; exact e)) : ¬ mb = r.blk); clear hX3 hR3 h3n h3c h3m))
    | (at_delete; go_loud (refine wpList_delete_own _ rfl _ _ 119 3 rfl 3 lawI Tryz.underlying119 _ mb n D rfl HX4.out.own _ _ rfl hkey ?_; intro w5 hown5 hturn5; have HX5 := hide (HX4.out.grown hturn5.grown hown5); have HOW5 := hide hown5; have q12 := (hturn5.grown.block w3.heap.size (by simp) (by intro e; injection e with e; have := HX3.out.own.lt; omega)).trans (heap_alloc_new w3 _); have HQ12 := hide q12; obtain ⟨c54, hbl5⟩ := HKC.out _ _ _ _ _ HX5.out H3M.out; clear hturn5 hown5 q12))
    | (at_range; go_loud (refine wpList_range_own _ rfl _ 119 rfl 3 3 lawI Tryz.underlying119 _ mb n _ rfl HOW5.out ?_; intro w6 hrg6 hg6 hs6)))
  go_frame
  have HS6 := hide (hg6.but (some mb))
  obtain ⟨g12, eg12⟩ : ∃ g12, g12 = w3.heap.size := ⟨_, rfl⟩
  rw [← eg12] at HQ12 ⊢
  have hg12 : g12 < w5.heap.size := blk_lt HQ12.out
  have hmb12 : g12 ≠ mb := fun e => by
    have h1 := HQ12.out
    obtain ⟨es, clock, h2, -⟩ := HOW5.out
    rw [e, h2] at h1
    cases h1
  have hmbb : b ≠ mb := fun e => by
    obtain ⟨es, clock, h2, -⟩ := HOW5.out
    unfold World.cell? at c54
    rw [e] at c54
    dsimp only at c54
    rw [h2] at c54
    simp at c54
  have HC5 := hide c54
  have HB5 := hide hbl5
  clear eg12 hg6 hs6 c34 hbl3 hne3 c4 hbl hhas hwc HAT HX4 c54 hbl5 HAS HRM HX0 HX1 hq1
  go_loopw [12] (fun _ wr => ∃ (left : Lit → Bool) (cnt : Nat) (D1 : DM), wr.ranges Tryz.prog 3 (plainElem Tryz.prog 3) mb w5.heap.size n D1 left cnt ∧ w5.grownBy wr (some mb) ∧ WhMid D1 (keysOf kv) k i left) (fun _ wr => wr.rangeLeft mb w5.heap.size)
  case atStart => exact ⟨_, _, _, hrg6, HS6.out, HMID.out⟩
  case round =>
    obtain ⟨left, cnt, D1, hrg, hgw, hmid⟩ := hrel
    have HGW := hide hgw
    have HMI := hide hmid
    have c4 : wr.cell? ⟨b, 4, none⟩ = some (.map (some mb)) := (World.cell?_of_block (hgw.block b HB5.out (fun e => by injection e with e; exact hmbb e))).trans HC5.out
    have hbl : b < wr.heap.size := Nat.lt_of_lt_of_le HB5.out hgw.size
    have c12 : wr.cell? ⟨g12, 1, none⟩ = some (.int .i64 u) := by
      rw [World.cell?_of_block (hgw.block g12 hg12 (fun e => by injection e with e; exact hmb12 e)), cell_of_row _ _ _ _ _ _ HQ12.out]
      rfl
    clear hgw hmid
    go_wp2_with (at_next; refine wpList_next_ranges_ii _ rfl _ rfl 3 3 .i64 .i64 lawI Tryz.underlying3 Tryz.underlying3 mb w5.heap.size n _ _ _ rfl hrg ?_ ?_)
    · intro _ hl0
      have HL0 := hide hl0
      clear hl0
      go_wp2_with fail
      have HM := HMI.out.done HND.out HKI.out HL0.out
      rw [← HDK.out] at HM
      refine bodyPost_ret (results_tmp3 rfl _ _) rfl ⟨rfl, m3, r3, D1, h3, HX5.out.grown HGW.out hrg.owns, HM, H3M.out, HO.out _ _ HR3.out H3N.out H3C.out⟩
    · intro x c w7 cnt1 hwx hwc hlx hat hrg1 hlt hg1 hs1 hen
      obtain ⟨j, hj, hv⟩ := HMI.out.value (y := x) hlx
      obtain rfl : c = (j : Int) := i64_inj ((hat (.lit (.int .i64 0))).symm.trans (hv (.lit (.int .i64 0))))
      have hjl := (List.getElem?_eq_some_iff.1 hj).1
      have hj64 : j < 64 := Nat.lt_of_lt_of_le hjl HKL.out
      have hji : (j : Int) ≤ 64 := by omega
      have HJ := hide hj
      have HLX := hide hlx
      have HGW1 : Hid (w5.grownBy w7 (some mb)) := HGW.out.andThen hg1 (fun q hq => by cases hq; exact Or.inl (Nat.le_refl _))
      have c47 : w7.cell? ⟨b, 4, none⟩ = some (.map (some mb)) := (World.cell?_of_block (HGW1.out.block b HB5.out (fun e => by injection e with e; exact hmbb e))).trans HC5.out
      have hbl7 : b < w7.heap.size := Nat.lt_of_lt_of_le HB5.out HGW1.out.size
      have hthere : Maps.has D1 (.int .i64 x) = true := by
        have h1 := HMI.out.lf x hlx
        have h2 := HMI.out.hasK x
        rw [show (keysOf kv).contains x = true by rw [List.contains_iff_mem]; exact h1.1] at h2
        have h2' : Maps.has D1 (.int .i64 x) = (true && !decide (x = k)) := h2
        rw [h2']
        simp [h1.2]
      have HTH := hide hthere
      clear hv hat hj hlx hg1 c4 hbl c12 hthere hjl
      by_cases hij : i < j
      · have hd1 : decide ((i : Int) < (j : Int)) = true := by simp; omega
        have hwf : (Lit.int .i64 ((j : Int) - 1)).wf = true := WalkArith.wf_i64 (by omega)
        have hj1 : (1 : Int) ≤ (j : Int) := by omega
        go_wp2_with (at_mapUpdate; go_loud (refine wpList_mapUpdate_ranges _ rfl _ _ _ 119 rfl 3 3 lawI Tryz.underlying119 _ mb w5.heap.size n D1 _ _ rfl hrg1 _ _ _ rfl rfl (keyOf_int_mk Tryz.underlying3 hwx) _ [] (plainElem_int Tryz.underlying3 hwf) HTH.out ?_; intro w8 hrg8 hturn8; go_frame))
        go_roundw
        case rel => exact ⟨_, cnt1, _, hrg8, HGW1.out.andThen hturn8.grown (fun q hq => by cases hq; exact Or.inr rfl), HMI.out.less HND.out HLX.out HJ.out hij trivial⟩
        case measure => rw [hrg8.left_eq, hrg.left_eq]; omega
      · have hd1 : decide ((i : Int) < (j : Int)) = false := by simp; omega
        go_wp2_with fail
        go_roundw
        case rel => exact ⟨_, cnt1, _, hrg1, HGW1.out, HMI.out.keep HND.out HJ.out hij⟩
        case measure => rw [hrg1.left_eq, hrg.left_eq]; exact hlt
end
end Go.Proofs.YtdaklffbfadghaaGreat

namespace Go.Proofs.YtdaklffbfadghaaGreat
open Go.RowKit HP Go.Maps
set_option linter.unusedVariables false
set_option linter.unusedSimpArgs false
theorem run_clear_map {P : Program} {t e k ty : TypeId} {w : World} {mb : Nat} {es : Array MapEntry} {clock : Nat} (ht : P.underlying t = some (.map k e)) (hb : w.heap[mb]? = some (.map es clock)) :
    (Builtin.clear_ #[t] ty #[.map (some mb)]).run P w = .ok (.tuple #[]) { w with heap := w.heap.setIfInBounds mb (.map #[] clock) } := by
  simp [Builtin.clear_, run_underlying ht, MapKept.run_getObj_map hb, MapKept.run_setObj_map _ hb, Result.andThen]
section
variable {w W W2 : World} {h h1 : Hp} {r r1 : Rw} {mb n : Nat} {m : HM} {D : DM} {kv : List (Int × Int)}
/-- of the world w, in which heap, rows and map lay so: the heap is m now, the rows are r1 -/
structure MC (w : World) (h : Hp) (r : Rw) (mb : Nat) (W : World) (m : HM) (r1 : Rw) (h1 : Hp) : Prop where
  lr : LR W h1 r1
  hm : h1.m = m
  hb : h1.blk = h.blk
  rb : r1.blk = r.blk
  rt : r1.ty = r.ty
  turn : Turn (fun b => h.fp b ∨ r.fp b ∨ b = mb) w W
  hf : ∀ b, h1.fp b → h.fp b ∨ w.heap.size ≤ b
  rf : ∀ b, r1.fp b → r.fp b ∨ w.heap.size ≤ b
theorem MS.mc (X : MS w h r mb W m r1 n D h1) : MC w h r mb W m r1 h1 := ⟨X.lr, X.hm, X.hb, X.rb, X.rt, X.turn, X.hf, X.rf⟩
theorem MS.cleared (X : MS w h r mb W m r1 n D h1) (hg : W.grownBy W2 (some mb)) : MC w h r mb W2 m r1 h1 := by
  have L := X.lr
  have k1 : ∀ g, h1.fp g → W2.heap[g]? = W.heap[g]? := fun g hf => hg.block g (L.heap.lt g hf) fun e => X.ap.1 (by injection e with e; rw [← e]; exact hf)
  have k2 : ∀ g, r1.fp g → W2.heap[g]? = W.heap[g]? := fun g hf => hg.block g (L.rlt g hf) fun e => X.ap.2 (by injection e with e; rw [← e]; exact hf)
  exact ⟨⟨L.heap.same k1, L.mu, (k2 _ (.inl rfl)).trans L.cells, own_same L.pcs fun g hg => k2 g (.inr hg), L.ap1, L.ap2⟩, X.hm, X.hb, X.rb, X.rt, X.turn.grown hg fun k hk _ => by cases hk; exact .inr (.inr rfl), X.hf, X.rf⟩
theorem MS.close2 (X : MS w h r mb W m r1 n D h1) (I : Inv m) (hn : r1.n ≤ 64) (P : Pcs m 2 r1.ps r1.n) :
    Calls Tryz.prog 87 #[r.ptr] W fun e W' => e = .returned (.tuple #[]) ∧ ∃ m2 r2 h2, MS w h r mb W' m2 r2 n D h2 ∧ Clsd m m2 r1.ps ∧ r2.ps = [] ∧ r2.n = 0 ∧ r2.closed = true ∧ r2.more = r1.more := by
  have hrb := X.rb
  refine (X.call (P := fun e W' m2 r2 => e = .returned (.tuple #[]) ∧ Clsd m m2 r1.ps ∧ r2.ps = [] ∧ r2.n = 0 ∧ r2.closed = true ∧ r2.more = r1.more) fun h3 L e1 e2 e3 => ?_).mono ?_
  · have := close2_any L (by rw [e1]; exact I) hn (by rw [e1]; exact P)
    unfold Rw.ptr at this ⊢
    rw [hrb, e1] at this
    refine this.mono ?_
    rintro e W' ⟨m', r2, he, hX, hG⟩
    exact ⟨m', r2, hX, he, hG⟩
  · rintro e W' ⟨m2, r2, h2, hX, he, hG⟩
    exact ⟨he, m2, r2, h2, hX, hG⟩
set_option maxHeartbeats 4000000 in
set_option maxRecDepth 100000 in
theorem closeM_any (L : LR w h r) (S : MapR h.m r kv) (X0 : MS w h r mb w h.m r n D h) (hmo : r.more = [.map (some mb)]) :
    Calls Tryz.prog 35 #[r.ptr] w fun e w' => e = .returned (.int .i64 0) ∧ ∃ m' r2 h2, MC w h r mb w' m' r2 h2 ∧ Clsd h.m m' r.ps ∧ r2.ps = [] ∧ r2.n = 0 ∧ r2.closed = true ∧ r2.more = r.more := by
  have HX0 := hide X0
  have HAS : Hid (∀ W : World, Q w W → Calls Tryz.prog 71 #[r.ptr, .slice none 0 0] W fun e w' => e = .returned (.int .i64 0) ∧ Q W w') := fun W hq => askedM_zero L S.op W hq
  have HCL : Hid (∀ W, MS w h r mb W h.m r n D h → Calls Tryz.prog 87 #[r.ptr] W fun e W' => e = .returned (.tuple #[]) ∧ ∃ m2 r2 h2, MS w h r mb W' m2 r2 n D h2 ∧ Clsd h.m m2 r.ps ∧ r2.ps = [] ∧ r2.n = 0 ∧ r2.closed = true ∧ r2.more = r.more) := fun W X => X.close2 S.inv S.le (by have := S.kp.pcs; rw [two_len, S.n] at this; exact this)
  have HKC : Hid (∀ W m1 r1 D1 h1, MS w h r mb W m1 r1 n D1 h1 → r1.more = r.more → W.cell? ⟨r.blk, 4, none⟩ = some (.map (some mb)) ∧ r.blk < W.heap.size) := fun W m1 r1 D1 h1 X e => ⟨(X.k (e.trans hmo)).2.2.1, (X.k (e.trans hmo)).2.2.2⟩
  have hrp : r.ptr = .pointer (some ⟨r.blk, 0, none⟩) := rfl
  rw [hrp] at HAS HCL ⊢
  obtain ⟨b, eb⟩ : ∃ b, b = r.blk := ⟨_, rfl⟩
  rw [← eb] at HAS HCL HKC ⊢
  clear hrp eb S X0 hmo L
  go_enter Tryz.func35, Tryz.ntmps35
  go_wp2_with (first
    | (go_at_call 71; refine (HAS.out _ (Q.refl _)).mono ?_; rintro e w1 ⟨rfl, hq1⟩)
    | (go_at_call 87; go_loud (refine (HCL.out _ (HX0.out.q hq1)).mono ?_; rintro e w3 ⟨rfl, m3, r3, h3, hX3, hC3⟩; have HX3 := hide hX3; have HC3 := hide hC3; obtain ⟨c4, hbl⟩ := HKC.out _ _ _ _ _ hX3 hC3.2.2.2.2; obtain ⟨es, clock, hmb, -⟩ := hX3.own; have hrun := (fun ty => run_clear_map (P := Tryz.prog) (ty := ty) Tryz.underlying119 hmb); clear hX3 hC3)))
  go_ret
  refine ⟨rfl, m3, r3, h3, HX3.out.cleared ⟨rfl, rfl, rfl, by simp, fun k hk hne => ?_⟩, HC3.out⟩
  have hne2 : mb ≠ k := fun e => hne (by rw [e])
  simp [Array.getElem?_setIfInBounds_ne hne2]
end
section
variable {w : World} {h : Hp}
def newRw (b : Nat) (ty : TypeId) (more : List Value) : Rw := ⟨b, ty, .slice none 0 0, [], 0, false, more⟩
theorem new_lr (H : HpR w h) (hmu : h.mu = 0) {W : World} {b : Nat} {ty : TypeId} {more : List Value} (hq : Q w W) (hb : w.heap.size ≤ b) (hc : W.heap[b]? = some (.cells (#[h.ptr, .slice none 0 0, .int .i64 0, .bool false] ++ more.toArray) ty (0, 0))) : LR W h (newRw b ty more) := by
  refine ⟨H.q hq, hmu, ?_, World.ownsRow_nil _ _ _ _, fun e => by have := H.lt b e; omega, fun g hg => by cases hg⟩
  rw [show (newRw b ty more).blk = b from rfl, hc]
  unfold Rw.cells newRw
  simp
set_option maxHeartbeats 4000000 in
set_option maxRecDepth 100000 in
theorem newList_any (H : HpR w h) (hmu : h.mu = 0) : Calls Tryz.prog 13 #[h.ptr] w fun e w' => e = .returned (.tuple #[.pointer (some ⟨w.heap.size, 0, none⟩), .int .i64 0]) ∧ Q w w' ∧ LR w' h (newRw w.heap.size 117 []) := by
  have HH := hide H
  have HM := hide hmu
  have HF : Hid (LR (w.alloc (.cells #[h.ptr, .slice none 0 0, .int .i64 0, .bool false] 117)) h (newRw w.heap.size 117 [])) := new_lr H hmu ((Q.refl _).alloc _) (Nat.le_refl _) (heap_alloc_new w _)
  unfold Hp.ptr at HF ⊢
  obtain ⟨g, eg⟩ : ∃ g, g = h.blk := ⟨_, rfl⟩
  rw [← eg] at HF ⊢
  clear H hmu eg
  go_enter Tryz.func13, Tryz.ntmps13
  go_wp2_with fail
  go_ret2
  exact ⟨rfl, (Q.refl _).alloc _, HF.out⟩
set_option maxHeartbeats 4000000 in
set_option maxRecDepth 100000 in
theorem newQueue_any (H : HpR w h) (hmu : h.mu = 0) : Calls Tryz.prog 15 #[h.ptr] w fun e w' => e = .returned (.tuple #[.pointer (some ⟨w.heap.size, 0, none⟩), .int .i64 0]) ∧ Q w w' ∧ LR w' h (newRw w.heap.size 124 [.int .i64 0]) := by
  have HF : Hid (LR (w.alloc (.cells #[h.ptr, .slice none 0 0, .int .i64 0, .bool false, .int .i64 0] 124)) h (newRw w.heap.size 124 [.int .i64 0])) := new_lr H hmu ((Q.refl _).alloc _) (Nat.le_refl _) (heap_alloc_new w _)
  unfold Hp.ptr at HF ⊢
  obtain ⟨g, eg⟩ : ∃ g, g = h.blk := ⟨_, rfl⟩
  rw [← eg] at HF ⊢
  clear H hmu eg
  go_enter Tryz.func15, Tryz.ntmps15
  go_wp2_with fail
  go_ret2
  exact ⟨rfl, (Q.refl _).alloc _, HF.out⟩
set_option maxHeartbeats 4000000 in
set_option maxRecDepth 100000 in
theorem newMap_any (H : HpR w h) (hmu : h.mu = 0) : Calls Tryz.prog 14 #[h.ptr] w fun e w' => e = .returned (.tuple #[.pointer (some ⟨w.heap.size + 1, 0, none⟩), .int .i64 0]) ∧ Q w w' ∧ LR w' h (newRw (w.heap.size + 1) 121 [.map (some w.heap.size)]) ∧ World.keeps w' w.heap.size 0 (.map []) := by
  have hmm := @run_makeMap Tryz.prog
  have HQ : Hid (Q w ((w.alloc (.map #[] 0)).alloc (.cells #[h.ptr, .slice none 0 0, .int .i64 0, .bool false, .map (some w.heap.size)] 121))) := ((Q.refl _).alloc _).alloc _
  have HF : Hid (LR ((w.alloc (.map #[] 0)).alloc (.cells #[h.ptr, .slice none 0 0, .int .i64 0, .bool false, .map (some w.heap.size)] 121)) h (newRw (w.heap.size + 1) 121 [.map (some w.heap.size)])) := new_lr H hmu HQ.out (by omega) (by have := heap_alloc_new (w.alloc (.map #[] 0)) (.cells #[h.ptr, .slice none 0 0, .int .i64 0, .bool false, .map (some w.heap.size)] 121); simpa using this)
  have HO : Hid (World.keeps ((w.alloc (.map #[] 0)).alloc (.cells #[h.ptr, .slice none 0 0, .int .i64 0, .bool false, .map (some w.heap.size)] 121)) w.heap.size 0 (.map [])) := (World.ownsMap_made _ _ _ _).alloc _
  unfold Hp.ptr at HF HQ HO ⊢
  obtain ⟨g, eg⟩ : ∃ g, g = h.blk := ⟨_, rfl⟩
  rw [← eg] at HF HQ HO ⊢
  clear H hmu eg
  go_enter Tryz.func14, Tryz.ntmps14
  go_wp2_with fail
  go_ret2
  exact ⟨rfl, HQ.out, HF.out, HO.out⟩
end
theorem newList_r (m : HM) (I : Inv m) (b : Nat) : LstR m (newRw b 117 []) [] := ⟨I, Kp.nil m 1, rfl, rfl, fun x hx => by cases hx⟩
theorem newMap_r (m : HM) (I : Inv m) (b mb : Nat) : MapR m (newRw b 121 [.map (some mb)]) [] := ⟨I, Kp.nil m 2, rfl, rfl, (fun x hx => by cases hx), List.Pairwise.nil⟩
end Go.Proofs.YtdaklffbfadghaaGreat

namespace Go.Proofs.YtdaklffbfadghaaGreat
open Go.RowKit HP
set_option linter.unusedVariables false
set_option linter.unusedSimpArgs false
section
variable {w : World} {h : Hp} {r : Rw}
set_option maxHeartbeats 4000000 in
set_option maxRecDepth 100000 in
theorem askedQ_any (L : LR w h r) (A : Option Addr) (n c : Nat) (l : List Int) (hl : l.length = n) (hr : Rd w w.heap.size A (intsV l)) (hn : n ≤ 1000) :
    Calls Tryz.prog 77 #[r.ptr, .slice A n c] w fun e w' => e = .returned (.int .i64 (if r.closed then 9 else if l.all fitsB then 0 else 1)) ∧ Q w w' := by
  have c3 := L.k3
  have HAN : Hid (Calls Tryz.prog 89 #[.slice A n c] w fun e w' => e = .returned (.bool (l.all fitsB)) ∧ Q w w') := areNumbers_any A n c l w hl hr hn
  unfold Rw.ptr
  obtain ⟨b, eb⟩ : ∃ b, b = r.blk := ⟨_, rfl⟩
  obtain ⟨cl, ec⟩ : ∃ c, c = r.closed := ⟨_, rfl⟩
  rw [← eb, ← ec] at c3
  rw [← eb, ← ec]
  clear eb ec L hr hl hn
  cases cl
  · cases ha : l.all fitsB
    · rw [ha] at HAN
      clear ha
      go_enter Tryz.func77, Tryz.ntmps77
      go_wp2_with (go_at_call 89; refine HAN.out.mono ?_; rintro e w1 ⟨rfl, hq1⟩)
      go_ret
      exact ⟨rfl, hq1⟩
    · rw [ha] at HAN
      clear ha
      go_enter Tryz.func77, Tryz.ntmps77
      go_wp2_with (go_at_call 89; refine HAN.out.mono ?_; rintro e w1 ⟨rfl, hq1⟩)
      go_ret
      exact ⟨rfl, hq1⟩
  · go_enter Tryz.func77, Tryz.ntmps77
    go_wp2_with fail
    go_ret
    exact ⟨rfl, Q.refl _⟩
theorem askedQ_two (L : LR w h r) (hop : r.closed = false) (k v : Int) (W : World) (hq : Q w W) : Calls Tryz.prog 77 #[r.ptr, .slice (some ⟨W.heap.size, 0, none⟩) 2 2] (W.alloc (.cells #[.int .i64 k, .int .i64 v] 3)) fun e w' => e = .returned (.int .i64 (if fitsB k && fitsB v then 0 else 1)) ∧ Q (W.alloc (.cells #[.int .i64 k, .int .i64 v] 3)) w' := by
  have := askedQ_any ((LDid.refl L).q (hq.alloc (.cells #[.int .i64 k, .int .i64 v] 3))).lr (some ⟨W.heap.size, 0, none⟩) 2 2 [k, v] rfl (.inr ⟨W.heap.size, 0, rfl, by simp, fun j u hu => by
    rw [World.cell?_alloc_new]
    simpa [intsV] using hu⟩) (by decide)
  rw [hop] at this
  simpa using this
theorem askedQ_zero (L : LR w h r) (hop : r.closed = false) (W : World) (hq : Q w W) : Calls Tryz.prog 77 #[r.ptr, .slice none 0 0] W fun e w' => e = .returned (.int .i64 0) ∧ Q W w' := by
  have := askedQ_any ((LDid.refl L).q hq).lr none 0 0 [] rfl (Rd.nil _ _ _) (by decide)
  rw [hop] at this
  simpa using this
end
/-- it is nil or closed -/
def DeadM (v : Value) (w : World) : Prop := ∀ W s, Q w W → Calls Tryz.prog 71 #[v, s] W fun e w' => e = .returned (.int .i64 9) ∧ Q W w'
theorem DeadM.q {v : Value} {w w' : World} (D : DeadM v w) (hq : Q w w') : DeadM v w' := fun W s h => D W s (hq.trans h)
section
variable {v : Value} {w : World}
end
/-- it is nil or closed -/
def DeadQ (v : Value) (w : World) : Prop := ∀ W s, Q w W → Calls Tryz.prog 77 #[v, s] W fun e w' => e = .returned (.int .i64 9) ∧ Q W w'
theorem DeadQ.q {v : Value} {w w' : World} (D : DeadQ v w) (hq : Q w w') : DeadQ v w' := fun W s h => D W s (hq.trans h)
section
variable {v : Value} {w : World}
end
end Go.Proofs.YtdaklffbfadghaaGreat

namespace Go.Proofs.YtdaklffbfadghaaGreat
open Go.RowKit HP
set_option linter.unusedVariables false
set_option linter.unusedSimpArgs false
theorem equalIn_int' (w : World) (d : Nat) (a b : Int) : (Op.equalIn (d + 1) 3 (.int .i64 a) (.int .i64 b)).run Tryz.prog w = .ok (a == b) w :=
  run_equalIn_int w d _ _ _ a b Tryz.underlying3
theorem equalIn_pairG (w : World) (d : Nat) (a b a' b' : Int) : (Op.equalIn (d + 1 + 1) 64 (.agg #[.int .i64 a, .int .i64 b]) (.agg #[.int .i64 a', .int .i64 b'])).run Tryz.prog w = .ok (a == a' && b == b') w := by
  have hs : (sizeOf 3).run Tryz.prog w = .ok 1 w := by kernel_rfl
  have hp0 : (part 3 #[.int .i64 a, .int .i64 b] 0).run Tryz.prog w = .ok (.int .i64 a) w := by kernel_rfl
  have hp1 : (part 3 #[.int .i64 a, .int .i64 b] 1).run Tryz.prog w = .ok (.int .i64 b) w := by kernel_rfl
  have hp2 : (part 3 #[.int .i64 a', .int .i64 b'] 0).run Tryz.prog w = .ok (.int .i64 a') w := by kernel_rfl
  have hp3 : (part 3 #[.int .i64 a', .int .i64 b'] 1).run Tryz.prog w = .ok (.int .i64 b') w := by kernel_rfl
  have hq := equalIn_int' w d
  have hr : (List.range' 0 2 1) = [0, 1] := rfl
  unfold Op.equalIn
  by_cases h1 : a = a'
  · subst h1
    by_cases h2 : b = b'
    · subst h2
      simp [Sem.run_bind, run_underlying Tryz.underlying64, hs, Result.andThen, hp0, hp1, hp2, hp3, hq, hr]
    · simp [Sem.run_bind, run_underlying Tryz.underlying64, hs, Result.andThen, hp0, hp1, hp2, hp3, hq, hr, h2]
  · simp [Sem.run_bind, run_underlying Tryz.underlying64, hs, Result.andThen, hp0, hp1, hp2, hp3, hq, hr, h1]
theorem neq_pairG (w : World) (a b a' b' : Int) : (binOp .neq 64 (.agg #[.int .i64 a, .int .i64 b]) (.agg #[.int .i64 a', .int .i64 b'])).run Tryz.prog w = .ok (.bool (!(a == a' && b == b'))) w := by
  rw [run_neq_struct]
  rw [equalIn_pairG w 9998 a b a' b']
  rfl
theorem neq_pair (w : World) (a b : Int) : (binOp .neq 64 (.agg #[.int .i64 a, .int .i64 b]) (.agg #[.int .i64 a, .int .i64 b])).run Tryz.prog w = .ok (.bool false) w := by
  rw [neq_pairG]
  simp
theorem Sl.pr {w : World} {A : Option Addr} {n c : Nat} {xs : List (Int × Int)} (h : Sl 2 encP w A n c xs) (i : Nat) (hi : i < n) :
    ∃ b o x y, A = some ⟨b, o, none⟩ ∧ b < w.heap.size ∧ xs[i]? = some (x, y) ∧ w.cell? ⟨b, o + i * 2, none⟩ = some (.int .i64 x) ∧ w.cell? ⟨b, o + i * 2 + 1, none⟩ = some (.int .i64 y) := by
  obtain ⟨b, o, ⟨x, y⟩, e, hb, hx, hc⟩ := h.at_ (fun _ => rfl) (by decide) i hi
  exact ⟨b, o, x, y, e, hb, hx, by simpa using hc 0 _ rfl, hc 1 _ rfl⟩
theorem Sl.i1 {w : World} {A : Option Addr} {n c : Nat} {xs : List Int} (h : Sl 1 (encI .i64) w A n c xs) (i : Nat) (hi : i < n) :
    ∃ b o x, A = some ⟨b, o, none⟩ ∧ b < w.heap.size ∧ xs[i]? = some x ∧ w.cell? ⟨b, o + i, none⟩ = some (.int .i64 x) := by
  obtain ⟨b, o, x, e, hb, hx, hc⟩ := h.at_ (fun _ => rfl) (by decide) i hi
  exact ⟨b, o, x, e, hb, hx, by have := hc 0 _ rfl; simpa using this⟩
theorem str_sl {w : World} {B : Nat} {v : Value} {l : List (Int × Int)} (h : w.ownsRow B 64 2 v l.length (l.flatMap encP)) : ∃ A c, v = .slice A l.length c ∧ Sl 2 encP w A l.length c l := by
  obtain ⟨A, c, rfl, -⟩ := own_form h
  exact ⟨A, c, rfl, Sl.own (own_low h (Nat.zero_le _)) (fun _ => rfl) (by decide)⟩
theorem flat_ints (l : List Int) : l.flatMap (encI .i64) = intsV l := by
  unfold intsV
  induction l with
  | nil => rfl
  | cons x r ih => rw [List.flatMap_cons, ih]; rfl
set_option maxHeartbeats 4000000 in
set_option maxRecDepth 100000 in
theorem SameInts_same (A1 : Option Addr) (n c1 : Nat) (A2 : Option Addr) (c2 : Nat) (xs : List Int) (w : World) (h1 : Sl 1 (encI .i64) w A1 n c1 xs) (h2 : Sl 1 (encI .i64) w A2 n c2 xs) (hn : n ≤ 100000) :
    Calls Tryz.prog 33 #[.slice A1 n c1, .slice A2 n c2] w fun e w' => e = .returned (.bool true) ∧ Q w w' := by
  have d : ((n : Int) != (n : Int)) = false := by simp
  have H1 := hide h1
  have H2 := hide h2
  have hni : (n : Int) ≤ 100000 := by omega
  clear h1 h2
  go_enter Tryz.func33, Tryz.ntmps33
  go_wp2_with fail
  go_loopw [5] (fun vi wr => ∃ i : Nat, i ≤ n ∧ vi = .int .i64 i ∧ Q w wr) (fun vi _ => n - (intOf vi).toNat)
  case atStart => exact ⟨0, by omega, by go_num, Q.refl _⟩
  case round =>
    obtain ⟨i, hi, rfl, hq⟩ := hrel
    have hsz := hq.size
    by_cases hlt : i < n
    · have hd1 : decide ((i : Int) < (n : Int)) = true := by simp; omega
      have hd0 : decide (i < n) = true := by simp; omega
      have hlti : (i : Int) < (n : Int) := by omega
      obtain ⟨b1, o1, x, rfl, hb1, g1, k1⟩ := (H1.out.up hq).i1 i hlt
      obtain ⟨b2, o2, y, rfl, hb2, g2, k2⟩ := (H2.out.up hq).i1 i hlt
      rw [g1] at g2
      obtain rfl := Option.some.inj g2
      have f : (x != x) = false := by simp
      clear g1 g2
      go_wp2_with fail
      have hxc := ext_cell
      refine wp_region_ext (by kernel_rfl) (by kernel_rfl) ?_
      repeat (go_big_quiet_step ((fail)))
      clear hxc
      refine wpQuiet_nil ?_
      intro wz hwwz
      have hqwz := q_of_ext hwwz
      clear hwwz
      obtain ⟨hcwz, hfwz, hzwz⟩ := hqwz.facts
      try simp at hzwz
      try have hs0wz : w.heap.size < wz.heap.size := by omega
      try have hs1wz : w.heap.size + 1 < wz.heap.size := by omega
      clear hcwz hfwz k1 k2
      go_wp2_with fail
      go_roundw
      case rel => exact ⟨i + 1, by omega, by go_num, hq.trans hqwz⟩
      case measure => simp [intOf] <;> omega
    · have hd1 : decide ((i : Int) < (n : Int)) = false := by simp; omega
      have hd0 : decide (i < n) = false := by simp; omega
      obtain rfl : i = n := by omega
      go_wp2_with fail
      go_ret
      exact ⟨rfl, hq⟩
set_option maxHeartbeats 4000000 in
set_option maxRecDepth 100000 in
theorem SameStr_same (A1 : Option Addr) (n c1 : Nat) (A2 : Option Addr) (c2 : Nat) (xs : List (Int × Int)) (w : World) (h1 : Sl 2 encP w A1 n c1 xs) (h2 : Sl 2 encP w A2 n c2 xs) (hn : n ≤ 100000) :
    Calls Tryz.prog 16 #[.slice A1 n c1, .slice A2 n c2] w fun e w' => e = .returned (.bool true) ∧ Q w w' := by
  have d : ((n : Int) != (n : Int)) = false := by simp
  have H1 := hide h1
  have H2 := hide h2
  have hni : (n : Int) ≤ 100000 := by omega
  have hnp := neq_pair
  clear h1 h2
  go_enter Tryz.func16, Tryz.ntmps16
  go_wp2_with fail
  go_loopw [5] (fun vi wr => ∃ i : Nat, i ≤ n ∧ vi = .int .i64 i ∧ Q w wr) (fun vi _ => n - (intOf vi).toNat)
  case atStart => exact ⟨0, by omega, by go_num, Q.refl _⟩
  case round =>
    obtain ⟨i, hi, rfl, hq⟩ := hrel
    have hsz := hq.size
    by_cases hlt : i < n
    · have hd1 : decide ((i : Int) < (n : Int)) = true := by simp; omega
      have hd0 : decide (i < n) = true := by simp; omega
      have hlti : (i : Int) < (n : Int) := by omega
      obtain ⟨b1, o1, x1, y1, rfl, hb1, g1, k1, k1'⟩ := (H1.out.up hq).pr i hlt
      obtain ⟨b2, o2, x2, y2, rfl, hb2, g2, k2, k2'⟩ := (H2.out.up hq).pr i hlt
      rw [g1] at g2
      injection g2 with g2
      injection g2 with e3 e4
      subst e3
      subst e4
      clear g1
      go_wp2_with fail
      have hxc := ext_cell
      refine wp_region_ext (by kernel_rfl) (by kernel_rfl) ?_
      repeat (go_big_quiet_step ((fail)))
      clear hxc
      refine wpQuiet_nil ?_
      intro wz hwwz
      have hqwz := q_of_ext hwwz
      clear hwwz
      obtain ⟨hcwz, hfwz, hzwz⟩ := hqwz.facts
      try simp at hzwz
      try have hs0wz : w.heap.size < wz.heap.size := by omega
      try have hs1wz : w.heap.size + 1 < wz.heap.size := by omega
      clear hcwz hfwz k1 k2 k1' k2'
      go_wp2_with fail
      go_roundw
      case rel => exact ⟨i + 1, by omega, by go_num, hq.trans hqwz⟩
      case measure => simp [intOf] <;> omega
    · have hd1 : decide ((i : Int) < (n : Int)) = false := by simp; omega
      have hd0 : decide (i < n) = false := by simp; omega
      obtain rfl : i = n := by omega
      go_wp2_with fail
      go_ret
      exact ⟨rfl, hq⟩
end Go.Proofs.YtdaklffbfadghaaGreat
