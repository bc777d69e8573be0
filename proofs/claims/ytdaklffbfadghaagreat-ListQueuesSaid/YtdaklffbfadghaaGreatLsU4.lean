/- A store at a key that is there, into the very map that is ranged over: which entries are still to come stays. The places of keys, as a map of the language holds them: plain. No program. Conditions: as each theorem says. -/
import Derived.ProofKit
import Derived.Maps.RangeWalk
import Derived.Test.YtdaklffbfadghaaGreatLsU2
namespace Go.Proofs.YtdaklffbfadghaaGreat
open Go Go.ChangeMaps Go.MapKept Go.WideShapes
open Go.WideElems (Fit rd rg pl rd_key rd_val rg_of other_key rd_mk)
open Go.Maps (Keyed fit_keys fit_apart sorted_put filter_one)
set_option linter.unusedVariables false
set_option linter.unusedSimpArgs false
section
variable {H : Type} {P : Program} {k : TypeId} {R : Value → Option (DataW H × List MemPlace)} {w : World} {b r n : Nat} {D : DataW H} {left : Lit → Bool} {cnt : Nat}
theorem ranges_store {t e : TypeId} (h : w.ranges P k R b r n D left cnt) (K : Keyed P k) (ht : P.underlying t = some (.map k e)) {key val : Value} {kl : Lit} {yv : DataW H × List MemPlace}
    (hkey : keyOf P k key = some kl) (hv : R val = some yv) (hthere : Maps.has D kl = true) :
    ∃ w', (Instr.mapUpdate t (.map (some b)) key val).run P w = .ok () w' ∧ w'.ranges P k R b r n (D.put kl yv.1) left cnt ∧ w.mapTurned w' b := by
  have hne := h.ne
  obtain ⟨es, clock, since, seen, c0, hb, F, hs, rfl, hr, hold, rfl, hl1, hl2, hsc, hsk⟩ := h
  rcases K.find w hkey es.toList F.keys with ⟨h1, h2⟩ | ⟨j, e0, h1, h2, h3⟩
  · exfalso
    obtain ⟨p, hp, hpk⟩ := List.any_eq_true.1 hthere
    obtain ⟨x, hx, rfl⟩ := List.mem_map.1 (mem_sorted.1 hp)
    obtain ⟨y, hy⟩ := F.reads x hx
    have e1 : (rg P k R x).1 = kl := WideAt.sameKey_eq hpk
    rw [rg_of hy] at e1
    exact h2 x hx (K.inj (e1 ▸ rd_key hy) hkey)
  · have hj : es[j]? = some e0 := by simpa using h2
    have hjl : j < es.toList.length := (List.getElem?_eq_some_iff.1 h2).1
    have hmem0 : e0 ∈ es.toList := List.mem_of_getElem? h2
    have hkeyf : ∀ e', es[j]? = some e' → ({ e' with key := key, val := val } : MapEntry).key = e'.key := fun e' he' => by rw [hj] at he'; cases he'; exact h3.symm
    have hlist : (es.modify j (fun e' => { e' with key := key, val := val })).toList = es.toList.set j { e0 with key := key, val := val } := by rw [Array.toList_modify, modify_eq_set _ _ _ _ h2]
    have who : ∀ x ∈ es.toList.set j { e0 with key := key, val := val }, x = { e0 with key := key, val := val } ∨ (x ∈ es.toList ∧ x.key ≠ key) := by
      intro x hx
      obtain ⟨i, hi, ex⟩ := List.getElem_of_mem hx
      rw [List.getElem_set] at ex
      split at ex
      · exact Or.inl ex.symm
      · rename_i hne
        have hi' : i < es.toList.length := by simpa using hi
        refine Or.inr ⟨ex ▸ List.getElem_mem hi', ?_⟩
        rw [← h3]
        exact other_key F h2 (by rw [List.getElem?_eq_getElem hi', ex]) (fun e1 => hne e1.symm)
    have hnewrg : (rg P k R { e0 with key := key, val := val }).1 = kl := by rw [rg_of (rd_mk hkey hv)]
    have holdrg : (rg P k R e0).1 = kl := by
      obtain ⟨y, hy⟩ := F.reads e0 hmem0
      rw [rg_of hy]
      have := rd_key hy
      rw [h3, hkey] at this
      exact (Option.some.inj this).symm
    have hborn : ∀ a : List MapEntry, (∀ i (e1 e2 : MapEntry), es.toList[i]? = some e1 → a[i]? = some e2 → e1.born = e2.born) → a.length = es.toList.length → (a.filter fun e => !seen.contains e.born).length = (es.toList.filter fun e => !seen.contains e.born).length := fun a ha hlen => by
      have e1 : a.map (·.born) = es.toList.map (·.born) := by
        refine List.ext_getElem (by simpa using hlen) fun i hi1 hi2 => ?_
        rw [List.getElem_map, List.getElem_map]
        rw [List.length_map] at hi1 hi2
        exact (ha i _ _ (List.getElem?_eq_getElem hi2) (List.getElem?_eq_getElem hi1)).symm
      have e2 : ∀ l : List MapEntry, (l.filter fun e => !seen.contains e.born).length = ((l.map (·.born)).filter fun z => !seen.contains z).length := fun l => by
        rw [List.filter_map, List.length_map]
        rfl
      rw [e2, e2, e1]
    refine ⟨_, ?_, ⟨es.modify j (fun e' => { e' with key := key, val := val }), clock, since, seen, c0, heap_setBlock_same hb _, ⟨by simpa using F.size, stamped_modify F.stamped _ _ (fun _ _ => rfl) (fun e' _ he' => hkeyf e' he'), ?_⟩, by simpa using hs, ?_, (heap_setBlock_other hb _ hne).trans hr, ?_, ?_, ?_, ?_, hsc, hsk⟩, ⟨es, clock, _, clock, hb, rfl⟩⟩
    · simp [Instr.mapUpdate, run_underlying ht, MapKept.run_getObj_map hb, K.check w false hkey, h1, hj, h3, K.stays w hkey, MapKept.run_setObj_map _ hb, Result.andThen, setBlock]
    · intro x hx
      rw [hlist] at hx
      rcases who x hx with rfl | ⟨hx', _⟩
      · exact ⟨_, rd_mk hkey hv⟩
      · exact F.reads x hx'
    · rw [DataW.put_eq]
      congr 1
      refine (sorted_put K.one ⟨key, hkey⟩ (fit_keys F) (fit_apart K F) ?_).symm
      rw [filter_one K F hkey h2 h3, hlist, List.map_set, rg_of (rd_mk hkey hv)]
      exact set_perm _ _ (by simpa using hjl) _
    · intro x hx
      rw [hlist] at hx
      rcases who x hx with rfl | ⟨hx', _⟩
      · exact hold e0 hmem0
      · exact hold x hx'
    · have e1 : ∀ a : Array MapEntry, (leftOf a seen).size = (a.toList.filter fun e => !seen.contains e.born).length := fun a => by
        unfold leftOf
        rw [← Array.toList_filter, Array.length_toList]
      rw [e1, e1, hlist]
      refine hborn _ (fun i e1 e2 he1 he2 => ?_) (by simp)
      rw [List.getElem?_set] at he2
      split at he2
      · rename_i e3
        subst e3
        rw [h2] at he1
        obtain rfl := Option.some.inj he1
        simp at he2
        obtain ⟨_, rfl⟩ := he2
        rfl
      · rw [he1] at he2
        rw [Option.some.inj he2]
    · intro x hx
      rw [hlist] at hx
      rcases who x hx with rfl | ⟨hx', _⟩
      · rw [hnewrg, ← holdrg]
        exact hl1 e0 hmem0
      · exact hl1 x hx'
    · intro x0 hx0
      obtain ⟨x, hx, rfl⟩ := hl2 x0 hx0
      rw [hlist]
      by_cases hxk : x.key = key
      · refine ⟨_, List.mem_set hjl _, ?_⟩
        rw [hnewrg]
        obtain ⟨y, hy⟩ := F.reads x hx
        rw [rg_of hy]
        have := rd_key hy
        rw [hxk, hkey] at this
        exact Option.some.inj this
      · obtain ⟨i, hi, ex⟩ := List.getElem_of_mem hx
        have hij : j ≠ i := fun e1 => by
          subst e1
          rw [List.getElem?_eq_getElem hi, ex] at h2
          obtain rfl := Option.some.inj h2
          exact hxk h3
        exact ⟨x, List.mem_of_getElem? (i := i) (by rw [List.getElem?_set_ne hij, List.getElem?_eq_getElem hi, ex]), rfl⟩
end
section
variable {H : Type} {P : Program} (w : World) {ops : Array Oper} {rest : List Oper} {o : Oper} {a : Act} {Q : Exit → Act → World → Prop}
theorem wpList_mapUpdate_ranges (hg : o.guard = none) (m x v : Operand) (t : TypeId) (hop : o.op = Op.mapUpdate t m x v)
    (k e : TypeId) (K : Keyed P k) (ht : P.underlying t = some (.map k e)) (R : Value → Option (DataW H × List MemPlace)) (b r n : Nat) (D : DataW H) (left : Lit → Bool) (cnt : Nat)
    (hm : a.eval m = .map (some b)) (h : w.ranges P k R b r n D left cnt) (key val : Value) (kl : Lit) (hx : a.eval x = key) (hv : a.eval v = val) (hkey : keyOf P k key = some kl)
    (d : DataW H) (ps : List MemPlace) (hval : R val = some (d, ps)) (hthere : Maps.has D kl = true)
    (hK : ∀ w', w'.ranges P k R b r n (D.put kl d) left cnt → w.mapTurned w' b → wpList P ops Q rest (a.put o.dst undef) w') :
    wpList P ops Q (o :: rest) a w := by
  refine wpList_plain hg fun K' hK' => ?_
  obtain ⟨w', hrun, r1, r2⟩ := ranges_store h K ht hkey hval hthere
  unfold Oper.wp
  simp [execOp, hop, hm, hx, hv, hrun, Result.andThen]
  exact hK' _ _ (hK w' r1 r2)
end
end Go.Proofs.YtdaklffbfadghaaGreat

namespace Go.Proofs.YtdaklffbfadghaaGreat
open Go Go.Maps
set_option linter.unusedVariables false
set_option linter.unusedSimpArgs false
section
variable {H : Type}
def kI (x : Int) : Lit := .int .i64 x
theorem kI_inj {x y : Int} (h : kI x = kI y) : x = y := by unfold kI at h; injection h
theorem kI_ne {x y : Int} (h : x ≠ y) : kI x ≠ kI y := fun e => h (kI_inj e)
/-- the map has the place of each key of a list -/
structure Wh (D : DataW H) (ks : List Int) : Prop where
  isMap : IsMap D
  hasK : ∀ x, has D (kI x) = ks.contains x
  atK : ∀ (i : Nat) (x : Int), ks[i]? = some x → ∀ z, D.atKey (kI x) z = .lit (.int .i64 i)
theorem Wh.nil : Wh (.map [] : DataW H) [] := ⟨isMap_empty, fun x => rfl, fun i x h => by simp at h⟩
theorem Wh.push {D : DataW H} {ks : List Int} (h : Wh D ks) {x : Int} (hx : x ∉ ks) (hk : WideAt.IsKeyLit (kI x)) : Wh (D.put (kI x) (.lit (.int .i64 ks.length))) (ks ++ [x]) := by
  refine ⟨h.isMap.put _ _, fun y => ?_, fun i y hy z => ?_⟩
  · by_cases e : y = x
    · subst e
      rw [has_put_same h.isMap hk]
      simp
    · rw [has_put_other (kI_ne e), h.hasK]
      simp [e]
  · rw [List.getElem?_append] at hy
    split at hy
    · have hm := List.mem_of_getElem? hy
      have e : y ≠ x := fun e => hx (by rw [← e]; exact hm)
      rw [atKey_put_other (kI_ne e)]
      exact h.atK i y hy z
    · obtain ⟨hi, e⟩ := List.getElem?_eq_some_iff.1 hy
      simp at hi e
      have hi2 : i = ks.length := by omega
      subst hi2
      subst e
      exact atKey_put_same h.isMap hk _ _
/-- a key is being taken out: the places behind it that have come are one less -/
structure WhMid (D : DataW H) (ks : List Int) (x : Int) (i : Nat) (left : Lit → Bool) : Prop where
  isMap : IsMap D
  hasK : ∀ y, has D (kI y) = (ks.contains y && !decide (y = x))
  atK : ∀ (j : Nat) (y : Int), ks[j]? = some y → y ≠ x → ∀ z, D.atKey (kI y) z = .lit (.int .i64 (if i < j ∧ left (kI y) = false then (j : Int) - 1 else j))
  lf : ∀ y, left (kI y) = true → y ∈ ks ∧ y ≠ x
theorem WhMid.start {D : DataW H} {ks : List Int} (h : Wh D ks) (x : Int) (i : Nat) : WhMid (D.del (kI x)) ks x i (has (D.del (kI x))) := by
  have hh : ∀ y, has (D.del (kI x)) (kI y) = (ks.contains y && !decide (y = x)) := fun y => by
    by_cases e : y = x
    · subst e
      rw [has_del_same]
      simp
    · rw [has_del_other (kI_ne e), h.hasK]
      simp [e]
  refine ⟨h.isMap.del _, hh, fun j y hy hne z => ?_, fun y hy => ?_⟩
  · rw [atKey_del_other (kI_ne hne), h.atK j y hy z, hh]
    have hm := List.mem_of_getElem? hy
    rw [if_neg]
    simp [hm, hne]
  · rw [hh] at hy
    simpa using hy
theorem WhMid.less {D : DataW H} {ks : List Int} {x : Int} {i j : Nat} {left : Lit → Bool} (h : WhMid D ks x i left) (hnd : ks.Nodup) {y : Int} (hl : left (kI y) = true) (hy : ks[j]? = some y) (hj : i < j) (hk : WideAt.IsKeyLit (kI y)) :
    WhMid (D.put (kI y) (.lit (.int .i64 ((j : Int) - 1)))) ks x i (fun z => left z && !z.sameKey (kI y)) := by
  have hyx := h.lf y hl
  refine ⟨h.isMap.put _ _, fun v => ?_, fun n v hv hne z => ?_, fun v hv => h.lf v (by simp at hv; exact hv.1)⟩
  · by_cases e : v = y
    · subst e
      rw [has_put_same h.isMap hk]
      simp [hyx.1, hyx.2]
    · rw [has_put_other (kI_ne e)]
      exact h.hasK v
  · by_cases e : v = y
    · subst e
      have hn : n = j := by
        obtain ⟨a1, a2⟩ := List.getElem?_eq_some_iff.1 hv
        obtain ⟨b1, b2⟩ := List.getElem?_eq_some_iff.1 hy
        exact nodup_idx hnd a1 b1 (a2.trans b2.symm)
      subst hn
      rw [atKey_put_same h.isMap hk, if_pos ⟨hj, by rw [WideAt.sameKey_self hk]; simp⟩]
    · rw [atKey_put_other (kI_ne e), h.atK n v hv hne z, sameKey_ne (kI_ne e)]
      simp
theorem WhMid.keep {D : DataW H} {ks : List Int} {x : Int} {i j : Nat} {left : Lit → Bool} (h : WhMid D ks x i left) (hnd : ks.Nodup) {y : Int} (hy : ks[j]? = some y) (hj : ¬ i < j) :
    WhMid D ks x i (fun z => left z && !z.sameKey (kI y)) := by
  refine ⟨h.isMap, h.hasK, fun n v hv hne z => ?_, fun v hv => h.lf v (by simp at hv; exact hv.1)⟩
  rw [h.atK n v hv hne z]
  by_cases e : v = y
  · subst e
    have hn : n = j := by
      obtain ⟨a1, a2⟩ := List.getElem?_eq_some_iff.1 hv
      obtain ⟨b1, b2⟩ := List.getElem?_eq_some_iff.1 hy
      exact nodup_idx hnd a1 b1 (a2.trans b2.symm)
    subst hn
    rw [if_neg (by omega), if_neg (by omega)]
  · rw [sameKey_ne (kI_ne e)]
    simp
/-- the value that comes out with a key -/
theorem WhMid.value {D : DataW H} {ks : List Int} {x : Int} {i : Nat} {left : Lit → Bool} (h : WhMid D ks x i left) {y : Int} (hl : left (kI y) = true) : ∃ j : Nat, ks[j]? = some y ∧ ∀ z, D.atKey (kI y) z = .lit (.int .i64 (j : Int)) := by
  obtain ⟨hm, hne⟩ := h.lf y hl
  obtain ⟨j, hj, e⟩ := List.getElem_of_mem hm
  refine ⟨j, by rw [List.getElem?_eq_getElem hj, e], fun z => ?_⟩
  rw [h.atK j y (by rw [List.getElem?_eq_getElem hj, e]) hne z, if_neg (by rw [hl]; simp)]
theorem WhMid.done {D : DataW H} {ks : List Int} {x : Int} {i : Nat} {left : Lit → Bool} (h : WhMid D ks x i left) (hnd : ks.Nodup) (hx : ks[i]? = some x) (hl : ∀ z, left z = false) : Wh D (delAt ks i 1) := by
  have hil := (List.getElem?_eq_some_iff.1 hx).1
  have hidx : ∀ (n : Nat), ks[n]? = some x → n = i := fun n hn => by
    obtain ⟨a1, a2⟩ := List.getElem?_eq_some_iff.1 hn
    obtain ⟨b1, b2⟩ := List.getElem?_eq_some_iff.1 hx
    exact nodup_idx hnd a1 b1 (a2.trans b2.symm)
  refine ⟨h.isMap, fun y => ?_, fun n y hy z => ?_⟩
  · rw [h.hasK y, Bool.eq_iff_iff]
    simp only [Bool.and_eq_true, List.contains_iff_mem, Bool.not_eq_true', decide_eq_false_iff_not]
    constructor
    · rintro ⟨hm, hne⟩
      obtain ⟨j, hj, e⟩ := List.getElem_of_mem hm
      have hji : j ≠ i := fun e2 => hne (by
        subst e2
        rw [List.getElem?_eq_getElem hj, e] at hx
        exact Option.some.inj hx)
      rcases Nat.lt_or_gt_of_ne hji with h1 | h1
      · exact List.mem_of_getElem? (i := j) (by rw [delAt_get _ _ _ (by omega), if_pos h1, List.getElem?_eq_getElem hj, e])
      · exact List.mem_of_getElem? (i := j - 1) (by rw [delAt_get _ _ _ (by omega), if_neg (by omega), show j - 1 + 1 = j by omega, List.getElem?_eq_getElem hj, e])
    · intro hm
      refine ⟨delAt_mem hm, fun e => ?_⟩
      obtain ⟨j, hj, e2⟩ := List.getElem_of_mem hm
      have hj2 : (delAt ks i 1)[j]? = some x := by rw [List.getElem?_eq_getElem hj, e2, e]
      rw [delAt_get _ _ _ (by omega)] at hj2
      split at hj2
      · have := hidx _ hj2
        omega
      · have := hidx _ hj2
        omega
  · rw [delAt_get _ _ _ (by omega)] at hy
    split at hy
    · rename_i hn
      have hne : y ≠ x := fun e => by
        have := hidx n (by rw [hy, e])
        omega
      rw [h.atK n y hy hne z, if_neg (by omega)]
    · rename_i hn
      have hne : y ≠ x := fun e => by
        have := hidx (n + 1) (by rw [hy, e])
        omega
      rw [h.atK (n + 1) y hy hne z, if_pos ⟨by omega, hl _⟩]
      congr 2
      omega
end
end Go.Proofs.YtdaklffbfadghaaGreat
