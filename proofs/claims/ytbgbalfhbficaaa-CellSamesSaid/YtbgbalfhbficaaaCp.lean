/- copy and clear at slices whose elements have k cells, in a row that is known whole. Conditions: as each theorem says. -/
import Derived.Test.YtbgbalfhbficaaaBase
import Derived.Laws.CopyOwn
import Derived.Lib.SliceRun
namespace Go.Proofs.Ytbgbalfhbficaaa
open Go.RowKit
set_option linter.unusedVariables false
section
variable {P : Program} {t e k bytes : Nat} {w : World} {ops : Array Oper} {rest : List Oper} {o : Oper} {a : Act} {Q' : Exit → Act → World → Prop} {sT : TypeId}
/-- n elements go over: the cells cs, to place off of row g -/
theorem run_copyk (E : El P t e k bytes) (ty : TypeId) (g off dLen dCap sLen sCap n : Nat) (dp sp : Option Addr) (cur : Array Value) (tt : TypeId) (cs : List Value) (hg : w.heap[g]? = some (.cells cur tt (0, 0))) (hn : n = Nat.min sLen dLen) (hl : cs.length = n * k)
    (hpos : 0 < n → dp = some ⟨g, off, none⟩ ∧ ∃ ad, sp = some ad ∧ ∀ j v, cs[j]? = some v → w.cell? (ad.add j) = some v) (hfit : off + cs.length ≤ cur.size) (h1 : ∀ v ∈ cs, v.oneCell' = true) :
    (Builtin.copy_ #[t, sT] ty #[.slice dp dLen dCap, .slice sp sLen sCap]).run P w = .ok (goInt n) (w.setRow g (splice cur.toList off cs).toArray) := by
  obtain ⟨i, z, hi, hz, hsz, hby, hzs⟩ := E.inf
  have hlt : g < w.heap.size := (Array.getElem?_eq_some_iff.1 hg).1
  by_cases h0 : n = 0
  · subst h0
    have hcs : cs = [] := List.eq_nil_of_length_eq_zero (by simpa using hl)
    subst hcs
    have he : (splice cur.toList off []).toArray = cur := by simp [splice]
    have hl0 : ∀ (x : Addr), (loadCells x 0).run P w = .ok #[] w := fun x => by simpa using run_loadCells_list (P := P) w x [] (by simp)
    have hset : w.setRow g cur = w := by
      have hv : w.heap[g] = .cells cur tt (0, 0) := (Array.getElem?_eq_some_iff.1 hg).2
      unfold World.setRow
      cases w with
      | mk heap tape drawn os output =>
        congr 1
        apply Array.ext
        · simp
        · intro j h3 h4
          simp only [Array.getElem_modify]
          split
          · rename_i hk; subst hk; simp at hv; simp [hv]
          · rfl
    rw [he, hset]
    cases dp <;> cases sp <;> simp [Builtin.copy_, run_underlying E.und, Builtin.lenOf, Builtin.firstCells, sizeOf, typeInfo, hi, ← hn, storeCells, hl0]
  · obtain ⟨rfl, ad, rfl, hsrc⟩ := hpos (by omega)
    have hld := run_loadCells_list (P := P) w ad cs hsrc
    rw [hl] at hld
    have hst := run_storeCells_at P g off tt cs 0 cur w hg (by simpa using hfit) h1
    simp only [Nat.add_zero] at hst
    have e1 : splice cur.toList off cs = cur.toList.take off ++ cs ++ cur.toList.drop (off + cs.length) := by simp [splice]
    rw [e1]
    simp [Builtin.copy_, run_underlying E.und, Builtin.lenOf, Builtin.firstCells, sizeOf, typeInfo, hi, hsz, ← hn, hld, hst]
theorem step_run {K : Act → World → Prop} {E0 : Prop} {d x : Operand} {dT : TypeId} (hg : o.guard = none) (hop : o.op = Op.call { callee := Callee.builtin Builtin.copy, args := #[d, x], argTypes := #[dT, sT] })
    (v u : Value) (hd : a.eval d = v) (hx : a.eval x = u) {v' : Value} {w' : World} (hr : (Builtin.copy_ #[dT, sT] o.type #[v, u]).run P w = .ok v' w') (hK : K (a.put o.dst v') w') :
    if Region.wanted o (yielded ops a.tmps) = true then Oper.wp P o a w K Q' else E0 := by
  have hw : Region.wanted o (yielded ops a.tmps) = true := by simp [Region.wanted, hg]
  rw [if_pos hw]
  unfold Oper.wp
  simp [execOp, hop, resolve, invoke, builtin, hd, hx, hr, Result.andThen]
  exact hK
/-- the operation, as a step of a region that draws -/
theorem step_copyk {K : Act → World → Prop} {E0 : Prop} (hgd : o.guard = none) (d x : Operand) (E : El P t e k bytes) (ho : o.op = Op.call { callee := Callee.builtin Builtin.copy, args := #[d, x], argTypes := #[t, sT] })
    (g off dLen dCap sLen sCap n : Nat) (dp sp : Option Addr) (hd : a.eval d = .slice dp dLen dCap) (hx : a.eval x = .slice sp sLen sCap) (cur : List Value) (tt : TypeId) (cs : List Value) (hg : w.heap[g]? = some (.cells cur.toArray tt (0, 0))) (hn : n = Nat.min sLen dLen) (hl : cs.length = n * k)
    (hpos : 0 < n → dp = some ⟨g, off, none⟩ ∧ ∃ ad, sp = some ad ∧ ∀ j v, cs[j]? = some v → w.cell? (ad.add j) = some v) (hfit : off + cs.length ≤ cur.length) (h1 : ∀ v ∈ cs, v.oneCell' = true)
    (h : ∀ w', Hid (w'.heap[g]? = some (.cells (splice cur off cs).toArray tt (0, 0))) → w.grownBy w' (some g) → w'.heap.size = w.heap.size → K (a.put o.dst (.int .i64 (n : Nat))) w') :
    if Region.wanted o (yielded ops a.tmps) = true then Oper.wp P o a w K Q' else E0 := by
  refine step_run hgd ho _ _ hd hx (run_copyk E o.type g off dLen dCap sLen sCap n dp sp cur.toArray tt cs hg hn hl hpos (by simpa using hfit) h1) (h _ ?_ ?_ ?_)
  · exact setRow_heap w g _ _ tt _ hg
  · exact ⟨rfl, rfl, rfl, by simp [World.setRow], fun j _ hj => setRow_other w g j _ (fun e => hj (by rw [e]))⟩
  · simp [World.setRow]
/-- .. and in a region that does not -/
theorem wpList_copyk (hgd : o.guard = none) (d x : Operand) (E : El P t e k bytes) (ho : o.op = Op.call { callee := Callee.builtin Builtin.copy, args := #[d, x], argTypes := #[t, sT] })
    (g off dLen dCap sLen sCap n : Nat) (dp sp : Option Addr) (hd : a.eval d = .slice dp dLen dCap) (hx : a.eval x = .slice sp sLen sCap) (cur : List Value) (tt : TypeId) (cs : List Value) (hg : w.heap[g]? = some (.cells cur.toArray tt (0, 0))) (hn : n = Nat.min sLen dLen) (hl : cs.length = n * k)
    (hpos : 0 < n → dp = some ⟨g, off, none⟩ ∧ ∃ ad, sp = some ad ∧ ∀ j v, cs[j]? = some v → w.cell? (ad.add j) = some v) (hfit : off + cs.length ≤ cur.length) (h1 : ∀ v ∈ cs, v.oneCell' = true)
    (h : ∀ w', Hid (w'.heap[g]? = some (.cells (splice cur off cs).toArray tt (0, 0))) → w.grownBy w' (some g) → w'.heap.size = w.heap.size → wpList P ops Q' rest (a.put o.dst (.int .i64 (n : Nat))) w') : wpList P ops Q' (o :: rest) a w := by
  refine wpList_plain hgd fun K hK => ?_
  unfold Oper.wp
  have hr := run_copyk (sT := sT) E o.type g off dLen dCap sLen sCap n dp sp cur.toArray tt cs hg hn hl hpos (by simpa using hfit) h1
  simp only [execOp, ho, resolve, invoke, builtin, Sem.run_bind, Sem.run_pure, Result.andThen_ok, List.map_toArray, List.map_cons, List.map_nil, hd, hx, hr]
  refine hK _ _ (h _ ?_ ?_ ?_)
  · exact setRow_heap w g _ _ tt _ hg
  · exact ⟨rfl, rfl, rfl, by simp [World.setRow], fun j _ hj => setRow_other w g j _ (fun e => hj (by rw [e]))⟩
  · simp [World.setRow]
/-- clear of n elements from place off of row g on: zero cells -/
theorem run_cleark {z : Value} (E : El P t e k bytes) (hz : ∀ w, (zeroValue e).run P w = .ok z w) (hzk : z.cells.size = k) (h1 : ∀ v ∈ z.cells.toList, v.oneCell' = true) (ty : TypeId) (g off n c : Nat) (hn : 0 < n) (cur : Array Value) (tt : TypeId) (hg : w.heap[g]? = some (.cells cur tt (0, 0))) (hfit : off + n * k ≤ cur.size) :
    (Builtin.clear_ #[t] ty #[.slice (some ⟨g, off, none⟩) n c]).run P w = .ok (.tuple #[]) (w.setRow g (splice cur.toList off (Builtin.zeroCells z.cells n).toList).toArray) := by
  have hsz : (Builtin.zeroCells z.cells n).toList.length = n * k := by rw [Array.length_toList, size_zeroCells, hzk]
  have hst := run_storeCells_at P g off tt (Builtin.zeroCells z.cells n).toList 0 cur w hg (by rw [hsz]; simpa using hfit) (fun v hv => by
    unfold Builtin.zeroCells at hv
    simp only [Array.toList_map, List.mem_map] at hv
    obtain ⟨i, _, rfl⟩ := hv
    have hi : i % z.cells.size < z.cells.size := Nat.mod_lt _ (by rw [hzk]; exact E.pos)
    rw [getElem!_pos z.cells _ hi]
    exact h1 _ (by simp))
  simp only [Nat.add_zero] at hst
  have e1 : splice cur.toList off (Builtin.zeroCells z.cells n).toList = cur.toList.take off ++ (Builtin.zeroCells z.cells n).toList ++ cur.toList.drop (off + (Builtin.zeroCells z.cells n).toList.length) := by simp [splice]
  rw [e1]
  obtain ⟨m, rfl⟩ : ∃ m, n = m + 1 := ⟨n - 1, by omega⟩
  simp [Builtin.clear_, run_underlying E.und, hz, hst]
/-- append where there is room: m elements behind the first n -/
theorem run_append_roomk (E : El P t e k bytes) (ty : TypeId) (g off n cap m c : Nat) (ad : Addr) (cur : Array Value) (tt : TypeId) (news : List Value) (hg : w.heap[g]? = some (.cells cur tt (0, 0))) (hl : news.length = m * k) (hnews : ∀ j u, news[j]? = some u → w.cell? (ad.add j) = some u) (h1 : ∀ u ∈ news, u.oneCell' = true)
    (hroom : n + m ≤ cap) (hfit : off + n * k + news.length ≤ cur.size) :
    (Builtin.append_ #[t, t] ty #[.slice (some ⟨g, off, none⟩) n cap, .slice (some ad) m c]).run P w = .ok (.slice (some ⟨g, off, none⟩) (n + m) cap) (w.setRow g (splice cur.toList (off + n * k) news).toArray) := by
  obtain ⟨i, z, hi, hz, hsz, hby, hzs⟩ := E.inf
  have hfc := run_firstCells_some (P := P) w k m ad m c news hl hnews
  have hst := run_storeCells_at P g (off + n * k) tt news 0 cur w hg (by simpa using hfit) h1
  simp only [Nat.add_zero] at hst
  have e1 : splice cur.toList (off + n * k) news = cur.toList.take (off + n * k) ++ news ++ cur.toList.drop (off + n * k + news.length) := by simp [splice]
  rw [e1]
  simp [Builtin.append_, run_underlying E.und, sizeOf, typeInfo, hi, hsz, Builtin.lenOf, hfc, hroom, addr_add, hst]
/-- .. as a step of a region that draws -/
theorem step_appk {K : Act → World → Prop} {E0 : Prop} (hgd : o.guard = none) (d x : Operand) (E : El P t e k bytes) (ho : o.op = Op.call { callee := Callee.builtin Builtin.append, args := #[d, x], argTypes := #[t, t] })
    (g off n cap m c : Nat) (ad : Addr) (hd : a.eval d = .slice (some ⟨g, off, none⟩) n cap) (hx : a.eval x = .slice (some ad) m c) (cur : List Value) (tt : TypeId) (news : List Value) (hg : w.heap[g]? = some (.cells cur.toArray tt (0, 0))) (hl : news.length = m * k) (hnews : ∀ j u, news[j]? = some u → w.cell? (ad.add j) = some u) (h1 : ∀ u ∈ news, u.oneCell' = true)
    (hroom : n + m ≤ cap) (hfit : off + n * k + news.length ≤ cur.length)
    (h : ∀ w', Hid (w'.heap[g]? = some (.cells (splice cur (off + n * k) news).toArray tt (0, 0))) → w.grownBy w' (some g) → w'.heap.size = w.heap.size → K (a.put o.dst (.slice (some ⟨g, off, none⟩) (n + m) cap)) w') :
    if Region.wanted o (yielded ops a.tmps) = true then Oper.wp P o a w K Q' else E0 := by
  have hw : Region.wanted o (yielded ops a.tmps) = true := by simp [Region.wanted, hgd]
  rw [if_pos hw]
  have hr := run_append_roomk E o.type g off n cap m c ad cur.toArray tt news hg hl hnews h1 hroom (by simpa using hfit)
  unfold Oper.wp
  simp [execOp, ho, resolve, invoke, builtin, hd, hx, hr, Result.andThen]
  refine h _ ?_ ?_ ?_
  · exact setRow_heap w g _ _ tt _ hg
  · exact ⟨rfl, rfl, rfl, by simp [World.setRow], fun j _ hj => setRow_other w g j _ (fun e => hj (by rw [e]))⟩
  · simp [World.setRow]
end
end Go.Proofs.Ytbgbalfhbficaaa
