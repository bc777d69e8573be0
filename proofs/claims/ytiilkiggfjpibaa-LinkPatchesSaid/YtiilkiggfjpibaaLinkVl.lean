/- Stretches: what is put together, and merged; the list that is merged shares its first element with the list that it is made from. Conditions: as each theorem says. -/
import Derived.Test.YtiilkiggfjpibaaLinkVk
import Derived.Test.YtiilkiggfjpibaaRp
import Derived.Test.YtiilkiggfjpibaaAppB
namespace Go.Proofs.Ytiilkiggfjpibaa
open Go.RowKit LK
set_option linter.unusedVariables false
set_option linter.unusedSimpArgs false
def mkSt (a b : Nat) : St := (⟨a % 65536, Nat.mod_lt _ (by decide)⟩, ⟨b % 65536, Nat.mod_lt _ (by decide)⟩)
theorem enc_mk {a b : Nat} (ha : a < 65536) (hb : b < 65536) : encP (mkSt a b) = [.int .i64 (a : Nat), .int .i64 (b : Nat)] := by
  unfold encP mkSt
  dsimp only
  rw [Nat.mod_eq_of_lt ha, Nat.mod_eq_of_lt hb]
def hasN (o : OV) (s : ByteArray) : Bool := o.2.1.xs.any fun y => y.1.toList == s.toList
def wantS (o p : OV) (x : Wnt) : Bool := hasN o x.2.2 || hasN p x.2.2
def strW (f : Wnt → Bool) (st : Nat) (ws : List Wnt) : List St := (ws.filter f).map fun x => mkSt (st + x.1.toNat) (st + x.1.toNat + 4)
theorem strW_step {f : Wnt → Bool} {st : Nat} {ws : List Wnt} {j : Nat} {x : Wnt} (h : ws[j]? = some x) : strW f st (ws.take (j + 1)) = strW f st (ws.take j) ++ (if f x = true then [mkSt (st + x.1.toNat) (st + x.1.toNat + 4)] else []) := by
  unfold strW
  rw [List.take_add_one, h, List.filter_append, List.map_append]
  congr 1
  by_cases hc : f x = true
  · rw [if_pos hc]; simp [hc]
  · rw [if_neg hc]; simp [hc]
theorem strW_len (f : Wnt → Bool) (st : Nat) (ws : List Wnt) : (strW f st ws).length ≤ ws.length := by
  unfold strW
  rw [List.length_map]
  exact List.length_filter_le _ _
def strAt (os : List OV) (i : Nat) (f : Wnt → Bool) (j : Nat) : List St := match os[j]? with | some q => if j = i then [] else strW f (offF (os.take j)) q.2.2.xs | none => []
def rawTo (os : List OV) (i : Nat) (f : Wnt → Bool) (k : Nat) : List St := mkSt (offF (os.take i)) (offF (os.take (i + 1))) :: (List.range k).flatMap (strAt os i f)
theorem rawTo_succ (os : List OV) (i : Nat) (f : Wnt → Bool) (k : Nat) : rawTo os i f (k + 1) = rawTo os i f k ++ strAt os i f k := by
  unfold rawTo
  rw [List.range_succ, List.flatMap_append]
  simp
theorem strAt_len {os : List OV} {i : Nat} {f : Wnt → Bool} (h : ∀ q ∈ os, q.2.2.xs.length ≤ 16) (j : Nat) : (strAt os i f j).length ≤ 16 := by
  unfold strAt
  cases hq : os[j]? with
  | none => simp
  | some q =>
    dsimp only
    split
    · simp
    · exact Nat.le_trans (strW_len _ _ _) (h q (List.mem_of_getElem? hq))
theorem rawTo_len {os : List OV} {i : Nat} {f : Wnt → Bool} (h : ∀ q ∈ os, q.2.2.xs.length ≤ 16) : ∀ k, (rawTo os i f k).length ≤ 1 + 16 * k
  | 0 => by simp [rawTo]
  | k + 1 => by
    have ih := rawTo_len h k (i := i) (f := f)
    have h1 := strAt_len h k (i := i) (f := f)
    rw [rawTo_succ, List.length_append]
    omega
theorem wnt_len {o : OV} (h : o.valid = 0) : o.2.2.xs.length ≤ 16 := Classical.byContradiction fun hn => by
  unfold OV.valid at h
  rw [valid_big (.inr (.inr (by omega)))] at h
  cases h
theorem wnt_at {o : OV} (h : o.valid = 0) {x : Wnt} (hx : x ∈ o.2.2.xs) : 0 ≤ x.1 ∧ x.1 + 4 ≤ (o.1.n : Int) := by
  unfold OV.valid validF at h
  have hs : soundB o.1.n o.2.1.xs o.2.2.xs = true := by
    cases hs : soundB o.1.n o.2.1.xs o.2.2.xs with
    | true => rfl
    | false => rw [hs] at h; split at h <;> simp at h
  simp only [soundB, Bool.and_eq_true] at hs
  have hx := wantsOk_mem hs.2 hx
  unfold wntOk at hx
  simp only [Bool.and_eq_true, decide_eq_true_eq] at hx
  obtain ⟨⟨⟨⟨-, a0⟩, a1⟩, a2⟩, a3⟩ := hx
  omega
/-- one more stretch to those that are merged -/
def stepM (ys : List St) (x : St) : List St := match ys.getLast? with
  | some l => if x.1.val ≤ l.2.val then ys.dropLast ++ [(l.1, if l.2.val < x.2.val then x.2 else l.2)] else ys ++ [x]
  | none => [x]
def mergeS (ts : List St) : List St := match ts with | [] => [] | h :: t => t.foldl stepM [h]
theorem stepM_some {ys : List St} {x l : St} (h : ys.getLast? = some l) : stepM ys x = if x.1.val ≤ l.2.val then ys.dropLast ++ [(l.1, if l.2.val < x.2.val then x.2 else l.2)] else ys ++ [x] := by
  unfold stepM
  rw [h]
theorem foldM_step {ts : List St} {ys : List St} {k : Nat} {x : St} (h : ts[k]? = some x) : (ts.take (k + 1)).foldl stepM ys = stepM ((ts.take k).foldl stepM ys) x := by
  rw [List.take_add_one, h, List.foldl_append]
  rfl
theorem stepM_len (ys : List St) (x : St) : (stepM ys x).length ≤ ys.length + 1 := by
  unfold stepM
  split
  · split
    · simp
    · simp
  · simp
theorem foldM_len (ts : List St) : ∀ ys : List St, (ts.foldl stepM ys).length ≤ ys.length + ts.length := by
  induction ts with
  | nil => intro ys; simp
  | cons x r ih =>
    intro ys
    have h1 := ih (stepM ys x)
    have h2 := stepM_len ys x
    simp only [List.foldl_cons, List.length_cons]
    omega
theorem El_st : El Try.prog 70 74 2 16 := El.of Try.underlying70 (show (Try.prog.info? 74).map (fun i => (i.zero, i.size, i.bytes)) = some (some (.agg #[.int .i64 0, .int .i64 0]), 2, 16) by kernel_rfl) rfl (by decide) (by decide)
/-- while merging: the list that is merged -/
structure Mst (w0 : World) (g m cap : Nat) (tl : List St) (v : Value) (ys : List St) (W : World) : Prop where
  q : Q w0 W
  ml : m = tl.length + 1
  row : ∃ z : St, W.ownsRow w0.heap.size 74 2 (.slice (some ⟨g, 0, none⟩) m cap) m ((z :: tl).flatMap encP) ∧ ((v = .slice (some ⟨g, 0, none⟩) 1 1 ∧ ys = [z]) ∨ (0 < ys.length ∧ ∃ h c, v = .slice (some ⟨h, 0, none⟩) ys.length c ∧ h ≠ g ∧ W.ownsRow w0.heap.size 74 2 v ys.length (ys.flatMap encP)))
section
variable {w0 W : World} {g m cap : Nat} {tl : List St} {v : Value} {ys : List St}
theorem Mst.up {W' : World} (h : Mst w0 g m cap tl v ys W) (hq : Q W W') : Mst w0 g m cap tl v ys W' := by
  obtain ⟨z, h1, h2⟩ := h.row
  refine ⟨h.q.trans hq, h.ml, z, own_q h1 hq, ?_⟩
  rcases h2 with h2 | ⟨h0, hh, c, h2, h3, h4⟩
  · exact .inl h2
  · exact .inr ⟨h0, hh, c, h2, h3, own_q h4 hq⟩
/-- an element of those that are still to come -/
theorem Mst.at_ (h : Mst w0 g m cap tl v ys W) {k : Nat} {x : St} (hk : tl[k]? = some x) : g < W.heap.size ∧ W.cell? ⟨g, (k + 1) * 2, none⟩ = some (.int .i64 (x.1.val : Nat)) ∧ W.cell? ⟨g, (k + 1) * 2 + 1, none⟩ = some (.int .i64 (x.2.val : Nat)) := by
  obtain ⟨z, h1, -⟩ := h.row
  obtain ⟨g', c', e, -, hgl, -, -, hc, -⟩ := own_at h1 (by have := h.ml; omega)
  injection e with e1
  injection e1 with e1
  injection e1 with e1
  subst e1
  have f0 := flatMap_get (enc := encP) (k := 2) len_encP (z :: tl) (k + 1) 0 x (by simpa using hk) (by decide)
  have f1 := flatMap_get (enc := encP) (k := 2) len_encP (z :: tl) (k + 1) 1 x (by simpa using hk) (by decide)
  exact ⟨hgl, hc _ _ f0, hc _ _ f1⟩
theorem flat_last (init : List St) (l : St) (e : Fin 65536) : ((init ++ [l]).flatMap encP).set (init.length * 2 + 1) (.int .i64 (e.val : Nat)) = (init ++ [(l.1, e)]).flatMap encP := by
  have hl : (init.flatMap encP).length = init.length * 2 := flatMap_length (k := 2) len_encP init
  rw [List.flatMap_append, List.flatMap_append, List.set_append_right _ _ (by omega), hl, show init.length * 2 + 1 - init.length * 2 = 1 by omega]
  simp [encP]
/-- the last one of those that are merged, and a store into its end -/
theorem Mst.last (h : Mst w0 g m cap tl v ys W) : ∃ pb j c l, v = .slice (some ⟨pb, 0, none⟩) (j + 1) c ∧ ys.length = j + 1 ∧ ys.getLast? = some l ∧ w0.heap.size ≤ pb ∧ pb < W.heap.size ∧ W.cell? ⟨pb, j * 2, none⟩ = some (.int .i64 (l.1.val : Nat)) ∧ W.cell? ⟨pb, j * 2 + 1, none⟩ = some (.int .i64 (l.2.val : Nat)) ∧ W.frozen? ⟨pb, j * 2 + 1, none⟩ = false ∧
    ∀ W', Q W W' → ∀ e : Fin 65536, Mst w0 g m cap tl v (ys.dropLast ++ [(l.1, e)]) (W'.setCell ⟨pb, j * 2 + 1, none⟩ (.int .i64 (e.val : Nat))) := by
  obtain ⟨z, h1, h2⟩ := h.row
  obtain ⟨g', c', e, hgb, hgl, -, -, hc, hz⟩ := own_at h1 (by have := h.ml; omega)
  injection e with e1
  injection e1 with e1
  injection e1 with e1
  subst e1
  rcases h2 with ⟨rfl, rfl⟩ | ⟨h0, hh, c, rfl, h3, h4⟩
  · refine ⟨g, 0, 1, z, rfl, rfl, rfl, hgb, hgl, hc 0 _ rfl, hc 1 _ rfl, hz 1, fun W' hq e => ⟨(h.q.trans hq).set hgb _, h.ml, (z.1, e), own_set (own_q h1 hq) 1 _, .inl ⟨rfl, rfl⟩⟩⟩
  · obtain ⟨j, hj⟩ : ∃ j, ys.length = j + 1 := ⟨ys.length - 1, by omega⟩
    obtain ⟨init, l, rfl⟩ : ∃ init l, ys = init ++ [l] := ⟨ys.dropLast, ys.getLast (fun e => by rw [e] at h0; simp at h0), (List.dropLast_concat_getLast _).symm⟩
    have hij : init.length = j := by simpa using hj
    obtain ⟨h', c2, e2, hb2, hl2, -, -, hc2, hz2⟩ := own_at h4 h0
    injection e2 with e2 _ _
    injection e2 with e2
    injection e2 with e2
    subst e2
    have f0 := flatMap_get (enc := encP) (k := 2) len_encP (init ++ [l]) j 0 l (by rw [← hij]; simp) (by decide)
    have f1 := flatMap_get (enc := encP) (k := 2) len_encP (init ++ [l]) j 1 l (by rw [← hij]; simp) (by decide)
    refine ⟨hh, j, c, l, by rw [hj], hj, by simp, hb2, hl2, hc2 _ _ f0, hc2 _ _ f1, hz2 _, fun W' hq e => ⟨(h.q.trans hq).set hb2 _, h.ml, z, (own_q h1 hq).kept grown_cell (.inr fun e => h3 (by simpa [Value.ownBlock] using e.symm)), .inr ⟨by simp, hh, c, by simp, h3, ?_⟩⟩⟩
    have h5 := own_set (own_q h4 hq) (j * 2 + 1) (.int .i64 (e.val : Nat))
    rw [← hij, flat_last] at h5
    simpa [hij] using h5
theorem run_append_cut {P : Program} {t e size bytes : Nat} (E : El P t e size bytes) {w : World} {B : Nat} {base : Nat} {b a : Addr} {n c : Nat} {xs news : List Value} (hl : xs.length = n * size) (ho : ∀ j u, xs[j]? = some u → w.cell? (b.add j) = some u) (hnl : news.length = size) (hn : ∀ j u, news[j]? = some u → w.cell? (a.add j) = some u)
    (hb : (n + 1) * bytes ≤ 140737488355328) (hbase : base ≤ w.heap.size) (ty : TypeId) :
    ∃ c2 w', (Builtin.append_ #[t, t] ty #[.slice (some b) n n, .slice (some a) 1 c]).run P w = .ok (.slice (some ⟨w.heap.size, 0, none⟩) (n + 1) c2) w' ∧ w'.ownsRow base e size (.slice (some ⟨w.heap.size, 0, none⟩) (n + 1) c2) (n + 1) (xs ++ news) ∧ Q w w' := by
  obtain ⟨i, z, hi, hz, hsz, hby, hzs⟩ := E.inf
  have hle : n + 1 ≤ (n + 1) * bytes := Nat.le_mul_of_pos_right _ E.bpos
  have hr := run_append_grow (P := P) w t ty e i z E.und hi hz b n n xs (by rw [hsz]; exact hl) ho a 1 c news (by rw [hsz, Nat.one_mul]; exact hnl) hn (by omega) (by omega) (growslice_fits (by omega) (by rw [hby]; exact hb))
  refine ⟨_, _, hr, ?_, (Q.refl w).drew.alloc _⟩
  have hge := grownCap_ge w (n + 1) n e
  have hcm : grownCap w (n + 1) n e ≤ maxLen := grownCap_le_maxLen w (n + 1) n e (by simp only [maxLen]; omega)
  have hlen : (xs ++ news).length = (n + 1) * size := by rw [List.length_append, hl, hnl, Nat.add_mul, Nat.one_mul]
  refine ⟨hlen, .inr ⟨w.heap.size, _, _, rfl, hbase, heap_alloc_new w.drew _, hge, hcm, ?_, ?_⟩⟩
  · simp only [Array.size_append, List.size_toArray, size_zeroCells, hzs, hl, hnl]
    rw [← Nat.add_one_mul, ← Nat.add_mul]
    congr 1
    omega
  · simp only [Array.toList_append, List.append_assoc]
    rw [← List.append_assoc, ← hlen]
    exact List.take_left
/-- one more stretch -/
theorem wpList_appM {ops : Array Oper} {rest : List Oper} {o : Oper} {a : Act} {Q' : Exit → Act → World → Prop} (hgd : o.guard = none) (s x : Operand) (ho : o.op = .call { callee := .builtin .append, args := #[s, x], argTypes := #[70, 70] })
    (hM : Mst w0 g m cap tl v ys W) (hs : a.eval s = v) {y : St} {k : Nat} (hk : k = W.heap.size) (hx : a.eval x = .slice (some ⟨k, 0, none⟩) 1 1) (hy : ys.length ≤ 1000)
    (h : ∀ v' w', Mst w0 g m cap tl v' (ys ++ [y]) w' → wpList Try.prog ops Q' rest (a.put o.dst v') w') : wpList Try.prog ops Q' (o :: rest) a (W.alloc (.cells #[.int .i64 (y.1.val : Nat), .int .i64 (y.2.val : Nat)] 74)) := by
  subst hk
  obtain ⟨z, h1, h2⟩ := hM.row
  obtain ⟨g', c', e, hgb, hgl, -, -, hc, hz⟩ := own_at h1 (by have := hM.ml; omega)
  injection e with e1
  injection e1 with e1
  injection e1 with e1
  subst e1
  have hqa : Q W (W.alloc (.cells #[.int .i64 (y.1.val : Nat), .int .i64 (y.2.val : Nat)] 74)) := (Q.refl W).alloc _
  have hn : ∀ (j : Nat) (u : Value), (encP y)[j]? = some u → (W.alloc (.cells #[.int .i64 (y.1.val : Nat), .int .i64 (y.2.val : Nat)] 74)).cell? ((⟨W.heap.size, 0, none⟩ : Addr).add j) = some u := fun j u hu => by
    rw [addr_add, Nat.zero_add, World.cell?_alloc_new]
    match j, hu with
    | 0, hu => injection hu with hu; rw [← hu]; rfl
    | 1, hu => injection hu with hu; rw [← hu]; rfl
    | j + 2, hu => simp [encP] at hu
  rcases h2 with ⟨rfl, rfl⟩ | ⟨h0, hh, c, rfl, h3, h4⟩
  · obtain ⟨c2, w', hr, hown, hq⟩ := run_append_cut (P := Try.prog) El_st (base := w0.heap.size) (w := W.alloc (.cells #[.int .i64 (y.1.val : Nat), .int .i64 (y.2.val : Nat)] 74)) (B := 0) (b := ⟨g, 0, none⟩) (a := ⟨W.heap.size, 0, none⟩) (n := 1) (c := 1) (xs := encP z) (news := encP y) rfl (fun j u hu => by
        rw [addr_add, Nat.zero_add]
        refine (hqa.facts.1 g j hgl).trans (hc j u ?_)
        simp only [List.flatMap_cons]
        rw [List.getElem?_append_left (by
          rcases Nat.lt_or_ge j (encP z).length with h9 | h9
          · exact h9
          · rw [List.getElem?_eq_none h9] at hu; cases hu)]
        exact hu) rfl hn (by decide) (by have := hM.q.size; simp; omega) o.type
    refine Lib.wpList_append_run _ hgd s x _ _ ho _ _ hs hx _ w' hr (h _ w' ⟨(hM.q.trans hqa).trans hq, hM.ml, z, own_q (own_q h1 hqa) hq, .inr ⟨by simp, _, _, rfl, ?_, ?_⟩⟩)
    · simp only [World.size_alloc]; omega
    · simpa using hown
  · refine wpList_app1b hgd El_st s x ho hs h4 rfl hx rfl (fun u hu => by simp at hu; rcases hu with rfl | rfl <;> rfl) (by omega) hM.q.size fun v' w' h5 h6 h7 => ?_
    obtain ⟨A2, c2, rfl, -⟩ := own_form h5
    obtain ⟨g3, c3, e3, hb3, hl3, -, -, -, -⟩ := own_at h5 (by omega)
    injection e3 with e3 e4 e5
    subst e3
    have hne : g3 ≠ g := by
      rcases h7 g3 rfl with h8 | h8
      · have : hh = g3 := by simpa [Value.ownBlock] using h8
        rw [← this]; exact h3
      · intro e; subst e; omega
    refine h _ w' ⟨?_, hM.ml, z, h1.kept h6 (.inr fun e => h3 (by simpa [Value.ownBlock] using e.symm)), .inr ⟨by simp, g3, c2, by simp, hne, ?_⟩⟩
    · exact q_grown hM.q h6 fun k e => by
        have := (h4.lt k e).1
        exact this
    · have he : ys.flatMap encP ++ (#[Value.int .i64 (y.1.val : Nat), .int .i64 (y.2.val : Nat)] : Array Value).toList = (ys ++ [y]).flatMap encP := by rw [List.flatMap_append]; simp [encP]
      rw [he] at h5
      simpa using h5
/-- the first one of the sorted list is the list that is merged, to begin with -/
theorem Mst.start {z : St} (hq : Q w0 W) (h : W.ownsRow w0.heap.size 74 2 (.slice (some ⟨g, 0, none⟩) m cap) m ((z :: tl).flatMap encP)) (hm : m = tl.length + 1) : Mst w0 g m cap tl (.slice (some ⟨g, 0, none⟩) 1 1) [z] W := ⟨hq, hm, z, h, .inl ⟨rfl, rfl⟩⟩
theorem Mst.done (h : Mst w0 g m cap tl v ys W) : ∃ h c, v = .slice (some ⟨h, 0, none⟩) ys.length c ∧ w0.heap.size ≤ h ∧ Sl 2 encP W (some ⟨h, 0, none⟩) ys.length c ys := by
  obtain ⟨z, h1, h2⟩ := h.row
  rcases h2 with ⟨rfl, rfl⟩ | ⟨h0, hh, c, rfl, h3, h4⟩
  · obtain ⟨g', c', e, hgb, hgl, -, -, hc, hz⟩ := own_at h1 (by have := h.ml; omega)
    injection e with e1
    injection e1 with e1
    injection e1 with e1
    subst e1
    refine ⟨g, 1, rfl, hgb, .inr ⟨g, 0, rfl, hgl, fun j u hu => ?_⟩, rfl, Nat.le_refl _, by decide⟩
    rw [Nat.zero_add]
    refine hc j u ?_
    simp only [List.flatMap_cons] at hu ⊢
    rw [List.flatMap_nil, List.append_nil] at hu
    rw [List.getElem?_append_left (by
      rcases Nat.lt_or_ge j (encP z).length with h9 | h9
      · exact h9
      · rw [List.getElem?_eq_none h9] at hu; cases hu)]
    exact hu
  · obtain ⟨h', c2, e2, hb2, hl2, -, -, hc2, hz2⟩ := own_at h4 h0
    injection e2 with e2 _ _
    injection e2 with e2
    injection e2 with e2
    subst e2
    exact ⟨hh, c, rfl, hb2, Sl.own h4 len_encP (by decide)⟩
end
end Go.Proofs.Ytiilkiggfjpibaa
