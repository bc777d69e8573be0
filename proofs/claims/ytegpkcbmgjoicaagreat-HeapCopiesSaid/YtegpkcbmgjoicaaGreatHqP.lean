/- Parts of Resize: more steps of regions that draw their order; slices.Clone of numbers; alignOf; a live block's bytes exchanged. Conditions: as each theorem says. -/
import Derived.Test.YtegpkcbmgjoicaaGreatHqO
namespace Go.Proofs.YtegpkcbmgjoicaaGreat
open Go.RowKit HP
set_option linter.unusedVariables false
namespace Ri
section
variable {P : Program} {R : Exit → Act → World → Prop} {o : Oper} {A : Act} {w : World}
theorem run_mini {x y : Operand} {t t' : TypeId} {p u : Int} (ho : o.op = .call { callee := .builtin .min, args := #[x, y], argTypes := #[t, t'] }) (hx : A.eval x = .int .i64 p) (hy : A.eval y = .int .i64 u) : (execOp A.eval o).run P w = .ok (.value (.int .i64 (min p u))) w := by
  unfold execOp
  have e : min p u = if u < p then u else p := by
    split
    · exact Int.min_eq_right (by omega)
    · exact Int.min_eq_left (by omega)
  rw [e]
  simp only [ho, resolve, invoke, builtin, Sem.run_bind, Sem.run_pure, Result.andThen_ok, List.map_toArray, List.map_cons, List.map_nil, hx, hy]
  simp [Builtin.min_, Builtin.min2]
theorem run_len {x : Operand} {t e : TypeId} {b : Option Addr} {n c : Nat} (ho : o.op = .call { callee := .builtin .len, args := #[x], argTypes := #[t] }) (hx : A.eval x = .slice b n c) (ht : P.underlying t = some (.slice e)) : (execOp A.eval o).run P w = .ok (.value (.int .i64 (n : Nat))) w := by
  unfold execOp
  simp only [ho, resolve, invoke, builtin, Sem.run_bind, Sem.run_pure, Result.andThen_ok, List.map_toArray, List.map_cons, List.map_nil, hx]
  simp [Builtin.len_, run_underlying ht, goInt]
theorem run_sub {x y : Operand} {t t' : TypeId} {p u : Int} (ho : o.op = .binOp .sub t x y t') (hx : A.eval x = .int .i64 p) (hy : A.eval y = .int .i64 u) (hu : P.underlying t = some (.int .i64)) (h0 : -9223372036854775808 ≤ p - u) (h1 : p - u ≤ 9223372036854775807) : (execOp A.eval o).run P w = .ok (.value (.int .i64 (p - u))) w := by
  have e : IntKind.i64.wrap (p - u) = p - u := by rw [IntKind.wrap_i64]; omega
  unfold execOp
  simp only [ho, hx, hy]
  simp [go_sem, e]
theorem run_eql {x y : Operand} {t t' : TypeId} {p u : Int} (ho : o.op = .binOp .eql t x y t') (hx : A.eval x = .int .i64 p) (hy : A.eval y = .int .i64 u) (hu : P.underlying t = some (.int .i64)) : (execOp A.eval o).run P w = .ok (.value (.bool (p == u))) w := by
  unfold execOp
  simp only [ho, hx, hy]
  simp [go_sem]
theorem run_ext {x : Operand} {k : Nat} {vs : Array Value} {v : Value} (ho : o.op = .extract x k) (hx : A.eval x = .tuple vs) (hv : vs[k]? = some v) : (execOp A.eval o).run P w = .ok (.value v) w := by
  unfold execOp
  simp [ho, hx, Instr.extract, hv]
theorem run_nilI {x : Operand} {t : TypeId} {u : Value} (ho : o.op = .nilCheck x) (hx : A.eval x = .iface t u) : (execOp A.eval o).run P w = .ok (.value (.iface t u)) w := by
  unfold execOp
  simp [ho, hx]
/-- a slice cut short -/
theorem run_cut {x hi : Operand} {t e : TypeId} {b n c : Nat} {m : Nat} (ho : o.op = .slice t x none (some hi) none) (hx : A.eval x = .slice (some ⟨b, 0, none⟩) n c) (hh : A.eval hi = .int .i64 (m : Int)) (hu : P.underlying t = some (.slice e)) {sz : Nat} (hs : (P.info? e).map (·.size) = some sz) (hm : m ≤ c) :
    (execOp A.eval o).run P w = .ok (.value (.slice (some ⟨b, 0, none⟩) m c)) w := by
  have hu' : P.underlying t = some (.slice (P.elem t)) := by
    have : P.elem t = e := by unfold Program.elem; simp [hu]
    rw [this]; exact hu
  have he : P.elem t = e := by unfold Program.elem; simp [hu]
  have hsz : (sizeOf e).run P w = .ok sz w := by
    cases hq : P.info? e with
    | none => simp [hq] at hs
    | some i => simp [hq] at hs; simp [sizeOf, typeInfo, hq, hs]
  unfold execOp
  simp only [ho, hx, Option.map_none, Option.map_some, hh]
  simp [run_sliceAt_slice _ _ _ _ _ _ hu', run_slice_h (P := P) w t _ n c hu' .i64 (m : Int) (by omega) (by omega), he, hsz, sliced]
  intro _
  exact addr_add b 0 0
/-- two or more cells, read as a value -/
theorem run_ldagg {ty : TypeId} {x : Operand} {g off : Nat} {cs : List Value} {d : TypeDesc} (ho : o.op = .load ty x) (hx : A.eval x = .pointer (some ⟨g, off, none⟩)) (hc : ∀ j v, cs[j]? = some v → w.cell? ⟨g, off + j, none⟩ = some v) (hu : P.underlying ty = some d) (hd : (match d with | .struct _ | .array _ _ => true | _ => false) = true) (hi : (P.info? ty).map (·.size) = some cs.length) :
    (execOp A.eval o).run P w = .ok (.value (.agg cs.toArray)) w := by
  have hl : (loadCells ⟨g, off, none⟩ cs.length).run P w = .ok cs.toArray w := run_loadCells_list (P := P) w ⟨g, off, none⟩ cs (fun j v hv => by rw [addr_add]; exact hc j v hv)
  have h : (loadVar ty ⟨g, off, none⟩).run P w = .ok (.agg cs.toArray) w := by
    cases hq : P.info? ty with
    | none => simp [hq] at hi
    | some i =>
      have hs : i.size = cs.length := by simpa [hq] using hi
      have hagg : (isAgg ty).run P w = .ok true w := by
        unfold isAgg
        rw [Sem.run_bind, run_underlying hu w]
        cases d <;> simp_all
      simp [loadVar, hagg, sizeOf, typeInfo, hq, hs, hl, Sem.run_bind]
  unfold execOp
  simp [ho, hx, Instr.loadAt, Instr.sureAddr, h, Sem.run_bind]
/-- an element's address -/
theorem run_idx {t e : TypeId} {x y : Operand} {g off n c k sz : Nat} (ho : o.op = .indexAddr t x y) (hx : A.eval x = .slice (some ⟨g, off, none⟩) n c) (hy : A.eval y = .int .i64 (k : Int)) (hu : P.underlying t = some (.slice e)) (hs : (P.info? e).map (·.size) = some sz) (hk : k < n) :
    (execOp A.eval o).run P w = .ok (.value (.pointer (some ⟨g, off + k * sz, none⟩))) w := by
  have hsz : (sizeOf e).run P w = .ok sz w := by
    cases hq : P.info? e with
    | none => simp [hq] at hs
    | some i => simp [hq] at hs; simp [sizeOf, typeInfo, hq, hs]
  have he : P.elem t = e := by unfold Program.elem; simp [hu]
  have hu' : P.underlying t = some (.slice (P.elem t)) := by rw [he]; exact hu
  unfold execOp
  simp only [ho, hx, hy]
  have h1 : (k : Int) < (n : Int) := by omega
  simp [run_indexAt_slice (P := P) w t _ n c .i64 (k : Int) hu', he, hsz, hk, addr_add, Result.andThen]
/-- the last operation, that yields a value and turns nothing -/
theorem wp_lastv {v : Value} (h : (execOp A.eval o).run P w = .ok (.value v) w) (hR : R .normal (A.put o.dst v) w) : o.wp P A w (fun a' w' => ∃ v, a' = A.put o.dst v ∧ R .normal a' w') R := by
  unfold Oper.wp
  rw [h]
  exact ⟨v, rfl, hR⟩
/-- a call through an interface value -/
theorem wp_invokeW {recv : Operand} {name : String} {args : Array Operand} {ts : Array TypeId} {ty : TypeId} {v : Value} {f : FuncId} {rcv : Value} {F : Nat} {Post : Value → World → Prop} (ho : o.op = .call { callee := .invoke recv name, args := args, argTypes := ts }) (hr : A.eval recv = .iface ty v) (hF : P.types.size + Made.depth = F)
    (hm : ∀ w, (method F ty v name).run P w = .ok (f, rcv) w) (he : ∀ args w, (callFunc f args).run P w = .ok (.enter f args) w) (vals : Array Value) (ha : args.map A.eval = vals) (hc : Calls P f (#[rcv] ++ vals) w fun e w' => ∃ v, e = .returned v ∧ Post v w') :
    o.wp P A w (fun a' w' => ∃ v, a' = A.put o.dst v ∧ Post v w') R := by
  have hx : (execOp A.eval o).run P w = .ok (.enter f (#[rcv] ++ vals)) w := by
    unfold execOp
    subst hF
    simp only [ho, resolve, Sem.run_bind, Sem.run_pure, Result.andThen_ok]
    rw [ha, invoke_method, hr, callMethod]
    show Sem.run P (do
      let p ← program
      let (f, receiver) ← method (p.types.size + Made.depth) ty v name
      callFunc f (#[receiver] ++ vals)) w = _
    rw [Sem.run_bind]
    have hp : (program : Sem Program).run P w = .ok P w := rfl
    rw [hp]
    simp only [Result.andThen_ok]
    rw [Sem.run_bind, hm]
    simp only [Result.andThen_ok, he]
  unfold Oper.wp
  rw [hx]
  refine hc.mono fun e w' ⟨v, he', hK⟩ => ?_
  subst he'
  exact ⟨v, rfl, hK⟩
/-- append of a slice's elements to a row of the call's own -/
theorem wp_appW {t e size bytes base : Nat} {v : Value} {n m c B : Nat} {xs news : List Value} {ad : Addr} {Post : Value → World → Prop} (E : El P t e size bytes) (s x : Operand) (ho : o.op = .call { callee := .builtin .append, args := #[s, x], argTypes := #[t, t] })
    (hs : A.eval s = v) (hown : w.ownsRow base e size v n xs) (hx : A.eval x = .slice (some ad) m c) (hl : news.length = m * size) (hr : Rd w B (some ad) news) (h1 : ∀ u ∈ news, u.oneCell' = true)
    (hb : (n + m) * bytes ≤ 140737488355328) (hbase : base ≤ w.heap.size) (h : ∀ v' w', w'.ownsRow base e size v' (n + m) (xs ++ news) → w.grownBy w' v.ownBlock → Post v' w') : o.wp P A w (fun a' w' => ∃ v, a' = A.put o.dst v ∧ Post v w') R := by
  obtain ⟨i, z, hi, hz, hsz, hby, hzs⟩ := E.inf
  have hle : n + m ≤ (n + m) * bytes := Nat.le_mul_of_pos_right _ E.bpos
  refine wp_append_own _ s x t ho base e i z size bytes E.und hi hz hsz hby hzs E.pos v n xs hs hown ad m c news hx hl (fun j u hu => ?_) h1 (by simp only [maxLen]; omega) hb hbase (fun v' w' h2 h3 _ => ⟨v', rfl, h v' w' h2 h3⟩)
  rcases hr with rfl | ⟨b, o, h2, _, h3⟩
  · simp at hu
  · obtain rfl := Option.some.inj h2
    rw [addr_add]
    exact h3 j u hu
end
end Ri
theorem wpList_appnew {P : Program} {t e size bytes : Nat} {w : World} {base : Nat} {ops : Array Oper} {rest : List Oper} {o : Oper} {a : Act} {Q' : Exit → Act → World → Prop} (hgd : o.guard = none) (E : El P t e size bytes) (s x : Operand)
    (ho : o.op = .call { callee := .builtin .append, args := #[s, x], argTypes := #[t, t] }) {b0 A : Option Addr} {m c B : Nat} {news : List Value} (hs : a.eval s = .slice b0 0 0) (hx : a.eval x = .slice A m c) (hown : w.ownsRow base e size (.slice b0 0 0) 0 []) (hA : A = none → m = 0 ∧ c = 0) (hl : news.length = m * size) (hr : Rd w B A news) (h1 : ∀ u ∈ news, u.oneCell' = true)
    (hb : m * bytes ≤ 140737488355328) (hbase : base ≤ w.heap.size) (h : ∀ v w', w'.ownsRow base e size v m news → Q w w' → wpList P ops Q' rest (a.put o.dst v) w') : wpList P ops Q' (o :: rest) a w := by
  obtain ⟨v, w', hr2, h2, h3⟩ := run_append_new (P := P) E hown hA hl hr h1 hb hbase o.type
  exact Lib.wpList_append_run w hgd s x t t ho _ _ hs hx v w' hr2 (h v w' h2 h3)
set_option maxRecDepth 100000 in
set_option maxHeartbeats 4000000 in
theorem cloneI_any (b n c : Nat) (l : List Int) (w : World) (hl : l.length = n) (hr : Rd w w.heap.size (some ⟨b, 0, none⟩) (intsV l)) (hn : n ≤ 100000) :
    Calls Tryz.prog 37 #[.slice (some ⟨b, 0, none⟩) n c] w fun e w' => ∃ v, e = .returned v ∧ w'.ownsRow w.heap.size 3 1 v n (intsV l) ∧ Q w w' := by
  have HR := hide hr
  have HL := hide hl
  have ho := own_lit0 w w.heap.size 3 1 w.heap.size rfl (Nat.le_refl _)
  have HO := hide ho
  clear hr hl ho
  have kn := fun (W : World) (a : Option Addr) (n c n' c' : Nat) => Lib.run_eql_slice_nil (P := Tryz.prog) W 30 _ a n c n' c' Tryz.underlying30
  go_enter Tryz.func37, Tryz.ntmps37
  go_wp2_with (at_builtin; go_loud (refine wpList_appnew rfl El_int _ _ rfl rfl rfl HO.out (fun h => (by cases h)) ?_ (HR.out.up ((Q.refl w).alloc _)) ?_ ?_ ?_ ?_; (focus (unfold intsV; rw [List.length_map, HL.out, Nat.mul_one])); (focus (intro u hu; obtain ⟨x, _, rfl⟩ := List.mem_map.1 hu; simp [Value.oneCell'])); (focus omega); (focus (simp)); intro v5 w5 hv5 hq5; have HV5 := hide hv5; have HQ5 := hide (show Q w w5 from ((Q.refl w).alloc _).trans hq5); clear hv5 hq5))
  go_ret
  exact ⟨_, rfl, HV5.out, HQ5.out⟩
/-- the greatest alignment that a place has -/
def alignOfM (at_ : Int) : Int := if at_ % 16 = 0 then 16 else if at_ % 8 = 0 then 8 else if at_ % 4 = 0 then 4 else if at_ % 2 = 0 then 2 else 1
set_option maxRecDepth 100000 in
theorem alignOf_any (at_ : Int) (w : World) (h0 : 0 ≤ at_) : Calls Tryz.prog 50 #[.int .i64 at_] w fun e w' => e = .returned (.int .i64 (alignOfM at_)) ∧ Q w w' := by
  obtain ⟨w1, hw1⟩ : ∃ w1, w.alloc (.cells #[.int .i64 16, .int .i64 8, .int .i64 4, .int .i64 2] 3) = w1 := ⟨_, rfl⟩
  have hq1 : Q w w1 := by rw [← hw1]; exact (Q.refl w).alloc _
  have hs1 : w.heap.size < w1.heap.size := by rw [← hw1]; simp
  have c0 : w1.cell? ⟨w.heap.size, 0, none⟩ = some (.int .i64 16) := by rw [← hw1, cell_new]; rfl
  have c1 : w1.cell? ⟨w.heap.size, 1, none⟩ = some (.int .i64 8) := by rw [← hw1, cell_new]; rfl
  have c2 : w1.cell? ⟨w.heap.size, 2, none⟩ = some (.int .i64 4) := by rw [← hw1, cell_new]; rfl
  have c3 : w1.cell? ⟨w.heap.size, 3, none⟩ = some (.int .i64 2) := by rw [← hw1, cell_new]; rfl
  have HC : Hid (∀ k : Nat, k < 4 → ∃ d : Int, (d = 16 ∧ k = 0 ∨ d = 8 ∧ k = 1 ∨ d = 4 ∧ k = 2 ∨ d = 2 ∧ k = 3) ∧ w1.cell? ⟨w.heap.size, k, none⟩ = some (.int .i64 d)) := fun k hk => by
    match k, hk with
    | 0, _ => exact ⟨16, by omega, c0⟩
    | 1, _ => exact ⟨8, by omega, c1⟩
    | 2, _ => exact ⟨4, by omega, c2⟩
    | 3, _ => exact ⟨2, by omega, c3⟩
  have HW := hide hw1
  clear hw1 c0 c1 c2 c3
  go_enter Tryz.func50, Tryz.ntmps50
  go_wp2_with fail
  rw [HW.out]
  go_loopw [7] (fun v7 wr => ∃ k : Nat, k ≤ 4 ∧ v7 = .int .i64 (k : Int) ∧ Hid ((0 < k → ¬ at_ % 16 = 0) ∧ (1 < k → ¬ at_ % 8 = 0) ∧ (2 < k → ¬ at_ % 4 = 0) ∧ (3 < k → ¬ at_ % 2 = 0)) ∧ Q w1 wr) (fun v7 _ => 4 - (intOf v7).toNat)
  case atStart => exact ⟨0, by omega, by go_num, hide ⟨by omega, by omega, by omega, by omega⟩, Q.refl _⟩
  case round =>
    obtain ⟨k, hk, rfl, HK, hq⟩ := hrel
    by_cases hlt : k < 4
    · have hd1 : decide ((k : Int) < 4) = true := by simp; omega
      have hd0 : decide (k < 4) = true := by simp; omega
      obtain ⟨d, hd, hc⟩ := HC.out k hlt
      have hcr := (hq.facts.1 _ k hs1).trans hc
      have hdp : 0 < d := by omega
      have hdz : ¬ d = 0 := by omega
      have hki : (k : Int) < 4 := by omega
      have htm : at_.tmod d = at_ % d := Int.tmod_eq_emod_of_nonneg h0
      have HD := hide hd
      have HD2 : Hid (0 < d ∧ d ≤ 16) := hide (by omega)
      have hb0 : 0 ≤ at_ % d := Int.emod_nonneg _ (by omega)
      have hb1 : at_ % d < 16 := by have := Int.emod_lt_of_pos at_ hdp; omega
      by_cases h : at_ % d = 0
      · have he : (at_ % d == 0) = true := by simpa using h
        have hA : alignOfM at_ = d := by
          unfold alignOfM
          have := HK.out
          rcases hd with ⟨rfl, rfl⟩ | ⟨rfl, rfl⟩ | ⟨rfl, rfl⟩ | ⟨rfl, rfl⟩
          · rw [if_pos (by omega)]
          · rw [if_neg (by omega), if_pos (by omega)]
          · rw [if_neg (by omega), if_neg (by omega), if_pos (by omega)]
          · rw [if_neg (by omega), if_neg (by omega), if_neg (by omega), if_pos (by omega)]
        have HA := hide hA
        clear hA hd h hc
        go_wp2_with fail
        go_ret
        exact ⟨by rw [HA.out]; rfl, hq1.trans hq⟩
      · have he : (at_ % d == 0) = false := by simpa using h
        have HN : Hid ((0 < k + 1 → ¬ at_ % 16 = 0) ∧ (1 < k + 1 → ¬ at_ % 8 = 0) ∧ (2 < k + 1 → ¬ at_ % 4 = 0) ∧ (3 < k + 1 → ¬ at_ % 2 = 0)) := by
          have := HK.out
          refine hide ?_
          rcases hd with ⟨rfl, rfl⟩ | ⟨rfl, rfl⟩ | ⟨rfl, rfl⟩ | ⟨rfl, rfl⟩ <;> omega
        clear hd h hc
        go_wp2_with fail
        go_roundw
        case rel => exact ⟨k + 1, by omega, by go_num, HN, hq⟩
        case measure => simp [intOf] <;> omega
    · have hd1 : decide ((k : Int) < 4) = false := by simp; omega
      have hd0 : decide (k < 4) = false := by simp; omega
      have hk4 : k = 4 := by omega
      have hA : alignOfM at_ = 1 := by
        unfold alignOfM
        have := HK.out
        rw [if_neg (by omega), if_neg (by omega), if_neg (by omega), if_neg (by omega)]
      have HA := hide hA
      clear hA hk4
      go_wp2_with fail
      go_ret
      exact ⟨by rw [HA.out]; rfl, hq1.trans hq⟩
end Go.Proofs.YtegpkcbmgjoicaaGreat
