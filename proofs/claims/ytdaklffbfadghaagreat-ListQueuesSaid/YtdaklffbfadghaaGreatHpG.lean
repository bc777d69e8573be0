/- slices.Insert of one live block. Conditions: the row is the heap's own. -/
import Derived.Test.YtdaklffbfadghaaGreatHpF
import Derived.Lib.AppendZerosOnto
import Derived.Lib.Overlaps
import Derived.Deep.RegionLaw
namespace Go.Proofs.YtdaklffbfadghaaGreat
open Go.RowKit HP
set_option linter.unusedVariables false
theorem splice_get {α : Type} (L : List α) (off : Nat) (cs : List α) (h : off + cs.length ≤ L.length) (j : Nat) : (splice L off cs)[j]? = if j < off then L[j]? else if j < off + cs.length then cs[j - off]? else L[j]? := by
  unfold splice
  have h1 : (L.take off).length = off := by rw [List.length_take]; omega
  by_cases c1 : j < off
  · rw [if_pos c1, List.getElem?_append_left (by omega), List.getElem?_take, if_pos c1]
  · rw [if_neg c1, List.getElem?_append_right (by omega), h1]
    by_cases c2 : j < off + cs.length
    · rw [if_pos c2, List.getElem?_append_left (by omega)]
    · rw [if_neg c2, List.getElem?_append_right (by omega), List.getElem?_drop]
      congr 1
      omega
theorem splice_len {α : Type} (L : List α) (off : Nat) (cs : List α) (h : off + cs.length ≤ L.length) : (splice L off cs).length = L.length := length_splice L off cs h
/-- a list with some more from place i on -/
def insAt {α : Type} (xs : List α) (i : Nat) (new : List α) : List α := xs.take i ++ (new ++ xs.drop i)
theorem insAt_get {α : Type} (xs : List α) (i : Nat) (new : List α) (h : i ≤ xs.length) (j : Nat) : (insAt xs i new)[j]? = if j < i then xs[j]? else if j < i + new.length then new[j - i]? else xs[j - new.length]? := by
  unfold insAt
  have h1 : (xs.take i).length = i := by rw [List.length_take]; omega
  by_cases c1 : j < i
  · rw [if_pos c1, List.getElem?_append_left (by omega), List.getElem?_take, if_pos c1]
  · rw [if_neg c1, List.getElem?_append_right (by omega), h1]
    by_cases c2 : j < i + new.length
    · rw [if_pos c2, List.getElem?_append_left (by omega)]
    · rw [if_neg c2, List.getElem?_append_right (by omega), List.getElem?_drop]
      congr 1
      omega
theorem insAt_len {α : Type} (xs : List α) (i : Nat) (new : List α) (h : i ≤ xs.length) : (insAt xs i new).length = xs.length + new.length := by
  unfold insAt
  simp only [List.length_append, List.length_take, List.length_drop]
  omega
/-- the row behind two copies -/
theorem ins_row {α : Type} (cur xs new : List α) (i : Nat) (hx : cur.take xs.length = xs) (hi : i ≤ xs.length) (hl : xs.length + new.length ≤ cur.length) :
    (splice (splice cur (i + new.length) (xs.drop i)) i new).take (xs.length + new.length) = insAt xs i new := by
  have hd : (xs.drop i).length = xs.length - i := List.length_drop
  have f1 : i + new.length + (xs.drop i).length ≤ cur.length := by omega
  have f2 : i + new.length ≤ (splice cur (i + new.length) (xs.drop i)).length := by rw [splice_len _ _ _ f1]; omega
  have hcx : ∀ j, j < xs.length → cur[j]? = xs[j]? := fun j hj => by
    conv => rhs; rw [← hx]
    rw [List.getElem?_take, if_pos hj]
  apply List.ext_getElem?
  intro j
  rw [insAt_get xs i new hi, List.getElem?_take]
  by_cases c0 : j < xs.length + new.length
  · rw [if_pos c0, splice_get _ _ _ f2]
    by_cases c1 : j < i
    · rw [if_pos c1, if_pos c1, splice_get _ _ _ f1, if_pos (by omega), hcx j (by omega)]
    · rw [if_neg c1, if_neg c1]
      by_cases c2 : j < i + new.length
      · rw [if_pos c2, if_pos c2]
      · rw [if_neg c2, if_neg c2, splice_get _ _ _ f1, if_neg c2, if_pos (by omega), List.getElem?_drop]
        congr 1
        omega
  · rw [if_neg c0, if_neg (by omega), if_neg (by omega), List.getElem?_eq_none (by omega)]
theorem ins_row' {α : Type} (cur xs new : List α) (i : Nat) (hx : cur.take i = xs.take i) (hi : i ≤ xs.length) (hl : xs.length + new.length ≤ cur.length) :
    (splice (splice cur i new) (i + new.length) (xs.drop i)).take (xs.length + new.length) = insAt xs i new := by
  have hd : (xs.drop i).length = xs.length - i := List.length_drop
  have f1 : i + new.length ≤ cur.length := by omega
  have f2 : i + new.length + (xs.drop i).length ≤ (splice cur i new).length := by rw [splice_len _ _ _ f1]; omega
  have hcx : ∀ j, j < i → cur[j]? = xs[j]? := fun j hj => by
    have := congrArg (fun l => l[j]?) hx
    simpa [List.getElem?_take, hj] using this
  apply List.ext_getElem?
  intro j
  rw [insAt_get xs i new hi, List.getElem?_take]
  by_cases c0 : j < xs.length + new.length
  · rw [if_pos c0, splice_get _ _ _ f2]
    by_cases c1 : j < i
    · rw [if_pos (by omega), if_pos c1, splice_get _ _ _ f1, if_pos c1, hcx j c1]
    · by_cases c2 : j < i + new.length
      · rw [if_pos c2, if_neg c1, if_pos c2, splice_get _ _ _ f1, if_neg c1, if_pos c2]
      · rw [if_neg c2, if_neg c1, if_neg c2, if_pos (by omega), List.getElem?_drop]
        congr 1
        omega
  · rw [if_neg c0, if_neg (by omega), if_neg (by omega), List.getElem?_eq_none (by omega)]
def InsPost (v : Value) (n k : Nat) (xs new : List Value) (w : World) (e : Ending) (w' : World) : Prop :=
  ∃ v', e = .returned v' ∧ w'.ownsRow 0 111 2 v' (n + 1) (insAt xs (k * 2) new) ∧ w.grownBy w' v.ownBlock ∧ ∀ b, v'.ownBlock = some b → v.ownBlock = some b ∨ w.heap.size ≤ b
theorem grown_trans {w0 w w' : World} {row : Option Nat} (h : w0.grownBy w row) (k : w.grownBy w' row) : w0.grownBy w' row :=
  ⟨k.os.trans h.os, k.tape.trans h.tape, k.output.trans h.output, Nat.le_trans h.size k.size, fun i hi hn => (k.block i (Nat.lt_of_lt_of_le hi h.size) hn).trans (h.block i hi hn)⟩
theorem grown_drew {w0 w : World} {row : Option Nat} (h : w0.grownBy w row) : w0.grownBy w.drew row := ⟨h.os, h.tape, h.output, h.size, h.block⟩
theorem grown_refl (w : World) (row : Option Nat) : w.grownBy w row := ⟨rfl, rfl, rfl, Nat.le_refl _, fun _ _ _ => rfl⟩
theorem grown_of_none {w w' : World} {row : Option Nat} (h : w.grownBy w' none) : w.grownBy w' row := ⟨h.os, h.tape, h.output, h.size, fun i hi _ => h.block i hi (by simp)⟩
theorem grown_of_q {w w' : World} {row : Option Nat} (h : Q w w') : w.grownBy w' row := ⟨h.below.os, h.below.tape, h.below.output, h.size, fun i hi _ => h.below.block i hi⟩
theorem wpList_appsg {P : Program} {t e size bytes : Nat} {w : World} {base : Nat} {ops : Array Oper} {rest : List Oper} {o : Oper} {a : Act} {Q' : Exit → Act → World → Prop} {v : Value} {n : Nat} {xs : List Value}
    (hgd : o.guard = none) (E : El P t e size bytes) (s x : Operand) (ho : o.op = .call { callee := .builtin .append, args := #[s, x], argTypes := #[t, t] })
    (hs : a.eval s = v) (hown : w.ownsRow base e size v n xs) {A : Option Addr} {m c B : Nat} {news : List Value} (hx : a.eval x = .slice A m c) (hA : A = none → m = 0 ∧ c = 0) (hl : news.length = m * size) (hr : Rd w B A news) (h1 : ∀ u ∈ news, u.oneCell' = true)
    (hb : (n + m) * bytes ≤ 140737488355328) (hbase : base ≤ w.heap.size)
    (h : ∀ v' w', w'.ownsRow base e size v' (n + m) (xs ++ news) → w.grownBy w' v.ownBlock → wpList P ops Q' rest (a.put o.dst v') w') : wpList P ops Q' (o :: rest) a w := by
  obtain ⟨i, z, hi, hz, hsz, hby, hzs⟩ := E.inf
  rcases A with _ | ad
  · obtain ⟨rfl, rfl⟩ := hA rfl
    have : news = [] := List.eq_nil_of_length_eq_zero (by simpa using hl)
    subst this
    refine wpList_append_own_none hgd s x t ho base e i size E.und hi v n xs hs hown hx (h v w (by simpa using hown) (grown_refl _ _))
  · have hle : n + m ≤ (n + m) * bytes := Nat.le_mul_of_pos_right _ E.bpos
    refine wpList_append_own _ hgd s x t ho base e i z size bytes E.und hi hz hsz hby hzs E.pos v n xs hs hown ad m c news hx hl (fun j u hu => ?_) h1 (by simp only [maxLen]; omega) hb hbase (fun v' w' h2 h3 _ => h v' w' h2 h3)
    rcases hr with rfl | ⟨b, o, h2, _, h3⟩
    · simp at hu
    · obtain rfl := Option.some.inj h2
      rw [addr_add]
      exact h3 j u hu
set_option maxHeartbeats 2000000 in
/-- behind the last one -/
theorem insert_end (A : Option Addr) (n c vb : Nat) (xs : List Value) (p q : Value) (w : World) (h : w.ownsRow 0 111 2 (.slice A n c) n xs) (hn : n ≤ 100) (hA : A = none → c = 0) (hv : w.heap[vb]? = some (.cells #[p, q] 111 (0, 0))) (hp : p.oneCell' = true) (hq : q.oneCell' = true) :
    Calls Tryz.prog 97 #[.slice A n c, .int .i64 (n : Int), .slice (some ⟨vb, 0, none⟩) 1 1] w (InsPost (.slice A n c) n n xs [p, q] w) := by
  have hni : (n : Int) ≤ 100 := by omega
  obtain ⟨A', c', e', hnc, hc1, hl, hr⟩ := own_form h
  cases e'
  have H := hide h
  have HL : Hid (xs.length = n * 2) := hide hl
  have HV : Hid (Rd w w.heap.size (some ⟨vb, 0, none⟩) [p, q]) := .inr ⟨vb, 0, rfl, blk_lt hv, fun j u hu => by rw [cell_of_row _ _ _ _ _ _ hv, Nat.zero_add, ← hu]; simp⟩
  have H1 : Hid (∀ u ∈ [p, q], u.oneCell' = true) := fun u hu => by
    simp at hu
    rcases hu with rfl | rfl
    · exact hp
    · exact hq
  unfold maxLen at hc1
  have hci : (c : Int) ≤ 9223372036854775807 := by omega
  clear h hl hr hv hp hq
  have HE : Hid (insAt xs (n * 2) [p, q] = xs ++ [p, q]) := by
    unfold insAt
    rw [List.drop_of_length_le (by rw [HL.out]; exact Nat.le_refl _), List.append_nil, List.take_of_length_le (by rw [HL.out]; exact Nat.le_refl _)]
    exact hide rfl
  by_cases hnn : c = n
  · subst hnn
    cases A with
    | none =>
      obtain rfl : c = 0 := hA rfl
      have HN : Hid (w.ownsRow w.heap.size 111 2 (.slice none 0 0) 0 xs) := by
        obtain rfl : xs = [] := List.eq_nil_of_length_eq_zero (by rw [HL.out])
        exact World.ownsRow_nil w w.heap.size _ 2
      go_enter Tryz.func97, Tryz.ntmps97
      go_wp2_with (at_builtin; refine wpList_appsg rfl El_bk _ _ rfl rfl HN.out rfl (fun h => by cases h) rfl HV.out H1.out ?_ ?_ ?_; (focus omega); (focus exact Nat.le_refl _); intro v3 w3 hown3 hgr3; have HO3 := hide hown3; have HG3 := hide hgr3; clear hown3 hgr3)
      go_ret
      exact ⟨_, rfl, by rw [HE.out]; exact own_lower HO3.out (Nat.zero_le _), HG3.out, fun b hb => .inr (HO3.out.lt b hb).1⟩
    | some ad =>
      obtain ⟨v3, w3, hrun, HO3, HG3⟩ : ∃ v3 w3, (Builtin.append_ #[81, 81] 81 #[.slice (some ad) c c, .slice (some ⟨vb, 0, none⟩) 1 1]).run Tryz.prog w = .ok v3 w3 ∧ Hid (w3.ownsRow w.heap.size 111 2 v3 (c + 1) (xs ++ [p, q])) ∧ Hid (w.grownBy w3 none) := by
        obtain ⟨i, z, hi, hz, hsz, hby, hzs⟩ := El_bk.inf
        have hg := fun ty => run_append_arg_grows (P := Tryz.prog) w 81 ty 111 i z 2 32 Tryz.underlying81 hi hz hsz hby hzs (by decide) ad c c xs HL.out (fun j u hu => by
          have := H.out.cells (g := ad.block) rfl j u hu
          rcases H.out.2 with ⟨h1, _⟩ | ⟨g, cap, cur, h1, _⟩
          · cases h1
          · cases h1
            exact this) ⟨vb, 0, none⟩ 1 1 [p, q] rfl (fun j u hu => by
          rcases HV.out with h1 | ⟨b, o, h1, _, h2⟩
          · cases h1
          · cases h1
            rw [addr_add]
            exact h2 j u hu) (by omega) (by unfold maxLen; omega) (by omega)
        obtain ⟨v3, w3, h1, h2, h3⟩ := hg 81
        exact ⟨v3, w3, h1, h2, h3⟩
      have HR := hide hrun
      clear hrun
      go_enter Tryz.func97, Tryz.ntmps97
      go_wp2_with (at_builtin; refine Lib.wpList_append_run _ rfl _ _ _ _ rfl _ _ rfl rfl _ _ HR.out ?_)
      go_ret
      exact ⟨_, rfl, by rw [HE.out]; exact own_lower HO3.out (Nat.zero_le _), grown_of_none HG3.out, fun b hb => .inr (HO3.out.lt b hb).1⟩
  · cases A with
    | none =>
      have := hA rfl
      omega
    | some ad =>
      obtain ⟨w3, hrun, HO3, HG3⟩ : ∃ w3, (∀ ty, (Builtin.append_ #[81, 81] ty #[.slice (some ad) n c, .slice (some ⟨vb, 0, none⟩) 1 1]).run Tryz.prog w = .ok (.slice (some ad) (n + 1) c) w3) ∧ Hid (w3.ownsRow 0 111 2 (.slice (some ad) (n + 1) c) (n + 1) (xs ++ [p, q])) ∧ Hid (w.grownBy w3 (some ad.block)) := by
        obtain ⟨g, cap, cur, he, -, hh, hnc', hcm, hcs, htk⟩ : ∃ g' cap cur, Value.slice (some ad) n c = .slice (some ⟨g', 0, none⟩) n cap ∧ 0 ≤ g' ∧ w.heap[g']? = some (.cells cur 111 (0, 0)) ∧ n ≤ cap ∧ cap ≤ maxLen ∧ cur.size = cap * 2 ∧ cur.toList.take (n * 2) = xs := by
          rcases H.out.2 with ⟨h1, _⟩ | h1
          · cases h1
          · exact h1
        cases he
        have hr := fun ty => run_append_roomk (P := Tryz.prog) El_bk ty g 0 n c 1 1 ⟨vb, 0, none⟩ cur 111 [p, q] hh rfl (fun j u hu => by
          rcases HV.out with h1 | ⟨b, o, h1, _, h2⟩
          · cases h1
          · cases h1
            rw [addr_add]
            exact h2 j u hu) H1.out (by omega) (by rw [hcs]; simp; omega)
        refine ⟨_, hr, ⟨by rw [List.length_append, HL.out]; simp; omega, .inr ⟨g, c, _, rfl, Nat.zero_le _, setRow_heap w g _ _ _ _ hh, by omega, hcm, ?_, ?_⟩⟩, grown_setRow _ _ _⟩
        · rw [List.size_toArray, splice_len _ _ _ (by simp [hcs]; omega)]
          simpa using hcs
        · show (splice cur.toList (0 + n * 2) [p, q]).take ((n + 1) * 2) = _
          rw [← htk]
          unfold splice
          rw [Nat.zero_add, ← List.append_assoc, List.take_left' (by simp [hcs]; omega)]
      have HR := hide hrun
      clear hrun
      go_enter Tryz.func97, Tryz.ntmps97
      go_wp2_with (at_builtin; refine Lib.wpList_append_run _ rfl _ _ _ _ rfl _ _ rfl rfl _ _ (HR.out _) ?_)
      go_ret
      exact ⟨_, rfl, by rw [HE.out]; exact HO3.out, HG3.out, fun b hb => .inl hb⟩
set_option maxHeartbeats 4000000 in
set_option maxRecDepth 100000 in
/-- before one of them, where there is room: in place -/
theorem insert_room (g n c k vb : Nat) (xs : List Value) (p q : Value) (w : World) (h : w.ownsRow 0 111 2 (.slice (some ⟨g, 0, none⟩) n c) n xs) (hn : n ≤ 100) (hk : k < n) (hc : n + 1 ≤ c) (hv : w.heap[vb]? = some (.cells #[p, q] 111 (0, 0))) (hne : vb ≠ g) (hp : p.oneCell' = true) (hq : q.oneCell' = true) (hx1 : ∀ u ∈ xs, u.oneCell' = true) :
    Calls Tryz.prog 97 #[.slice (some ⟨g, 0, none⟩) n c, .int .i64 (k : Int), .slice (some ⟨vb, 0, none⟩) 1 1] w (InsPost (.slice (some ⟨g, 0, none⟩) n c) n k xs [p, q] w) := by
  have hni : (n : Int) ≤ 100 := by omega
  have hki : (k : Int) < (n : Int) := by omega
  obtain ⟨g', cap, cur, he, -, hh, hnc, hcm, hcs, htk⟩ : ∃ g' cap cur, Value.slice (some ⟨g, 0, none⟩) n c = .slice (some ⟨g', 0, none⟩) n cap ∧ 0 ≤ g' ∧ w.heap[g']? = some (.cells cur 111 (0, 0)) ∧ n ≤ cap ∧ cap ≤ maxLen ∧ cur.size = cap * 2 ∧ cur.toList.take (n * 2) = xs := by
    rcases h.2 with ⟨h1, _⟩ | h1
    · cases h1
    · exact h1
  cases he
  have hxl := h.1
  have hcm' := hcm
  unfold maxLen at hcm'
  have hov : ∀ lb cb, (callFunc 122 #[.slice (some ⟨vb, 0, none⟩) 1 1, .slice (some ⟨g, (k + 1) * 2, none⟩) lb cb]).run Tryz.prog w = .ok (.value (.bool false)) w := fun lb cb => by
    rw [run_callFunc_extern Tryz.func122 (by kernel_rfl) (by kernel_rfl) (by kernel_rfl) (e := Extern.SlicesOverlaps.overlaps #[81, 81] #[4]) (by kernel_rfl),
      Lib.run_overlaps_apart w 81 4 111 Tryz.underlying81 2 Tryz.sizeOf111 ⟨vb, 0, none⟩ ⟨g, (k + 1) * 2, none⟩ 1 1 lb cb hne 111 111 2 (c * 2) (by simp [World.shape?, hv]) (by simp [World.shape?, hh, hcs]) (by omega) (by simp [World.frozen?, hv]) (by simp [World.frozen?, hv])]
    rfl
  have HOV := hide hov
  have HH : Hid (w.drew.heap[g]? = some (.cells cur.toList.toArray 111 (0, 0))) := by rw [Array.toArray_toList]; exact hh
  have hcl : cur.toList.length = c * 2 := by simpa using hcs
  have HROW := hide (ins_row cur.toList xs [p, q] (k * 2) (by rw [hxl]; exact htk) (by rw [hxl]; omega) (by rw [hxl, hcl]; simp; omega))
  have hxd : (xs.drop (k * 2)).length = (n - k) * 2 := by rw [List.length_drop, hxl]; omega
  have HXD := hide hxd
  have HCL := hide hcl
  have HXL := hide hxl
  have HMV : Hid (∀ j v, (xs.drop (k * 2))[j]? = some v → w.drew.cell? ((⟨g, k * 2, none⟩ : Addr).add j) = some v) := fun j v hj => by
    rw [addr_add]
    show w.cell? _ = _
    rw [cell_of_row _ _ _ _ _ _ hh, ← hj, List.getElem?_drop, ← htk, List.getElem?_take, Array.getElem?_toList, if_pos]
    have := (List.getElem?_eq_some_iff.1 hj).1
    rw [hxd] at this
    omega
  have HM1 : Hid (∀ v ∈ xs.drop (k * 2), v.oneCell' = true) := fun v hv => hx1 v (List.mem_of_mem_drop hv)
  have HV1 : Hid (∀ v ∈ [p, q], v.oneCell' = true) := fun u hu => by
    simp at hu
    rcases hu with rfl | rfl
    · exact hp
    · exact hq
  have HVS : Hid (∀ W : World, W.heap[vb]? = w.heap[vb]? → ∀ j v, [p, q][j]? = some v → W.cell? ((⟨vb, 0, none⟩ : Addr).add j) = some v) := fun W hW j v hj => by
    rw [addr_add, cell_of_row _ _ _ _ _ _ (hW.trans hv), Nat.zero_add, ← hj]
    simp
  have HVB := hide (blk_lt hv)
  have HNE := hide hne
  have HCM := hide hcm
  have hb1 : (0 : Int) ≤ (k : Int) + 1 := by omega
  have hb2 : ¬ (c = k + 1) := by omega
  have hb4 : ¬ (c = k) := by omega
  have hb3 : (k : Int) ≤ (n : Int) + 1 := by omega
  have hb5 : (k : Int) + 1 ≤ (n : Int) + 1 := by omega
  have hz2 : ¬ ((k : Int) = (n : Int)) := by omega
  have htn : ((k : Int) + 1).toNat = k + 1 := by omega
  have hw1 : IntKind.i64.wrap ((k : Int) + 1) = (k : Int) + 1 := by rw [IntKind.wrap_i64]; omega
  clear h hov hh hcs htk hcl hxl hxd hx1 hv hne hp hq hcm
  go_enter Tryz.func97, Tryz.ntmps97
  go_wp2_with (simp only [HOV.out])
  go_region_law (refine step_copyk rfl (.tmp 73) (.tmp 76) El_bk rfl g (k * 2 + 2) (n + 1 - (k + 1)) (c - (k + 1)) (n + 1 - k) (c - k) (n - k) (some ⟨g, (k + 1) * 2, none⟩) (some ⟨g, k * 2, none⟩) (by simp [Act.eval, Act.put]) (by simp [Act.eval, Act.put]) cur.toList 111 (xs.drop (k * 2)) HH.out (by simp only [Nat.min_def]; split <;> omega) HXD.out (fun _ => ⟨by rw [show (k + 1) * 2 = k * 2 + 2 by omega], _, rfl, HMV.out⟩) (by rw [HXD.out, HCL.out]; omega) HM1.out ?_; intro w6 HG6 hgr6 hs6; have HGR6 := hide hgr6; clear hgr6)
  go_wp2_with ((with_reducible show wpList _ _ _ _ _ _); (refine wpList_copyk rfl (.tmp 80) (.tmp 81) El_bk rfl g (k * 2) (n + 1 - k) (c - k) 1 1 1 (some ⟨g, k * 2, none⟩) _ rfl rfl _ 111 [p, q] HG6.out (by simp only [Nat.min_def]; split <;> omega) rfl (fun _ => ⟨rfl, _, rfl, HVS.out _ (HGR6.out.block vb HVB.out (fun e => HNE.out (Option.some.inj e)))⟩) (by rw [splice_len _ _ _ (by rw [HXD.out, HCL.out]; omega), HCL.out]; simp; omega) HV1.out ?_); intro w7 HG7 hgr7 hs7; have HGR7 := hide hgr7; clear hgr7)
  go_ret
  refine ⟨_, rfl, ⟨?_, .inr ⟨g, c, _, rfl, Nat.zero_le _, HG7.out, by omega, HCM.out, ?_, ?_⟩⟩, grown_trans (grown_trans (grown_drew (grown_refl _ _)) HGR6.out) HGR7.out, fun b hb => .inl hb⟩
  · rw [insAt_len _ _ _ (by rw [HXL.out]; omega), HXL.out]
    simp
    omega
  · rw [List.size_toArray, splice_len, splice_len, HCL.out]
    · rw [HXD.out, HCL.out]; omega
    · rw [splice_len, HCL.out]
      · simp; omega
      · rw [HXD.out, HCL.out]; omega
  · rw [← HROW.out, HXL.out]
    simp
    congr 1
    omega
end Go.Proofs.YtdaklffbfadghaaGreat
