/- The walk of the reference's Drop. Conditions: the objects and the roots read as lists. -/
import Derived.Test.YtjdioilkhbpmoaaLinkDe
namespace Go.Proofs.Ytjdioilkhbpmoaa
open Go.RowKit LK
set_option linter.unusedVariables false
theorem El_text : El Try.prog 34 9 1 16 := El.of (z := .string ByteArray.empty) Try.underlying34 (by kernel_rfl) rfl (by decide) (by decide)
theorem own_ne {w : World} {B1 B2 e1 e2 s1 s2 n1 n2 : Nat} {v1 v2 : Value} {xs1 xs2 : List Value} (h1 : w.ownsRow B1 e1 s1 v1 n1 xs1) (h2 : w.ownsRow B2 e2 s2 v2 n2 xs2) (hne : e1 ≠ e2) : v1.ownBlock = none ∨ v1.ownBlock ≠ v2.ownBlock := by
  cases h : v1.ownBlock with
  | none => exact .inl rfl
  | some g =>
    refine .inr fun e => ?_
    obtain ⟨c1, a1⟩ := own_blk h1 h
    obtain ⟨c2, a2⟩ := own_blk h2 e.symm
    rw [a1] at a2
    cases a2
    exact hne rfl
/-- the reference's memory: the marks' row z, the names' row -/
structure RM (w wr : World) (z n : Nat) (N : List Bool) (v : Value) (names : List ByteArray) : Prop where
  q : Q w wr
  nw : wr.ownsRow w.heap.size 4 1 (.slice (some ⟨z, 0, none⟩) n n) n (N.map Value.bool)
  nm : wr.ownsRow w.heap.size 9 1 v names.length (names.map Value.string)
theorem RM.up {w wr w' : World} {z n : Nat} {N : List Bool} {v : Value} {names : List ByteArray} (h : RM w wr z n N v names) (hq : Q wr w') : RM w w' z n N v names := ⟨h.q.trans hq, own_q h.nw hq, own_q h.nm hq⟩
theorem RM.mark {w wr : World} {z n : Nat} {N : List Bool} {v : Value} {names : List ByteArray} (h : RM w wr z n N v names) (k : Nat) : RM w (wr.setCell ⟨z, k, none⟩ (.bool true)) z n (N.set k true) v names := by
  refine ⟨h.q.set (h.nw.lt z rfl).1 _, by rw [List.map_set]; exact own_set h.nw k _, h.nm.kept grown_cell ?_⟩
  exact own_ne h.nm h.nw (by decide)
theorem RM.app {w wr w' : World} {z n : Nat} {N : List Bool} {v v' : Value} {names names' : List ByteArray} (h : RM w wr z n N v names) (hg : wr.grownBy w' v.ownBlock) (ho : w'.ownsRow w.heap.size 9 1 v' names'.length (names'.map Value.string)) : RM w w' z n N v' names' :=
  ⟨q_grown h.q hg (fun k e => (h.nm.lt k e).1), h.nw.kept hg (own_ne h.nw h.nm (by decide)), ho⟩
theorem own_none {w : World} {B : Nat} (hB : B ≤ w.heap.size) : (w.alloc (.cells #[] 9)).ownsRow B 9 1 (.slice (some ⟨w.heap.size, 0, none⟩) 0 0) 0 [] :=
  ⟨rfl, .inr ⟨w.heap.size, 0, #[], rfl, hB, heap_alloc_new w _, Nat.le_refl _, by unfold maxLen; omega, rfl, rfl⟩⟩
theorem encS_flat : ∀ l : List ByteArray, l.flatMap encS = l.map Value.string
  | [] => rfl
  | x :: r => by rw [List.flatMap_cons, encS_flat r]; rfl
/-- at the name p of the list -/
structure R2 (w wr : World) (os : List OV) (T : Tab) (rs : List ByteArray) (z n : Nat) (N : List Bool) (v : Value) (names : List ByteArray) (p : Nat) : Prop where
  rm : RM w wr z n N v names
  ri : RI os T rs N names none
  dn : Done T N (names.take p)
  bd : names.length + 16 * N.count false ≤ 168
theorem wants_le {o : OV} (h : o.valid = 0) : o.2.2.xs.length ≤ 16 := by
  unfold OV.valid at h
  by_cases hb : 512 < o.1.n ∨ 16 < o.2.1.xs.length ∨ 16 < o.2.2.xs.length
  · rw [valid_big hb] at h; cases h
  · omega
/-- .. and at the object i -/
structure R3 (w wr : World) (os : List OV) (T : Tab) (rs : List ByteArray) (z n : Nat) (N : List Bool) (v : Value) (names : List ByteArray) (p : Nat) (nm : ByteArray) (i : Nat) : Prop where
  rm : RM w wr z n N v names
  ri : RI os T rs N names none
  dn : Done T N (names.take p)
  bd : names.length + 16 * N.count false ≤ 168
  at_ : names[p]? = some nm
  upto : ∀ k, objAt T nm = some k → k < i → N[k]? = some true
/-- .. and at its want k -/
structure R4 (w wr : World) (os : List OV) (T : Tab) (rs : List ByteArray) (z n : Nat) (N : List Bool) (v : Value) (names : List ByteArray) (p : Nat) (nm : ByteArray) (i k : Nat) : Prop where
  rm : RM w wr z n N v names
  ri : RI os T rs N names (some i)
  dn : Done T N (names.take p)
  bd : names.length + 16 * N.count false + 16 ≤ 168 + k
  at_ : names[p]? = some nm
  upto : ∀ k, objAt T nm = some k → k < i + 1 → N[k]? = some true
  sub : ∀ x ∈ (wantsAt os i).take k, x ∈ names
  on : N[i]? = some true
theorem R3.up {w wr w' : World} {os : List OV} {T : Tab} {rs : List ByteArray} {z n : Nat} {N : List Bool} {v : Value} {names : List ByteArray} {p : Nat} {nm : ByteArray} {i : Nat} (h : R3 w wr os T rs z n N v names p nm i) (hq : Q wr w') : R3 w w' os T rs z n N v names p nm i := ⟨h.rm.up hq, h.ri, h.dn, h.bd, h.at_, h.upto⟩
theorem R3.step {w wr : World} {os : List OV} {T : Tab} {rs : List ByteArray} {z n : Nat} {N : List Bool} {v : Value} {names : List ByteArray} {p : Nat} {nm : ByteArray} {i : Nat} (h : R3 w wr os T rs z n N v names p nm i) (hi : objAt T nm = some i → N[i]? = some true) : R3 w wr os T rs z n N v names p nm (i + 1) := by
  refine ⟨h.rm, h.ri, h.dn, h.bd, h.at_, fun k hk hlt => ?_⟩
  by_cases e : k = i
  · subst e; exact hi hk
  · exact h.upto k hk (by omega)
theorem R3.mark {w wr : World} {os : List OV} {T : Tab} {rs : List ByteArray} {z n : Nat} {N : List Bool} {v : Value} {names : List ByteArray} {p : Nat} {nm : ByteArray} {i : Nat} (h : R3 w wr os T rs z n N v names p nm i) (hi : i < os.length) (hN : N[i]? = some false) (ho : objAt T nm = some i) :
    R4 w (wr.setCell ⟨z, i, none⟩ (.bool true)) os T rs z n (N.set i true) v names p nm i 0 := by
  have hc := count_set hN
  have hb := h.bd
  have hl := h.ri.len
  refine ⟨h.rm.mark i, h.ri.mark hi (List.mem_of_getElem? h.at_) ho, h.dn.set i, by omega, h.at_, fun k hk hlt => ?_, fun x hx => by simp at hx, by simp [List.getElem?_set, hl, hi]⟩
  by_cases e : k = i
  · subst e; simp [List.getElem?_set, hl, hi]
  · exact set_mono (h.upto k hk (by omega))
theorem R4.app {w wr w' : World} {os : List OV} {T : Tab} {rs : List ByteArray} {z n : Nat} {N : List Bool} {v v' : Value} {names : List ByteArray} {p : Nat} {nm x : ByteArray} {i k : Nat} (h : R4 w wr os T rs z n N v names p nm i k) (hp : p < names.length) (hx : (wantsAt os i)[k]? = some x) (hg : wr.grownBy w' v.ownBlock) (ho : w'.ownsRow w.heap.size 9 1 v' (names.length + 1) (names.map Value.string ++ [Value.string x])) :
    R4 w w' os T rs z n N v' (names ++ [x]) p nm i (k + 1) := by
  have hb := h.bd
  refine ⟨h.rm.app hg (by rw [List.map_append, List.length_append]; exact ho), h.ri.snoc (List.mem_of_getElem? hx) h.on, ?_, by rw [List.length_append]; simp; omega, ?_, h.upto, fun y hy => ?_, h.on⟩
  · rw [List.take_append_of_le_length (by omega)]; exact h.dn
  · rw [List.getElem?_append_left hp]; exact h.at_
  · rw [List.take_add_one, hx] at hy
    rcases List.mem_append.1 hy with hy | hy
    · exact List.mem_append_left _ (h.sub y hy)
    · exact List.mem_append_right _ (by simpa using hy)
theorem R4.done {w wr : World} {os : List OV} {T : Tab} {rs : List ByteArray} {z n : Nat} {N : List Bool} {v : Value} {names : List ByteArray} {p : Nat} {nm : ByteArray} {i k : Nat} (h : R4 w wr os T rs z n N v names p nm i k) (hk : (wantsAt os i).length = k) (hk2 : k ≤ 16) : R3 w wr os T rs z n N v names p nm (i + 1) := by
  have hb := h.bd
  refine ⟨h.rm, h.ri.close (fun x hx => h.sub x (by rw [List.take_of_length_le (by omega)]; exact hx)), h.dn, by omega, h.at_, h.upto⟩
theorem R3.done {w wr : World} {os : List OV} {T : Tab} {rs : List ByteArray} {z n : Nat} {N : List Bool} {v : Value} {names : List ByteArray} {p : Nat} {nm : ByteArray} (h : R3 w wr os T rs z n N v names p nm n) (hr : ∀ k, objAt T nm = some k → k < n) : R2 w wr os T rs z n N v names (p + 1) := by
  refine ⟨h.rm, h.ri, ?_, h.bd⟩
  rw [List.take_add_one, h.at_]
  intro x hx k hk
  rcases List.mem_append.1 hx with hx | hx
  · exact h.dn x hx k hk
  · simp at hx
    subst hx
    exact h.upto k hk (hr k hk)
set_option maxRecDepth 100000 in
set_option maxHeartbeats 8000000 in
theorem rDrop_any (A : Option Addr) (n c : Nat) (os : List OV) (Ar : Option Addr) (m cr : Nat) (rs : List ByteArray) (w : World) (hO : ObsR w A n c os) (hR : Sl 1 encS w Ar m cr rs) (hrs : ∀ r ∈ rs, r.size ≤ 140737488351232) (hm : m ≤ 40) (hRn : Ar = none → m = 0 ∧ cr = 0) :
    Calls Try.prog 20 #[.slice A n c, .slice Ar m cr] w (DropPost w os rs) := by
  have hl := hO.sl.len
  have HP := hide (rlisted_any A n c os w hO)
  have HL := hide hl
  have HO := hide hO
  have HR := hide hR
  have hrl := hR.len
  have HRL := hide hrl
  have HRS := hide hrs
  have HRN := hide hRn
  obtain ⟨T, hT⟩ : ∃ T, tabF 0 0 os = T := ⟨_, rfl⟩
  have HT := hide hT
  unfold DropPost
  rw [hT]
  clear hO hl hR hrl hrs hT hRn
  go_enter Try.func20, Try.ntmps20
  go_wp2_with fail
  refine HP.out.mono ?_
  rintro e w1 ⟨rfl, hq1⟩
  by_cases h0 : listedO os = 0
  · have dz : ((listedO os : Int) != 0) = false := by rw [h0]; rfl
    obtain ⟨h8, hv⟩ := listed_zero2 h0
    rw [HL.out] at h8
    have hni : (n : Int) ≤ 8 := by omega
    have hni0 : (0 : Int) ≤ (n : Int) := by omega
    have hmi : (m : Int) ≤ 40 := by omega
    have HV := hide hv
    have H0 := hide h0
    have HND := hide (listed_nodup h0)
    have HQ1 := hide hq1
    have HAD := hide (fun wx (hq : Q w wx) s => address_any A n c os s wx (HO.out.up hq) h8 hv)
    clear hv h0 hq1
    go_wp2_with fail
    go_loopw [7] (fun vi wr => ∃ i, i ≤ m ∧ vi = .int .i64 (i : Nat) ∧ Q w wr ∧ ∀ r ∈ rs.take i, objAt T r ≠ none) (fun vi _ => m - (intOf vi).toNat)
    case atStart => exact ⟨0, by omega, by go_num, HQ1.out, fun r hr => by simp at hr⟩
    case round =>
      obtain ⟨i, hi, rfl, hq, hok⟩ := hrel
      have HQ := hide hq
      have HOK := hide hok
      clear hok
      by_cases hlt : i < m
      · have hd1 : decide ((i : Int) < (m : Int)) = true := by simp; omega
        have hd0 : decide (i < m) = true := by simp; omega
        have hlti : (i : Int) < (m : Int) := by omega
        obtain ⟨b1, o1, x, rfl, hb1, g1, hc1⟩ := (HR.out.up hq).at_ (fun _ => rfl) (by decide) i hlt
        have x1 := hc1 0 (.string x) rfl
        rw [Nat.mul_one, Nat.add_zero] at x1
        have HC := hide (HAD.out wr hq x)
        have G1 := hide g1
        have HTK := hide (show rs.take (i + 1) = rs.take i ++ [x] by rw [List.take_add_one, g1]; rfl)
        clear hq g1 hc1
        obtain ⟨⟨ax, bx⟩, hab⟩ : ∃ r, addrR os x = r := ⟨_, rfl⟩
        have hbx := addr_obj os x
        rw [hab, HT.out] at hbx
        rw [hab] at HC
        have HBX := hide hbx
        clear hab hbx
        cases bx with
        | false =>
          have HNO := hide (show ∃ r ∈ rs, objAt T r = none from ⟨x, List.mem_of_getElem? G1.out, by have := HBX.out; simpa using this.symm⟩)
          go_wp2_with fail
          refine HC.out.mono ?_
          rintro e w4 ⟨rfl, hq4⟩
          have HQ4 := hide (HQ.out.trans hq4)
          clear hq4
          go_wp2_with fail
          go_ret2
          exact ⟨HQ4.out, .inr (.inl ⟨H0.out, HNO.out, rfl⟩)⟩
        | true =>
          go_wp2_with fail
          refine HC.out.mono ?_
          rintro e w4 ⟨rfl, hq4⟩
          have HQ4 := hide (HQ.out.trans hq4)
          clear hq4
          go_wp2_with fail
          go_roundw
          case rel => exact ⟨i + 1, by omega, by go_num, HQ4.out, fun r hr => by rw [HTK.out] at hr; rcases List.mem_append.1 hr with hr | hr; exact HOK.out r hr; simp at hr; subst hr; have := HBX.out; intro e; rw [e] at this; cases this⟩
          case measure => simp [intOf] <;> omega
      · have hd1 : decide ((i : Int) < (m : Int)) = false := by simp; omega
        have hd0 : decide (i < m) = false := by simp; omega
        obtain rfl : i = m := by omega
        have HOKA := hide (show ∀ r ∈ rs, objAt T r ≠ none by have h := HOK.out; rw [List.take_of_length_le (by rw [HRL.out]; exact Nat.le_refl _)] at h; exact h)
        clear hq HOK
        have HE := hide (own_none (w := wr) (HQ.out.size))
        have hwr := HQ.out.size
        have HRD := hide (show Rd (wr.alloc (.cells #[] 9)) (wr.alloc (.cells #[] 9)).heap.size Ar (rs.map Value.string) by have h := (HR.out.up (HQ.out.alloc (.cells #[] 9))).rd; rw [encS_flat] at h; exact h)
        go_wp2_with (first | (at_builtin; refine wpList_appsg rfl El_text _ _ rfl rfl HE.out rfl HRN.out ?_ HRD.out ?_ ?_ ?_ ?_; (focus (rw [List.length_map, HRL.out, Nat.mul_one])); (focus (intro u hu; obtain ⟨x, _, rfl⟩ := List.mem_map.1 hu; rfl)); (focus omega); (focus (simp; omega)); intro v7 w7 hown7 hg7; have HO7 := hide hown7; have HQ7 := hide (q_grown (HQ.out.alloc (.cells #[] 9)) hg7 (fun k e => by have := (HE.out.lt k e).1; exact this)); clear hown7 hg7) | (at_make; refine wpList_mk rfl _ _ rfl Try.underlying88 (show (Try.prog.info? 4).map (fun i => (i.zero, i.size, i.bytes)) = some (some (.bool false), 1, 1) by kernel_rfl) rfl w.heap.size (n := n) rfl rfl rfl rfl ?_ ?_ ?_ ?_; (focus omega); (focus omega); (focus (exact HQ7.out.size)); intro w8 hown8 hq8 hlt8; have HRM := hide (show RM w w8 w7.heap.size n (List.replicate n false) v7 rs from ⟨HQ7.out.trans hq8, by rw [List.map_replicate]; exact hown8, by have h := own_q HO7.out hq8; rw [Nat.zero_add, List.nil_append, ← HRL.out] at h; exact h⟩); clear hown8 hq8))
        have HR2 := hide (show R2 w w8 os T rs w7.heap.size n (List.replicate n false) v7 rs 0 from ⟨HRM.out, by have h := RI.start os T rs; rw [HL.out] at h; exact h, fun x hx => by simp at hx, by simp; have := HRL.out; omega⟩)
        clear HRM HE HRD HO7 HQ7 HQ hwr
        go_loopw [10, 12] (fun v10 vi wr => ∃ (p : Nat) (N : List Bool) (names : List ByteArray), p ≤ names.length ∧ vi = .int .i64 (p : Nat) ∧ R2 w wr os T rs w7.heap.size n N v10 names p) (fun _ vi _ => 168 - (intOf vi).toNat)
        case atStart => exact ⟨0, _, rs, by omega, by go_num, HR2.out⟩
        case round =>
          clear HR2
          obtain ⟨p, N, names, hp, rfl, h2⟩ := hrel
          obtain ⟨A10, c10, e10, hc10, hc10m, _⟩ := own_form h2.rm.nm
          subst e10
          unfold maxLen at hc10m
          have hbd := h2.bd
          have hpi : (p : Int) ≤ 168 := by omega
          have H2 := hide h2
          by_cases hlt : p < names.length
          · have hd1 : decide ((p : Int) < (names.length : Int)) = true := by simp; omega
            have hd0 : decide (p < names.length) = true := by simp; omega
            have hlti : (p : Int) < (names.length : Int) := by omega
            obtain ⟨nm, hnm⟩ : ∃ nm, names[p]? = some nm := ⟨_, List.getElem?_eq_getElem hlt⟩
            have H3 := hide (show R3 w wr os T rs w7.heap.size n N (.slice A10 names.length c10) names p nm 0 from ⟨h2.rm, h2.ri, h2.dn, h2.bd, hnm, fun k _ h => by omega⟩)
            have hpl : p < 168 := by omega
            clear h2 hnm hbd H2
            go_wp2_with fail
            go_loopw [10, 13] (fun v10 vi wr => ∃ (i : Nat) (N : List Bool) (names : List ByteArray), i ≤ n ∧ vi = .int .i64 (i : Nat) ∧ R3 w wr os T rs w7.heap.size n N v10 names p nm i) (fun _ vi _ => n - (intOf vi).toNat)
            case atStart => exact ⟨0, N, names, by omega, by go_num, H3.out⟩
            case round =>
              clear H3 hlt hlti hd1 hd0 hp hc10 hc10m
              obtain ⟨i, N, names, hi, rfl, h3⟩ := hrel
              have hbd := h3.bd
              have hpn : p < names.length := (List.getElem?_eq_some_iff.1 h3.at_).1
              obtain ⟨g10, c10, e10, hg10, hg10l, hc10, hc10m, hcn, _⟩ := own_at h3.rm.nm (by omega)
              subst e10
              unfold maxLen at hc10m
              by_cases hlt : i < n
              · have hd1 : decide ((i : Int) < (n : Int)) = true := by simp; omega
                have hd0 : decide (i < n) = true := by simp; omega
                have hlti : (i : Int) < (n : Int) := by omega
                have hpni : (p : Int) < (names.length : Int) := by omega
                obtain ⟨_, _, e0, _, hzs, _, _, hcl, hfz⟩ := own_at h3.rm.nw (by omega)
                cases e0
                have hln := h3.ri.len
                rw [HL.out] at hln
                obtain ⟨b, hb⟩ : ∃ b, N[i]? = some b := ⟨_, List.getElem?_eq_getElem (by omega)⟩
                have hzc := hcl i (.bool b) (by rw [List.getElem?_map, hb]; rfl)
                have hnc := hcn p (.string nm) (by rw [List.getElem?_map, h3.at_]; rfl)
                obtain ⟨b1, o1, ob, rfl, hbw, g1, x1, x2, x3, hob⟩ := HO.out.at_ i hlt
                obtain ⟨⟨A0, n0, c0, bs⟩, ⟨A1, n1, c1, ss⟩, ⟨A2, n2, c2, ws⟩⟩ := ob
                dsimp only at x1 x2 x3
                have HBW := hide hbw
                have X3 := hide x3
                have HOBW := hide hob
                have x1 := (h3.rm.q.facts.1 _ _ hbw).trans x1
                have x2 := (h3.rm.q.facts.1 _ _ hbw).trans x2
                have x3 := (h3.rm.q.facts.1 _ _ hbw).trans x3
                have hbb : b1 < wr.heap.size := by have := h3.rm.q.size; omega
                have hob := hob.up h3.rm.q
                clear hbw
                obtain ⟨v0, v1, v2⟩ := valid_parts hob.s.len (HV.out _ (List.mem_of_getElem? g1))
                dsimp only at v1
                have H3 := hide h3
                have HB := hide hb
                have HOB := hide hob
                have G1 := hide g1
                clear h3 hb hcl hfz hcn hob g1
                cases b with
                | true =>
                  go_wp2_with fail
                  have hxc := ext_cell
                  refine wp_region_ext (by kernel_rfl) (by kernel_rfl) ?_
                  repeat (go_big_quiet_step ((fail)))
                  clear hxc
                  refine wpQuiet_nil ?_
                  intro wz hwwz
                  have hqwz := q_of_ext hwwz
                  clear hwwz
                  obtain ⟨hcwz, hfwz, hzwz⟩ := hqwz.facts
                  try simp at hzwz
                  try have hs0wz : w.heap.size < wz.heap.size := by omega
                  try have hs1wz : w.heap.size + 1 < wz.heap.size := by omega
                  clear hcwz hfwz
                  go_wp2_with fail
                  go_roundw
                  case rel => exact ⟨i + 1, N, names, by omega, by go_num, (H3.out.up hqwz).step (fun _ => HB.out)⟩
                  case measure => simp [intOf] <;> omega
                | false =>
                  obtain ⟨hs, hhs⟩ : ∃ hs, hasB (⟨A0, n0, c0, bs⟩, ⟨A1, n1, c1, ss⟩, ⟨A2, n2, c2, ws⟩) nm = hs := ⟨_, rfl⟩
                  have HHC := hide (fun k => show Calls Try.prog 51 #[.agg #[.slice A0 n0 c0, .slice A1 n1 c1, .slice A2 n2 c2], .string nm] (ext wr k) fun e w' => e = .returned (.bool hs) ∧ Q (ext wr k) w' from hhs ▸ hasSymbol_any A0 n0 c0 A1 n1 c1 ss (.slice A2 n2 c2) nm (ext wr k) (HOB.out.s.up (q_ext wr k)) (by omega))
                  have HHS := hide hhs
                  clear hhs
                  cases hs with
                  | false =>
                    go_wp2_with fail
                    have hxc := ext_cell
                    refine wp_region_ext (by kernel_rfl) (by kernel_rfl) ?_
                    repeat (go_big_quiet_step ((first | (go_at_call 51; exact ext_call (HHC.out _)))))
                    clear hxc
                    refine wpQuiet_nil ?_
                    intro wz hwwz
                    have hqwz := q_of_ext hwwz
                    clear hwwz
                    obtain ⟨hcwz, hfwz, hzwz⟩ := hqwz.facts
                    try simp at hzwz
                    try have hs0wz : w.heap.size < wz.heap.size := by omega
                    try have hs1wz : w.heap.size + 1 < wz.heap.size := by omega
                    clear hcwz hfwz
                    go_wp2_with fail
                    go_roundw
                    case rel => exact ⟨i + 1, N, names, by omega, by go_num, (H3.out.up hqwz).step (fun ho => by have h := HHS.out; rw [obj_hasB G1.out (HT.out ▸ ho)] at h; cases h)⟩
                    case measure => simp [intOf] <;> omega
                  | true =>
                    go_wp2_with fail
                    have hxc := ext_cell
                    refine wp_region_ext (by kernel_rfl) (by kernel_rfl) ?_
                    repeat (go_big_quiet_step ((first | (go_at_call 51; exact ext_call (HHC.out _)))))
                    clear hxc
                    refine wpQuiet_nil ?_
                    intro wz hwwz
                    have hqwz := q_of_ext hwwz
                    clear hwwz
                    obtain ⟨hcwz, hfwz, hzwz⟩ := hqwz.facts
                    try simp at hzwz
                    try have hs0wz : w.heap.size < wz.heap.size := by omega
                    try have hs1wz : w.heap.size + 1 < wz.heap.size := by omega
                    have hzl := hqwz.size
                    have hz2 := (hqwz.facts.1 _ _ hzs).trans hzc
                    have H3z := H3.out.up hqwz
                    have fz2 := (own_at H3z.rm.nw (by omega)).elim fun g h => h.elim fun c h => by obtain ⟨e0, _, _, _, _, _, h2⟩ := h; cases e0; exact h2 i
                    have HOBz := hide (HOB.out.up hqwz)
                    have x1z := (hqwz.facts.1 _ _ hbb).trans x1
                    have x2z := (hqwz.facts.1 _ _ hbb).trans x2
                    have x3z := (hqwz.facts.1 _ _ hbb).trans x3
                    have hbbz : b1 < wz.heap.size := by omega
                    have ho := has_obj HND.out G1.out HHS.out
                    have H4 := hide (H3z.mark (by rw [HL.out]; exact hlt) HB.out (HT.out ▸ ho))
                    clear H3z ho hcwz hfwz hqwz
                    go_wp2_with fail
                    clear x1z x2z x3z hbbz hz2 fz2 hzl x1 x2 x3 hzc hnc hzs hbb
                    have hn2 : n2 ≤ 16 := by have := wants_le (HV.out _ (List.mem_of_getElem? G1.out)); have h := HOBW.out.t.len; dsimp only at this h; omega
                    have HW := hide (show wantsAt os i = ws.map (·.2.2) by unfold wantsAt; rw [G1.out])
                    have HWL := hide (show ws.length = n2 from HOBW.out.t.len)
                    go_loopw [10, 14] (fun v10 vi wr => ∃ (k : Nat) (names : List ByteArray), k ≤ n2 ∧ vi = .int .i64 (k : Nat) ∧ R4 w wr os T rs w7.heap.size n (N.set i true) v10 names p nm i k) (fun _ vi _ => n2 - (intOf vi).toNat)
                    case atStart => exact ⟨0, names, by omega, by go_num, H4.out⟩
                    case round =>
                      clear H4 HHC H3 HOB HOBz
                      obtain ⟨k, names, hk, rfl, h4⟩ := hrel
                      have hbd4 := h4.bd
                      have hpn4 : p < names.length := (List.getElem?_eq_some_iff.1 h4.at_).1
                      obtain ⟨A4, c4, e4, hc4, hc4m, _⟩ := own_form h4.rm.nm
                      subst e4
                      unfold maxLen at hc4m
                      have x3 := (h4.rm.q.facts.1 _ _ HBW.out).trans X3.out
                      have hsz4 := h4.rm.q.size
                      have hbb : b1 < wr.heap.size := by have := HBW.out; omega
                      by_cases hlk : k < n2
                      · have hk1 : decide ((k : Int) < (n2 : Int)) = true := by simp; omega
                        have hk0 : decide (k < n2) = true := by simp; omega
                        have hki : (k : Int) < (n2 : Int) := by omega
                        obtain ⟨b5, o5, at_, kd, x, e5, hb5, g5, y1, y2, y3⟩ := (HOBW.out.t.up h4.rm.q).wnt k hlk
                        dsimp only at e5 g5
                        subst e5
                        have HX := hide (show (wantsAt os i)[k]? = some x by rw [HW.out, List.getElem?_map, g5]; rfl)
                        have H4 := hide h4
                        clear h4 g5
                        go_wp2_with (at_builtin; refine wpList_app1g rfl El_text _ _ rfl rfl H4.out.rm.nm (by simp) rfl rfl ?_ ?_ ?_ ?_; (focus (simp [Value.oneCell'])); (focus omega); (focus omega); intro v9 w9 hown9 hg9; have H5 := hide (H4.out.app hpn4 HX.out hg9 hown9); clear hown9 hg9)
                        go_roundw
                        case rel => exact ⟨k + 1, names ++ [x], by omega, by go_num, H5.out⟩
                        case measure => simp [intOf] <;> omega
                      · have hk1 : decide ((k : Int) < (n2 : Int)) = false := by simp; omega
                        have hk0 : decide (k < n2) = false := by simp; omega
                        obtain rfl : k = n2 := by omega
                        have H5 := hide (h4.done (by rw [HW.out, List.length_map, HWL.out]) hn2)
                        clear h4
                        go_wp2_with fail
                        go_roundw
                        case rel => exact ⟨i + 1, _, names, by omega, by go_num, H5.out⟩
                        case measure => simp [intOf] <;> omega
              · have hd1 : decide ((i : Int) < (n : Int)) = false := by simp; omega
                have hd0 : decide (i < n) = false := by simp; omega
                obtain rfl : i = n := by omega
                have H3 := hide h3
                clear h3 hcn
                go_wp2_with fail
                go_roundw
                case rel => exact ⟨p + 1, N, names, by omega, by go_num, H3.out.done (fun k hk => by have := objAt_range (HT.out ▸ hk); rw [HL.out] at this; exact this)⟩
                case measure => simp [intOf] <;> omega
          · have hd1 : decide ((p : Int) < (names.length : Int)) = false := by simp; omega
            have hd0 : decide (p < names.length) = false := by simp; omega
            have HMK := hide (show Marks os T rs N from h2.ri.marks (by have h := h2.dn; rw [List.take_of_length_le (by omega)] at h; exact h))
            clear h2 hbd
            go_wp2_with fail
            obtain ⟨w6, rfl⟩ : ∃ w6 : World, w6 = wr := ⟨_, rfl⟩
            go_loopw [15, 16] (fun v15 vi wx => ∃ i4, i4 ≤ n ∧ vi = .int .i64 (i4 : Nat) ∧ wx.ownsRow w6.heap.size 3 1 v15 (dropTo N i4).length ((dropTo N i4).map (Value.int .i64)) ∧ Q w6 wx) (fun _ vi _ => n - (intOf vi).toNat)
            case atStart => exact ⟨0, by omega, by go_num, World.ownsRow_nil _ _ _ _, Q.refl _⟩
            case round =>
              obtain ⟨i4, hi4, rfl, hown, hq⟩ := hrel
              have hsz := hq.size
              have hdl := dropTo_len N i4
              have hnl := H2.out.ri.len
              rw [HL.out] at hnl
              obtain ⟨A15, c15, e15, hc15, hc15m, _⟩ := own_form hown
              subst e15
              by_cases hlt : i4 < n
              · have hd1 : decide ((i4 : Int) < (n : Int)) = true := by simp; omega
                have hd0 : decide (i4 < n) = true := by simp; omega
                have hlti : (i4 : Int) < (n : Int) := by omega
                obtain ⟨_, _, e0, _, hzs, _, _, hcl, _⟩ := own_at H2.out.rm.nw (by omega)
                cases e0
                obtain ⟨b, hb⟩ : ∃ b, N[i4]? = some b := ⟨_, List.getElem?_eq_getElem (by omega)⟩
                have hz6 := (hq.facts.1 _ _ hzs).trans (hcl i4 (.bool b) (by rw [List.getElem?_map, hb]; rfl))
                have HSU := hide (dropTo_succ N i4 b hb)
                have HOW := hide hown
                have HQ6 := hide hq
                have hzx : w7.heap.size < wr.heap.size := by omega
                clear hb hcl hown hq
                cases b with
                | true =>
                  go_wp2_with fail
                  go_roundw
                  case rel => exact ⟨i4 + 1, by omega, by go_num, by rw [HSU.out]; exact HOW.out, HQ6.out⟩
                  case measure => simp [intOf] <;> omega
                | false =>
                  go_wp2_with (at_builtin; refine wpList_app1 rfl El_int _ _ rfl rfl HOW.out (by simp) rfl rfl ?_ ?_ ?_ ?_; (focus (simp [Value.oneCell'])); (focus omega); (focus omega); intro v7' w7' hown7 hb7; have HO7 := hide hown7; have HB7 := hide (show Q w6 w7' from HQ6.out.below.trans hb7); clear hown7 hb7)
                  go_roundw
                  case rel => exact ⟨i4 + 1, by omega, by go_num, by rw [HSU.out]; have h := HO7.out; simpa using h, HB7.out⟩
                  case measure => simp [intOf] <;> omega
              · have hd1 : decide ((i4 : Int) < (n : Int)) = false := by simp; omega
                have hd0 : decide (i4 < n) = false := by simp; omega
                obtain rfl : i4 = n := by omega
                have HOW := hide (show wr.ownsRow w.heap.size 3 1 (.slice A15 (dropTo N i4).length c15) (dropL N).length ((dropL N).map (Value.int .i64)) by have h := own_base2 hown H2.out.rm.q.size; rw [← hnl] at h ⊢; exact h)
                have HQ6 := hide (H2.out.rm.q.trans hq)
                clear hown hq hnl hdl
                go_wp2_with fail
                go_ret2
                exact ⟨HQ6.out, .inr (.inr ⟨H0.out, HOKA.out, N, _, HMK.out, rfl, HOW.out⟩)⟩
  · have dz : ((listedO os : Int) != 0) = true := by simp; omega
    have HNE := hide h0
    have HQ1 := hide hq1
    clear h0 hq1
    go_wp2_with fail
    go_ret2
    exact ⟨HQ1.out, .inl ⟨HNE.out, rfl⟩⟩
end Go.Proofs.Ytjdioilkhbpmoaa
