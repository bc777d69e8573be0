/- The walk of the program's lay: objects are put to their places. Conditions: at most 8 objects, each right. -/
import Derived.Test.YtjdioilkhbpmoaaLinkG
import Derived.Carry
namespace Go.Proofs.Ytjdioilkhbpmoaa
open Go.RowKit LK
set_option linter.unusedVariables false
theorem set3 (w : World) (b : Nat) (a0 a1 a2 v0 v1 v2 : Value) (h0 : w.cell? ⟨b, 0, none⟩ = some a0) (h1 : w.cell? ⟨b, 1, none⟩ = some a1) (h2 : w.cell? ⟨b, 2, none⟩ = some a2) :
    (((w.setCell ⟨b, 0, none⟩ v0).setCell ⟨b, 1, none⟩ v1).setCell ⟨b, 2, none⟩ v2).cell? ⟨b, 0, none⟩ = some v0 ∧
    (((w.setCell ⟨b, 0, none⟩ v0).setCell ⟨b, 1, none⟩ v1).setCell ⟨b, 2, none⟩ v2).cell? ⟨b, 1, none⟩ = some v1 ∧
    (((w.setCell ⟨b, 0, none⟩ v0).setCell ⟨b, 1, none⟩ v1).setCell ⟨b, 2, none⟩ v2).cell? ⟨b, 2, none⟩ = some v2 := by
  refine ⟨?_, ?_, ?_⟩
  · rw [World.cell?_setCell_other _ _ _ _ (by simp), World.cell?_setCell_other _ _ _ _ (by simp), World.cell?_setCell_same _ _ _ h0]
  · rw [World.cell?_setCell_other _ _ _ _ (by simp), World.cell?_setCell_same _ _ _ (by rw [World.cell?_setCell_other _ _ _ _ (by simp)]; exact h1)]
  · rw [World.cell?_setCell_same _ _ _ (by rw [World.cell?_setCell_other _ _ _ _ (by simp), World.cell?_setCell_other _ _ _ _ (by simp)]; exact h2)]
theorem El_int : El Try.prog 25 3 1 8 := El.of (z := .int .i64 0) Try.underlying25 (by kernel_rfl) rfl (by decide) (by decide)
theorem room_any (A0 : Option Addr) (n0 c0 : Nat) (v1 v2 : Value) (w : World) (hn : n0 ≤ 100000) :
    Calls Try.prog 95 #[.agg #[.slice A0 n0 c0, v1, v2]] w fun e w' => e = .returned (.int .i64 (room n0 : Nat)) ∧ Q w w' := by
  have hni : (n0 : Int) ≤ 100000 := by omega
  go_enter Try.func95, Try.ntmps95
  go_wp2_with fail
  go_ret
  refine ⟨ret_int ?_, (Q.refl w).alloc _⟩
  unfold room
  omega
/-- no name stands twice up to place p, as far as the rest goes -/
def DupS (T : List (ByteArray × Int × Int)) (p : Nat) : Prop := dupB [] (T.map (·.1)) = dupB ((T.take p).map (·.1)) ((T.drop p).map (·.1))
theorem DupS.step {T : List (ByteArray × Int × Int)} {p : Nat} {x : ByteArray × Int × Int} (h : DupS T p) (hx : T[p]? = some x) (hn : lookS (T.take p) x.1 = none) : DupS T (p + 1) := by
  obtain ⟨hp, e⟩ := List.getElem?_eq_some_iff.1 hx
  unfold DupS at h ⊢
  rw [h, List.drop_eq_getElem_cons hp, List.map_cons, dupB, e, List.take_succ_eq_append_getElem hp, e, List.map_append]
  have : ((T.take p).map (·.1)).any (fun y => y.toList == x.1.toList) = false := by
    rw [List.any_map, List.any_eq_false]
    intro y hy he
    unfold lookS at hn
    rw [Option.map_eq_none_iff, List.find?_eq_none] at hn
    exact hn y hy he
  rw [this]
  rfl
theorem DupS.found {T : List (ByteArray × Int × Int)} {p : Nat} {x : ByteArray × Int × Int} {ab : Int × Int} (h : DupS T p) (hx : T[p]? = some x) (hn : lookS (T.take p) x.1 = some ab) : dupB [] (T.map (·.1)) = true := by
  obtain ⟨hp, e⟩ := List.getElem?_eq_some_iff.1 hx
  unfold DupS at h
  rw [h, List.drop_eq_getElem_cons hp, List.map_cons, dupB, e]
  have : ((T.take p).map (·.1)).any (fun y => y.toList == x.1.toList) = true := by
    rw [List.any_map, List.any_eq_true]
    unfold lookS at hn
    rw [Option.map_eq_some_iff] at hn
    obtain ⟨y, hy, _⟩ := hn
    exact ⟨y, List.mem_of_find?_eq_some hy, by simpa using List.find?_some hy⟩
  rw [this]
  rfl
section
variable {w : World} {ops : Array Oper} {rest : List Oper} {o : Oper} {a : Act} {Q' : Exit → Act → World → Prop} {mb : Nat} {t : List (ByteArray × Int × Int)}
theorem wpList_lookN (hg : o.guard = none) (m x : Operand) (hop : o.op = Op.lookup 75 m x true) (hm : a.eval m = .map (some mb)) (hM : MpR w mb t) (s : ByteArray) (hx : a.eval x = .string s) (hs : s.size ≤ 9223372036854775807) (hn : lookS t s = none)
    (hK : wpList Try.prog ops Q' rest (a.put o.dst (.tuple #[.agg #[.int .i64 0, .int .i64 0], .bool false])) w) : wpList Try.prog ops Q' (o :: rest) a w :=
  wpList_lookP hg m x hop hm hM s hx hs (by rw [hn]; exact hK)
theorem wpList_lookF (hg : o.guard = none) (m x : Operand) (hop : o.op = Op.lookup 75 m x true) (hm : a.eval m = .map (some mb)) (hM : MpR w mb t) (s : ByteArray) (hx : a.eval x = .string s) (hs : s.size ≤ 9223372036854775807) {p q : Int} (hn : lookS t s = some (p, q))
    (hK : wpList Try.prog ops Q' rest (a.put o.dst (.tuple #[.agg #[.int .i64 p, .int .i64 q], .bool true])) w) : wpList Try.prog ops Q' (o :: rest) a w :=
  wpList_lookP hg m x hop hm hM s hx hs (by rw [hn]; exact hK)
end
theorem LayR.start (w : World) (A : Option Addr) (n c : Nat) :
    LayR w A n c ((((w.alloc (.cells #[.slice none 0 0, .slice none 0 0, .map none] 77)).alloc (.cells #[.int .i64 0] 3)).alloc (.map #[] 0)).alloc (.cells #[.slice A n c, .slice (some ⟨w.heap.size + 1, 0, none⟩) 1 1, .map (some (w.heap.size + 1 + 1))] 77)) (w.heap.size + 1 + 1 + 1) (w.heap.size + 1 + 1) (.slice (some ⟨w.heap.size + 1, 0, none⟩) 1 1) [0] [] := by
  obtain ⟨u1, hu1⟩ : ∃ u1, w.alloc (.cells #[.slice none 0 0, .slice none 0 0, .map none] 77) = u1 := ⟨_, rfl⟩
  have s1 : u1.heap.size = w.heap.size + 1 := by rw [← hu1]; simp
  have q1 : Q w u1 := by rw [← hu1]; exact (Q.refl w).alloc _
  have b0 : u1.heap[w.heap.size]? = some (.cells #[.slice none 0 0, .slice none 0 0, .map none] 77 (0, 0)) := by rw [← hu1]; exact heap_alloc_new w _
  rw [hu1]
  obtain ⟨u2, hu2⟩ : ∃ u2, u1.alloc (.cells #[.int .i64 0] 3) = u2 := ⟨_, rfl⟩
  have s2 : u2.heap.size = w.heap.size + 1 + 1 := by rw [← hu2]; simp [s1]
  have q2 : Q u1 u2 := by rw [← hu2]; exact (Q.refl u1).alloc _
  have r2 : u2.ownsRow w.heap.size 3 1 (.slice (some ⟨w.heap.size + 1, 0, none⟩) 1 1) 1 [.int .i64 0] := by
    rw [← hu2, ← s1]
    exact World.ownsRow_lit u1 #[.int .i64 0] 1 (by omega) (by decide) rfl
  rw [hu2]
  obtain ⟨u3, hu3⟩ : ∃ u3, u2.alloc (.map #[] 0) = u3 := ⟨_, rfl⟩
  have s3 : u3.heap.size = w.heap.size + 1 + 1 + 1 := by rw [← hu3]; simp [s2]
  have q3 : Q u2 u3 := by rw [← hu3]; exact (Q.refl u2).alloc _
  have m3 : MpR u3 (w.heap.size + 1 + 1) [] := by rw [← hu3, ← s2]; exact MpR.made u2
  rw [hu3]
  obtain ⟨u4, hu4⟩ : ∃ u4, u3.alloc (.cells #[.slice A n c, .slice (some ⟨w.heap.size + 1, 0, none⟩) 1 1, .map (some (w.heap.size + 1 + 1))] 77) = u4 := ⟨_, rfl⟩
  have q4 : Q u3 u4 := by rw [← hu4]; exact (Q.refl u3).alloc _
  have b1 : u4.heap[w.heap.size + 1 + 1 + 1]? = some (.cells #[.slice A n c, .slice (some ⟨w.heap.size + 1, 0, none⟩) 1 1, .map (some (w.heap.size + 1 + 1))] 77 (0, 0)) := by rw [← hu4, ← s3]; exact heap_alloc_new u3 _
  rw [hu4]
  have q14 : Q u1 u4 := (q2.trans q3).trans q4
  exact ⟨q1.trans q14, (q14.below.block _ (by omega)).trans b0, b1, by omega, by omega, own_q (own_q r2 q3) q4, m3.up q4⟩
def LayPost (w : World) (A : Option Addr) (n c : Nat) (os : List OV) (e : Ending) (w' : World) : Prop :=
  Q w w' ∧ ((dupB [] (namesF os) = true ∧ e = .returned (.tuple #[.agg #[.slice none 0 0, .slice none 0 0, .map none], .int .i64 5])) ∨
    (dupB [] (namesF os) = false ∧ ∃ vs mb, e = .returned (.tuple #[.agg #[.slice A n c, vs, .map (some mb)], .int .i64 0]) ∧ w'.ownsRow w.heap.size 3 1 vs (n + 1) ((startsL os (n + 1)).map (Value.int .i64)) ∧ MpR w' mb (tabF 0 0 os)))
theorem LayPost.dup {w w' : World} {A : Option Addr} {n c : Nat} {os : List OV} (hq : Q w w') (h : dupB [] (namesF os) = true) : LayPost w A n c os (.returned (.tuple #[.agg #[.slice none 0 0, .slice none 0 0, .map none], .int .i64 5])) w' := ⟨hq, .inl ⟨h, rfl⟩⟩
theorem LayPost.ok {w w' : World} {A : Option Addr} {n c : Nat} {os : List OV} {vs : Value} {mb : Nat} (hq : Q w w') (h : dupB [] (namesF os) = false) (ho : w'.ownsRow w.heap.size 3 1 vs (n + 1) ((startsL os (n + 1)).map (Value.int .i64))) (hm : MpR w' mb (tabF 0 0 os)) :
    LayPost w A n c os (.returned (.tuple #[.agg #[.slice A n c, vs, .map (some mb)], .int .i64 0])) w' := ⟨hq, .inr ⟨h, vs, mb, rfl, ho, hm⟩⟩
theorem LayR.fin {w wr : World} {A : Option Addr} {n c : Nat} {L1 mb : Nat} {vs : Value} {st : List Int} {t : List (ByteArray × Int × Int)} (h : LayR w A n c wr L1 mb vs st t) (v0 v1 v2 : Value) :
    (((wr.setCell ⟨w.heap.size, 0, none⟩ v0).setCell ⟨w.heap.size, 1, none⟩ v1).setCell ⟨w.heap.size, 2, none⟩ v2).ownsRow w.heap.size 3 1 vs st.length (st.map (Value.int .i64)) ∧ MpR (((wr.setCell ⟨w.heap.size, 0, none⟩ v0).setCell ⟨w.heap.size, 1, none⟩ v1).setCell ⟨w.heap.size, 2, none⟩ v2) mb t := by
  have hg : wr.grownBy (((wr.setCell ⟨w.heap.size, 0, none⟩ v0).setCell ⟨w.heap.size, 1, none⟩ v1).setCell ⟨w.heap.size, 2, none⟩ v2) (some w.heap.size) := (grown_cell.trans grown_cell).trans grown_cell
  refine ⟨h.row.kept hg ?_, h.mp.kept hg ?_⟩
  · cases hv : vs.ownBlock with
    | none => exact .inl rfl
    | some g =>
      obtain ⟨cs, hcs⟩ := own_blk h.row hv
      refine .inr (fun e => ?_)
      cases e
      rw [h.b0] at hcs
      cases hcs
  · intro e
    obtain ⟨es, cl, hmb⟩ := h.mp.blk
    cases e
    have := h.b0
    rw [hmb] at this
    cases this
set_option maxRecDepth 100000 in
set_option maxHeartbeats 8000000 in
theorem lay_any (A : Option Addr) (n c : Nat) (os : List OV) (w : World) (hO : ObsR w A n c os) (hn : n ≤ 8) (hv : ∀ o ∈ os, o.valid = 0) :
    Calls Try.prog 81 #[.slice A n c] w (LayPost w A n c os) := by
  have hl := hO.sl.len
  have HO := hide hO
  have HV := hide hv
  have HL := hide hl
  have hni : (n : Int) ≤ 8 := by omega
  have hoff := fun k => offF_le (os := os) (fun o ho => (valid_parts (hO.all o ho).s.len (hv o ho)).1) k
  have HOFF := hide hoff
  have HCS := hide (fun k => cntS_le (os := os) (fun o ho => by have h1 := (valid_parts (hO.all o ho).s.len (hv o ho)).2.1; have h2 := (hO.all o ho).s.len; omega) k)
  obtain ⟨T, hT⟩ : ∃ T, tabF 0 0 os = T := ⟨_, rfl⟩
  have hTl : T.length = cntS os := by rw [← hT]; exact tabF_length _ _ _
  have HT := hide hT
  have HTL := hide hTl
  clear hO hv hl hoff hT hTl
  have hmm := @run_makeMap Try.prog
  go_enter Try.func81, Try.ntmps81
  go_wp2_with fail
  clear hmm
  go_loopw [5, 18] (fun vat vi wr => ∃ (k : Nat) (vs : Value), k ≤ n ∧ vi = .int .i64 k ∧ vat = .int .i64 (offF (os.take k) : Nat) ∧ LayR w A n c wr (w.heap.size + 1 + 1 + 1) (w.heap.size + 1 + 1) vs (startsL os (k + 1)) (T.take (cntS (os.take k))) ∧ DupS T (cntS (os.take k))) (fun _ vi _ => n - (intOf vi).toNat)
  case atStart => exact ⟨0, _, by omega, by go_num, by go_num, LayR.start w A n c, rfl⟩
  case round =>
    obtain ⟨k, vs, hk, rfl, rfl, hLY, hdup⟩ := hrel
    obtain ⟨wo, rfl⟩ : ∃ wo : World, wo = wr := ⟨_, rfl⟩
    have hslk : (startsL os (k + 1)).length = k + 1 := by simp [startsL]
    obtain ⟨Av, cv, hvs, _, hcv, _⟩ := own_form hLY.row
    rw [hslk] at hvs
    subst hvs
    unfold maxLen at hcv
    have HLY := hide hLY
    have HD := hide hdup
    have HSL := hide hslk
    clear hslk
    have hq0 := hLY.q
    have hl1 := hLY.l1lt
    have hofk := HOFF.out k
    have hcnk := HCS.out k
    have hofki : ((offF (os.take k) : Nat) : Int) ≤ 4352 := by omega
    obtain ⟨ofk, hofe⟩ : ∃ ofk, offF (os.take k) = ofk := ⟨_, rfl⟩
    obtain ⟨cn, hcn⟩ : ∃ cn, cntS (os.take k) = cn := ⟨_, rfl⟩
    rw [hofe] at hofk hofki ⊢
    rw [hcn] at hLY hdup HLY HD hcnk
    have HOE := hide hofe
    have HCN := hide hcn
    clear hdup hofe hcn
    by_cases hlt : k < n
    · have hd1 : decide ((k : Int) < (n : Int)) = true := by simp; omega
      have hd0 : decide (k < n) = true := by simp; omega
      have hlti : (k : Int) < (n : Int) := by omega
      obtain ⟨b1, o1, ob, rfl, hb1, g1, x1, x2, x3, hob⟩ := (HO.out.up hq0).at_ k hlt
      obtain ⟨⟨A0, n0, c0, bs⟩, ⟨A1, n1, c1, ss⟩, ⟨A2, n2, c2, ws⟩⟩ := ob
      have hval := HV.out _ (List.mem_of_getElem? g1)
      obtain ⟨v0, v1, v2⟩ := valid_parts hob.s.len hval
      have hsS := hob.s
      dsimp only at x1 x2 x3 v0 v1 v2 hsS
      have hn0i : (n0 : Int) ≤ 512 := by omega
      have hn1i : (n1 : Int) ≤ 16 := by omega
      have G1 := hide g1
      have HOB := hide hob
      have HSS := hide hsS
      have V2 := hide v2
      obtain ⟨wa, hwa⟩ : ∃ wa, wo.alloc (.cells #[.slice A0 n0 c0, .slice A1 n1 c1, .slice A2 n2 c2] 41) = wa := ⟨_, rfl⟩
      have hqa : Q wo wa := by rw [← hwa]; exact (Q.refl wo).alloc _
      have hba : wa.heap[wo.heap.size]? = some (.cells #[.slice A0 n0 c0, .slice A1 n1 c1, .slice A2 n2 c2] 41 (0, 0)) := by rw [← hwa]; exact heap_alloc_new wo _
      have HBA := hide hba
      have HLA := hide (hLY.up hqa)
      have HWA := hide hwa
      clear hLY hob hsS v2 hval g1 hwa
      go_wp2_with fail
      rw [HWA.out]
      clear hba x1 x2 x3 hd1 hd0
      go_loopw [26] (fun vi wx => ∃ i : Nat, i ≤ n1 ∧ vi = .int .i64 i ∧ LayR w (some ⟨b1, o1, none⟩) n c wx (w.heap.size + 1 + 1 + 1) (w.heap.size + 1 + 1) (.slice Av (k + 1) cv) (startsL os (k + 1)) (T.take (cn + i)) ∧ DupS T (cn + i) ∧ wx.heap[wo.heap.size]? = some (.cells #[.slice A0 n0 c0, .slice A1 n1 c1, .slice A2 n2 c2] 41 (0, 0))) (fun vi _ => n1 - (intOf vi).toNat)
      case atStart => exact ⟨0, by omega, by go_num, HLA.out, HD.out, HBA.out⟩
      case round =>
        obtain ⟨i, hi, rfl, hLX, hdx, hbx⟩ := hrel
        obtain ⟨wx, rfl⟩ : ∃ wx : World, wx = wr := ⟨_, rfl⟩
        have HLX := hide hLX
        have HDX := hide hdx
        have HBX := hide hbx
        have hqx := hLX.q
        have hlx := hLX.l1lt
        have hwx : wo.heap.size < wx.heap.size := (Array.getElem?_eq_some_iff.1 hbx).1
        have ky2 := cell_blk hLX.b1 2
        simp at ky2
        by_cases hlt1 : i < n1
        · have hd1 : decide ((i : Int) < (n1 : Int)) = true := by simp; omega
          have hd0 : decide (i < n1) = true := by simp; omega
          have hlti1 : (i : Int) < (n1 : Int) := by omega
          have hss := (HO.out.up hqx).all _ (List.mem_of_getElem? G1.out)
          obtain ⟨b2, o2, nm, at_, e2, hb2, g2, y1, y2⟩ := hss.s.sym i hlt1
          dsimp only at e2 y1 y2 g2
          subst e2
          have hv2 := V2.out _ (List.mem_of_getElem? g2)
          dsimp only at hv2
          obtain ⟨hat0, hat1, hnms⟩ := hv2
          have hTg : T[cn + i]? = some (nm, (k : Int), (ofk : Int) + at_) := by
            have := tabF_get os 0 0 k i _ nm at_ G1.out g2
            rw [HT.out, HOE.out, HCN.out] at this
            simpa using this
          have HTG := hide hTg
          obtain ⟨wb, hwb⟩ : ∃ wb, wx.alloc (.cells #[.string nm, .int .i64 at_] 72) = wb := ⟨_, rfl⟩
          have hqb : Q wx wb := by rw [← hwb]; exact (Q.refl wx).alloc _
          have HWB := hide hwb
          have HLB := hide (hLX.up hqb)
          have HMB := hide (hLX.up hqb).mp
          have htl : (T.take (cn + i)).length ≤ 100000 := by rw [List.length_take]; omega
          have hlx2 : w.heap.size + 1 + 1 + 1 < wx.heap.size + 1 := by omega
          have hlx3 : wo.heap.size < wx.heap.size + 1 := by omega
          cases hlk : lookS (T.take (cn + i)) nm with
          | none =>
            clear hLX hdx hbx hss hTg hwb g2
            have HMC := hide (HLX.out.up (((Q.refl wx).alloc (.cells #[.string nm, .int .i64 at_] 72)).alloc (.cells #[.int .i64 0, .int .i64 0] 83)))
            have HHK := hide hlk
            clear hlk
            go_wp2_with (first | (at_lookup; rw [HWB.out]; refine wpList_lookN rfl _ _ rfl rfl HMB.out nm rfl (by omega) HHK.out ?_; rw [← HWB.out]) | (at_mapUpdate; refine wpList_updP rfl _ _ _ rfl rfl HMC.out.mp htl nm rfl (by omega) _ _ rfl HHK.out ?_; intro w5 hM5 hg5))
            have hsnoc : T.take (cn + i) ++ [(nm, (k : Int), (ofk : Int) + at_)] = T.take (cn + (i + 1)) := by
              rw [← Nat.add_assoc, List.take_add_one, HTG.out]
              rfl
            rw [hsnoc] at hM5
            have HL5 := hide (HMC.out.grow hg5 (.inr rfl) hM5)
            have HB5 := hide ((hg5.block wo.heap.size (by simp; omega) (fun e => by have := Option.some.inj e; omega)).trans (((((Q.refl wx).alloc (.cells #[.string nm, .int .i64 at_] 72)).alloc (.cells #[.int .i64 0, .int .i64 0] 83)).below.block _ hwx).trans HBX.out))
            clear hM5 hg5 hsnoc y1 y2 ky2
            go_wp2_with fail
            go_roundw
            case rel => exact ⟨i + 1, by omega, by go_num, HL5.out, by rw [← Nat.add_assoc]; exact HDX.out.step HTG.out HHK.out, HB5.out⟩
            case measure => simp [intOf] <;> omega
          | some ab =>
            obtain ⟨pa, pb⟩ := ab
            have hf := hdx.found hTg hlk
            have HF := hide hf
            have HHK := hide hlk
            have hR0 : w.heap.size < wx.heap.size := by omega
            have hR1 : w.heap.size < wx.heap.size + 1 := by omega
            have r0 := cell_blk hLX.b0 0
            have r1 := cell_blk hLX.b0 1
            have r2 := cell_blk hLX.b0 2
            have f0 := free_blk hLX.b0 0
            have f1 := free_blk hLX.b0 1
            have f2 := free_blk hLX.b0 2
            simp at r0 r1 r2
            obtain ⟨s0, s1, s2⟩ := set3 wx w.heap.size _ _ _ (.slice none 0 0) (.slice none 0 0) (.map none) r0 r1 r2
            have S0 := hide s0
            have S1 := hide s1
            have S2 := hide s2
            clear hlk hf hLX hdx hbx hss hTg hwb g2 s0 s1 s2
            go_wp2_with (at_lookup; rw [HWB.out]; refine wpList_lookF rfl _ _ rfl rfl HMB.out nm rfl (by omega) HHK.out ?_; rw [← HWB.out])
            have s0 := S0.out
            have s1 := S1.out
            have s2 := S2.out
            refine bodyPost_ret (v := .tuple #[.agg #[.slice none 0 0, .slice none 0 0, .map none], .int .i64 5]) (by simp [results, Try.results81, go_sem, s0, s1, s2, hR0, hR1]) rfl (LayPost.dup ?_ (by unfold namesF; rw [HT.out]; exact HF.out))
            exact ((((Q.set hqx (Nat.le_refl _) _).set (Nat.le_refl _) _).set (Nat.le_refl _) _).alloc _).alloc _
        · have hd1 : decide ((i : Int) < (n1 : Int)) = false := by simp; omega
          have hd0 : decide (i < n1) = false := by simp; omega
          obtain rfl : i = n1 := by omega
          have o0 := cell_blk hbx 0
          have o1' := cell_blk hbx 1
          have o2' := cell_blk hbx 2
          simp at o0 o1' o2'
          have hrm : room n0 ≤ 544 := by unfold room; omega
          have HR := hide (room_any A0 n0 c0 (.slice A1 i c1) (.slice A2 n2 c2) wx (by omega))
          obtain ⟨rm, hrme⟩ : ∃ rm, room n0 = rm := ⟨_, rfl⟩
          rw [hrme] at hrm HR
          have hrmi : (rm : Int) ≤ 544 := by omega
          have HRM := hide hrme
          have HLX := hide hLX
          have HDX := hide hdx
          clear hLX hdx hbx hrme
          go_wp2_with fail
          refine HR.out.mono ?_
          rintro e w6 ⟨rfl, hq6⟩
          have h6 := HLX.out.up hq6
          have hl6 := h6.l1lt
          have hrow := h6.row
          rw [HSL.out] at hrow
          have ky1 := cell_blk h6.b1 1
          simp at ky1
          have H6 := hide h6
          have hq06 := h6.q
          have hsq := hq06.size
          have hkk : k + 1 ≤ 9 := by omega
          clear o0 o1' o2' ky2 h6 hq6
          go_wp2_with (at_builtin; refine wpList_app1g rfl El_int _ _ rfl rfl hrow (by simp) rfl rfl ?_ ?_ ?_ ?_; (focus (simp [Value.oneCell'])); (focus omega); (focus omega); intro v7 w7 hown7 hg7; obtain ⟨A7, c7, rfl, _⟩ := own_form hown7; have b7 := H6.out.app_b1 hg7; have k7 := cell_blk b7 1; have f7 := free_blk b7 1; have l7 := (Array.getElem?_eq_some_iff.1 b7).1; simp at k7; have H7 := hide (H6.out.app hg7 (by rw [HSL.out]; exact hown7)); clear b7 hg7 hown7 ky1)
          go_roundw
          case rel => exact ⟨k + 1, _, by omega, by go_num, by rw [offF_succ G1.out, HOE.out]; dsimp only; rw [HRM.out]; go_num, by
            have h8 := H7.out
            rw [show startsL os (k + 1 + 1) = startsL os (k + 1) ++ [((ofk : Int) + (rm : Int))] by rw [startsL_succ os (k + 1), offF_succ G1.out, HOE.out]; dsimp only; rw [HRM.out]; simp]
            rw [show cntS (os.take (k + 1)) = cn + i by rw [cntS_succ G1.out, HCN.out]; dsimp only; rw [HSS.out.len]]
            exact h8, by
            rw [show cntS (os.take (k + 1)) = cn + i by rw [cntS_succ G1.out, HCN.out]; dsimp only; rw [HSS.out.len]]
            exact HDX.out⟩
          case measure => simp [intOf] <;> omega
    · have hd1 : decide ((k : Int) < (n : Int)) = false := by simp; omega
      have hd0 : decide (k < n) = false := by simp; omega
      obtain rfl : k = n := by omega
      have r0 := cell_blk hLY.b0 0
      have r1 := cell_blk hLY.b0 1
      have r2 := cell_blk hLY.b0 2
      have f0 := free_blk hLY.b0 0
      have f1 := free_blk hLY.b0 1
      have f2 := free_blk hLY.b0 2
      have l0 := cell_blk hLY.b1 0
      have l1 := cell_blk hLY.b1 1
      have l2 := cell_blk hLY.b1 2
      simp at r0 r1 r2 l0 l1 l2
      have hR0 : w.heap.size < wo.heap.size := by omega
      obtain ⟨s0, s1, s2⟩ := set3 wo w.heap.size _ _ _ (.slice A k c) (.slice Av (k + 1) cv) (.map (some (w.heap.size + 1 + 1))) r0 r1 r2
      have S0 := hide s0
      have S1 := hide s1
      have S2 := hide s2
      clear hLY s0 s1 s2
      go_wp2_with fail
      have s0 := S0.out
      have s1 := S1.out
      have s2 := S2.out
      have hfin := HLY.out.fin (.slice A k c) (.slice Av (k + 1) cv) (.map (some (w.heap.size + 1 + 1)))
      have hcnt : cn = T.length := by rw [← HCN.out, HTL.out, List.take_of_length_le (by have := HL.out; omega)]
      have hTT : T.take cn = T := by rw [hcnt]; exact List.take_length
      have hsl : (startsL os (k + 1)).length = k + 1 := by simp [startsL]
      have hdd : dupB [] (namesF os) = false := by
        have := HD.out
        unfold DupS at this
        rw [hcnt, List.drop_length] at this
        unfold namesF
        rw [HT.out, this]
        rfl
      rw [hTT, hsl] at hfin
      refine bodyPost_ret (v := .tuple #[.agg #[.slice A k c, .slice Av (k + 1) cv, .map (some (w.heap.size + 1 + 1))], .int .i64 0]) (by simp [results, Try.results81, go_sem, s0, s1, s2]) rfl ?_
      refine LayPost.ok ?_ hdd hfin.1 (by rw [HT.out]; exact hfin.2)
      exact ((Q.set hq0 (Nat.le_refl _) _).set (Nat.le_refl _) _).set (Nat.le_refl _) _
end Go.Proofs.Ytjdioilkhbpmoaa
