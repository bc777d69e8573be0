/- The walk of the program's (layout).image. Conditions: the objects are right, and lie where the table says. -/
import Derived.Test.YtjdioilkhbpmoaaLinkIa
namespace Go.Proofs.Ytjdioilkhbpmoaa
open Go.RowKit LK
set_option linter.unusedVariables false
theorem own_base2 {w : World} {B B' : Nat} {e : TypeId} {size : Nat} {v : Value} {n : Nat} {xs : List Value} (h : w.ownsRow B e size v n xs) (hb : B' ≤ B) : w.ownsRow B' e size v n xs := by
  refine ⟨h.1, ?_⟩
  rcases h.2 with h2 | ⟨g, cap, cur, h1, h2, h3⟩
  · exact .inl h2
  · exact .inr ⟨g, cap, cur, h1, Nat.le_trans hb h2, h3⟩
theorem wantsOk_mem {n : Nat} {x : Wnt} : ∀ {ws pre : List Wnt}, wantsOk n pre ws = true → x ∈ ws → wntOk n x = true
  | [], _, _, h => by cases h
  | y :: r, pre, h, hx => by
    simp only [wantsOk, Bool.and_eq_true] at h
    rcases List.mem_cons.1 hx with rfl | hx
    · exact h.1.1
    · exact wantsOk_mem h.2 hx
theorem enc8_flat : ∀ bs : List Int, List.flatMap (encI .u8) bs = bs.map (Value.int .u8)
  | [] => rfl
  | x :: r => by rw [List.flatMap_cons, enc8_flat r]; rfl
theorem cell_blkJ {w : World} {g j : Nat} {cs : Array Value} {ty : TypeId} {u : Value} (h : w.heap[g]? = some (.cells cs ty (0, 0))) (hu : cs[j]? = some u) : w.cell? ⟨g, j, none⟩ = some u := by
  rw [cell_of_row w g j cs ty (0, 0) h]
  exact hu
theorem blk_up {w : World} {g : Nat} {o x y : Obj} (h : w.heap[g]? = some o) : (((w.alloc x).alloc y).drew).heap[g]? = some o := by
  have hl := (Array.getElem?_eq_some_iff.1 h).1
  have e1 : ((w.alloc x).alloc y).heap[g]? = (w.alloc x).heap[g]? := heap_alloc_old _ _ (by simp; omega)
  have e2 : (w.alloc x).heap[g]? = w.heap[g]? := heap_alloc_old _ _ hl
  exact e1.trans (e2.trans h)
set_option maxRecDepth 100000 in
set_option maxHeartbeats 8000000 in
theorem image_any (A : Option Addr) (n c : Nat) (os : List OV) (As : Option Addr) (cs mb : Nat) (w : World) (hO : ObsR w A n c os) (hn : n ≤ 8) (hv : ∀ o ∈ os, o.valid = 0) (hS : Rd w w.heap.size As ((startsL os (n + 1)).map (Value.int .i64))) (hcs : n + 1 ≤ cs) (hM : MpR w mb (tabF 0 0 os)) :
    Calls Try.prog 69 #[.agg #[.slice A n c, .slice As (n + 1) cs, .map (some mb)]] w (ImgPost w (imgF (tabF 0 0 os) 0 os [])) := by
  have hl := hO.sl.len
  have HO := hide hO
  have HV := hide hv
  have HL := hide hl
  have hni : (n : Int) ≤ 8 := by omega
  have HOFF := hide (fun k => offF_le (os := os) (fun o ho => (valid_parts (hO.all o ho).s.len (hv o ho)).1) k)
  obtain ⟨T, hT⟩ : ∃ T, tabF 0 0 os = T := ⟨_, rfl⟩
  rw [hT] at hM ⊢
  obtain ⟨R, hR⟩ : ∃ R, imgF T 0 os [] = R := ⟨_, rfl⟩
  rw [hR]
  have HRR := hide hR
  have HM := hide hM
  have HS := hide hS
  obtain ⟨w1, hw1⟩ : ∃ w1, w.alloc (.cells #[.slice A n c, .slice As (n + 1) cs, .map (some mb)] 77) = w1 := ⟨_, rfl⟩
  have hq1 : Q w w1 := by rw [← hw1]; exact (Q.refl w).alloc _
  have hs1 : w.heap.size < w1.heap.size := by rw [← hw1]; simp
  have hb1 : w1.heap[w.heap.size]? = some (.cells #[.slice A n c, .slice As (n + 1) cs, .map (some mb)] 77 (0, 0)) := by rw [← hw1]; exact heap_alloc_new w _
  have HB1 := hide hb1
  have HQ1 := hide hq1
  have HW1 := hide hw1
  clear hO hv hl hT hR hM hS hw1 hb1
  go_enter Try.func69, Try.ntmps69
  go_wp2_with fail
  rw [HW1.out]
  go_loopw [4, 16] (fun v4 vi wr => ∃ (k : Nat) (L : List Value), k ≤ n ∧ vi = .int .i64 k ∧ R = imgF T (offF (os.take k)) (os.drop k) L ∧ Q w1 wr ∧ wr.ownsRow w1.heap.size 5 1 v4 (offF (os.take k)) L) (fun _ vi _ => n - (intOf vi).toNat)
  case atStart => exact ⟨0, [], by omega, by go_num, HRR.out.symm, Q.refl _, World.ownsRow_nil _ _ _ _⟩
  case round =>
    obtain ⟨k, L, hk, rfl, hR, hq, hrow⟩ := hrel
    obtain ⟨wo, rfl⟩ : ∃ wo : World, wo = wr := ⟨_, rfl⟩
    have hofk := HOFF.out k
    have hwo : w1.heap.size ≤ wo.heap.size := hq.size
    obtain ⟨ofk, hofe⟩ : ∃ ofk, offF (os.take k) = ofk := ⟨_, rfl⟩
    rw [hofe] at hR hrow hofk
    have hLl : L.length = ofk := by rw [hrow.1, Nat.mul_one]
    obtain ⟨Av, cv, hvs, hcv0, hcv, _⟩ := own_form hrow
    subst hvs
    unfold maxLen at hcv
    have HOE := hide hofe
    have HLL := hide hLl
    have HR := hide hR
    have HQ := hide hq
    have HRow := hide hrow
    have HW := hide (HQ1.out.trans hq)
    clear hR hofe hLl
    by_cases hlt : k < n
    · have hd1 : decide ((k : Int) < (n : Int)) = true := by simp; omega
      have hd0 : decide (k < n) = true := by simp; omega
      have hlti : (k : Int) < (n : Int) := by omega
      obtain ⟨b1, o1, ob, rfl, hb1, g1, x1, x2, x3, hob⟩ := (HO.out.up HW.out).at_ k hlt
      obtain ⟨⟨A0, n0, c0, bs⟩, ⟨A1, n1, c1, ss⟩, ⟨A2, n2, c2, ws⟩⟩ := ob
      have hval := HV.out _ (List.mem_of_getElem? g1)
      obtain ⟨v0, v1, v2⟩ := valid_parts hob.s.len hval
      have hb8 := hob.b
      have hbn := hob.bn
      have hsT := hob.t
      dsimp only at x1 x2 x3 v0 v1 v2 hb8 hbn hsT
      have hn0i : (n0 : Int) ≤ 512 := by omega
      have G1 := hide g1
      have HB8 := hide hb8
      have HBN := hide hbn
      have HT := hide hsT
      have HVAL := hide hval
      obtain ⟨rm, hrm⟩ : ∃ rm, room n0 = rm := ⟨_, rfl⟩
      have hrb : n0 + 8 ≤ rm ∧ rm ≤ 544 := by rw [← hrm]; unfold room; omega
      have hrbi : (n0 : Int) + 8 ≤ (rm : Int) := by omega
      obtain ⟨s0, s1, rfl, s3, s4, s5⟩ : ∃ b o, As = some ⟨b, o, none⟩ ∧ b < w.heap.size ∧ w.cell? ⟨b, o + k, none⟩ = some (.int .i64 (ofk : Nat)) ∧ w.cell? ⟨b, o + (k + 1), none⟩ = some (.int .i64 (ofk + rm : Nat)) := by
        obtain ⟨b, o, e, hb, hc⟩ := HS.out.at_ (by simp [startsL])
        have e1 := offF_succ G1.out
        rw [HOE.out] at e1
        dsimp only at e1
        rw [hrm] at e1
        refine ⟨b, o, e, hb, ?_, ?_⟩
        · rw [hc k (by simp [startsL]; omega)]
          simp [startsL, HOE.out]
        · rw [hc (k + 1) (by simp [startsL]; omega)]
          simp [startsL, e1]
      have S4 := hide s4
      have S5 := hide s5
      have HRM := hide hrm
      clear s4 s5 hrm
      obtain ⟨wa, hwa⟩ : ∃ wa, wo.alloc (.cells #[.slice A0 n0 c0, .slice A1 n1 c1, .slice A2 n2 c2] 41) = wa := ⟨_, rfl⟩
      have hqa : Q wo wa := by rw [← hwa]; exact (Q.refl wo).alloc _
      have hba : wa.heap[wo.heap.size]? = some (.cells #[.slice A0 n0 c0, .slice A1 n1 c1, .slice A2 n2 c2] 41 (0, 0)) := by rw [← hwa]; exact heap_alloc_new wo _
      have hra : wa.ownsRow w1.heap.size 5 1 (.slice Av ofk cv) ofk L := own_q hrow hqa
      have HBA := hide hba
      have HRA := hide hra
      have HQA := hide hqa
      have HWA := hide hwa
      clear hob hval g1 hwa hb8 hbn hsT hra hrow hq
      have HQB := hide (HQ.out.trans HQA.out)
      have hNI := enc8_flat bs
      have HNI := hide hNI
      have hbl := HB8.out.len
      have hsza := HQB.out.size
      have HSZ := hide (HWA.out ▸ (by simp : wo.heap.size < (wo.alloc (.cells #[.slice A0 n0 c0, .slice A1 n1 c1, .slice A2 n2 c2] 41)).heap.size))
      clear hNI
      go_wp2_with (at_builtin; first | (rw [HWA.out]; refine wpList_appsg rfl El_u8 _ _ rfl rfl HRA.out rfl HBN.out ?_ (HB8.out.up HQA.out).rd ?_ ?_ ?_ ?_; (focus (rw [HNI.out]; simp; omega)); (focus (intro u hu; rw [HNI.out] at hu; obtain ⟨x, _, rfl⟩ := List.mem_map.1 hu; rfl)); (focus omega); (focus omega); intro v5 w5 hown5 hg5; rw [HNI.out] at hown5; have hq5 := q_grown HQB.out hg5 (fun k e => (HRA.out.lt k e).1); have hb5 := (hq5.below.block _ hs1).trans HB1.out; have h65 := (hg5.block wo.heap.size HSZ.out (fun e => absurd (HRow.out.lt _ e.symm).2 (by omega))).trans HBA.out; have s55 := ((HQ1.out.trans hq5).facts.1 _ _ s3).trans S5.out; have hsz5 := hq5.size; have kb5 := cell_blkJ (j := 1) hb5 rfl; have k65 := cell_blkJ (j := 2) h65 rfl; have HB5 := hide hb5; have H65 := hide h65; have HR5 := hide hown5; have HQ5 := hide hq5; obtain ⟨A5, c5, e5, _, _, _⟩ := own_form hown5; subst e5) | (refine wpList_appz rfl _ _ rfl rfl Try.underlying37 Try.underlying3 (show (Try.prog.info? 5).map (fun i => (i.zero, i.size, i.bytes)) = some (some (.int .u8 0), 1, 1) by kernel_rfl) rfl rfl HR5.out rfl (rm - n0) ?_ ?_ ?_ ?_ ?_ ?_; (focus omega); (focus omega); (focus (unfold maxLen; omega)); (focus omega); (focus omega); intro v6 w6 hown6 hg6; have hq6 := q_grown HQ5.out hg6 (fun k e => (HR5.out.lt k e).1); have h66 : w6.heap[wo.heap.size]? = some (.cells #[.slice A0 n0 c0, .slice A1 n1 c1, .slice A2 n2 c2] 41 (0, 0)) := (hg6.block wo.heap.size (Array.getElem?_eq_some_iff.1 H65.out).1 (fun e => by obtain ⟨cs', hcs'⟩ := own_blk HR5.out e.symm; rw [H65.out] at hcs'; cases hcs')).trans H65.out; have k66 := cell_blkJ (j := 2) h66 rfl; have HQ6 := hide hq6; have H66 := hide h66; have HR6 := hide hown6))
      have hN : ofk + n0 + (rm - n0) = ofk + rm := by omega
      have hr6 := HR6.out
      rw [hN] at hr6
      obtain ⟨A6, c6, e6, hc60, hc6, _⟩ := own_form hr6
      subst e6
      unfold maxLen at hc6
      have HR6b := hide hr6
      have hobw : ObR w (⟨A0, n0, c0, bs⟩, ⟨A1, n1, c1, ss⟩, ⟨A2, n2, c2, ws⟩) := by
        obtain ⟨_, _, obw, _, _, gw, _, _, _, hobw⟩ := HO.out.at_ k hlt
        rw [G1.out] at gw
        cases gw
        exact hobw
      have HTW := hide hobw.t
      have HTOK := hide hobw.tok
      have htl := HT.out.len
      clear hobw hr6 HR6 hN
      go_loopw [39] (fun vi wx => ∃ (j : Nat) (Lj : List Value), j ≤ n2 ∧ vi = .int .i64 j ∧ imgStep T ofk (⟨A0, n0, c0, bs⟩, ⟨A1, n1, c1, ss⟩, ⟨A2, n2, c2, ws⟩) L = wantsL T (ofk : Nat) (ws.drop j) Lj ∧ Q w1 wx ∧ wx.heap[wo.heap.size]? = some (.cells #[.slice A0 n0 c0, .slice A1 n1 c1, .slice A2 n2 c2] 41 (0, 0)) ∧ wx.ownsRow w1.heap.size 5 1 (.slice A6 (ofk + rm) c6) (ofk + rm) Lj) (fun vi _ => n2 - (intOf vi).toNat)
      case atStart => exact ⟨0, _, by omega, by go_num, by unfold imgStep; dsimp only; rw [HRM.out]; rfl, HQ6.out, H66.out, HR6b.out⟩
      case round =>
        obtain ⟨j, Lj, hj, rfl, hst, hqx, h6x, hrx⟩ := hrel
        obtain ⟨wx, rfl⟩ : ∃ wx : World, wx = wr := ⟨_, rfl⟩
        have hbx := (hqx.below.block _ hs1).trans HB1.out
        have kx1 : wx.cell? ⟨w.heap.size, 1, none⟩ = some (.slice (some ⟨s0, s1, none⟩) (n + 1) cs) := cell_blkJ (j := 1) hbx rfl
        have kx2 : wx.cell? ⟨w.heap.size, 2, none⟩ = some (.map (some mb)) := cell_blkJ (j := 2) hbx rfl
        have hszx := hqx.size
        have hxw : w.heap.size < wx.heap.size := by omega
        have sx4 := ((HQ1.out.trans hqx).facts.1 _ _ (show s0 < w.heap.size from s3)).trans S4.out
        have HST := hide hst
        have HQX := hide hqx
        have H6X := hide h6x
        have HRX := hide hrx
        clear hst hqx h6x hrx hbx
        by_cases hjn : j < n2
        · have hd1 : decide ((j : Int) < (n2 : Int)) = true := by simp; omega
          have hd0 : decide (j < n2) = true := by simp; omega
          have hjni : (j : Int) < (n2 : Int) := by omega
          have hn2i : (n2 : Int) ≤ 9223372036854775807 := by have := HTW.out.cap; have := HTW.out.most; dsimp only at *; omega
          obtain ⟨b4, o4, at_, kd, nm, e4, hb4, g4, y1, y2, y3⟩ := (HTW.out.up (HQ1.out.trans HQX.out)).wnt j hjn
          dsimp only at e4 y1 y2 y3 g4
          subst e4
          have G4 := hide g4
          have hnm : nm.size ≤ 9223372036854775807 := by have := HTOK.out _ (List.mem_of_getElem? g4); dsimp only at this; omega
          have HM8 := hide ((HM.out.up (HQ1.out.trans HQX.out)).up ((Q.refl wx).alloc (.cells #[.int .i64 at_, .int .i64 kd, .string nm] 74)))
          clear g4
          cases hlk : lookS T nm with
          | none =>
            have E := hide (show R = none from HR.out.trans (imgF_none G1.out (HST.out.trans (wantsL_none G4.out hlk))))
            have HK := hide hlk
            clear hlk
            go_wp2_with (at_lookup; refine wpList_lookN rfl _ _ rfl rfl HM8.out nm rfl hnm HK.out ?_)
            go_ret2
            exact ⟨((HQ1.out.trans HQX.out).alloc _).alloc _, .inl ⟨E.out, rfl⟩⟩
          | some pq =>
            obtain ⟨p, q⟩ := pq
            have HK := hide hlk
            have hsound : soundB n0 ss ws = true := by
              have h := HVAL.out
              unfold OV.valid validF at h
              dsimp only at h
              cases hs : soundB n0 ss ws with
              | true => rfl
              | false => rw [hs] at h; split at h <;> simp at h
            simp only [soundB, Bool.and_eq_true] at hsound
            have hx := wantsOk_mem hsound.2 (List.mem_of_getElem? G4.out)
            unfold wntOk at hx
            simp only [Bool.and_eq_true, decide_eq_true_eq] at hx
            obtain ⟨⟨⟨⟨-, a0⟩, a1⟩, a2⟩, a3⟩ := hx
            obtain ⟨an, rfl⟩ : ∃ an : Nat, at_ = (an : Int) := ⟨at_.toNat, by omega⟩
            have ha4 : an + 4 ≤ n0 := by omega
            have hofi : (ofk : Int) ≤ 4352 := by omega
            have hs0x : s0 < wx.heap.size := by omega
            have hki1 : (k : Int) < ((n + 1 : Nat) : Int) := by omega
            have hki2 : k < n + 1 := by omega
            obtain ⟨g6, cc6, e6, hg6b, hg6l, -, -, -, -⟩ := own_at HRX.out (by omega)
            cases e6
            have E := hide (HST.out.trans (wantsL_some G4.out hlk))
            clear hlk hsound
            go_wp2_with (at_lookup; refine wpList_lookF rfl _ _ rfl rfl HM8.out nm rfl hnm HK.out ?_)
            obtain ⟨wy, hwy⟩ : ∃ wy, (wx.alloc (.cells #[.int .i64 an, .int .i64 kd, .string nm] 74)).alloc (.cells #[.int .i64 p, .int .i64 q] 83) = wy := ⟨_, rfl⟩
            rw [hwy]
            have hqy : Q wx wy := by rw [← hwy]; exact ((Q.refl wx).alloc _).alloc _
            have ya0 : wy.cell? ⟨wx.heap.size, 0, none⟩ = some (.int .i64 an) := by rw [← hwy]; exact cell_blkJ (j := 0) ((heap_alloc_old _ _ (by simp)).trans (heap_alloc_new wx _)) rfl
            have ya1 : wy.cell? ⟨wx.heap.size, 1, none⟩ = some (.int .i64 kd) := by rw [← hwy]; exact cell_blkJ (j := 1) ((heap_alloc_old _ _ (by simp)).trans (heap_alloc_new wx _)) rfl
            have yq1 : wy.cell? ⟨wx.heap.size + 1, 1, none⟩ = some (.int .i64 q) := by rw [← hwy]; exact cell_blkJ (j := 1) (by have := heap_alloc_new (wx.alloc (.cells #[.int .i64 an, .int .i64 kd, .string nm] 74)) (.cells #[.int .i64 p, .int .i64 q] 83); simpa using this) rfl
            have hsy : wy.heap.size = wx.heap.size + 2 := by rw [← hwy]; simp
            have hxy : wx.heap.size < wy.heap.size := by omega
            have hxy1 : wx.heap.size + 1 < wy.heap.size := by omega
            have hwy1 : w.heap.size < wy.heap.size := by omega
            have hs0y : s0 < wy.heap.size := by omega
            have sy4 : wy.cell? ⟨s0, s1 + k, none⟩ = some (.int .i64 (ofk : Nat)) := (hqy.facts.1 _ _ hs0x).trans sx4
            have ky1 : wy.cell? ⟨w.heap.size, 1, none⟩ = some (.slice (some ⟨s0, s1, none⟩) (n + 1) cs) := (hqy.facts.1 _ _ hxw).trans kx1
            clear hwy hsy
            have hxc := ext_cell
            refine wp_region_ext (by kernel_rfl) (by kernel_rfl) ?_
            repeat (go_big_quiet_step ((fail)))
            clear hxc
            refine wpQuiet_nil ?_
            intro w8 hww8
            have hqw8 := q_of_ext hww8
            clear hww8
            obtain ⟨hcw8, hfw8, hzw8⟩ := hqw8.facts
            try simp at hzw8
            try have hs0w8 : w.heap.size < w8.heap.size := by omega
            try have hs1w8 : w.heap.size + 1 < w8.heap.size := by omega
            have hq8 : Q wx w8 := hqy.trans hqw8
            have za1 : w8.cell? ⟨wx.heap.size, 1, none⟩ = some (.int .i64 kd) := (hcw8 _ _ hxy).trans ya1
            have zq1 : w8.cell? ⟨wx.heap.size + 1, 1, none⟩ = some (.int .i64 q) := (hcw8 _ _ hxy1).trans yq1
            clear hcw8 hfw8
            rcases (show kd = 0 ∨ kd = 1 by omega) with rfl | rfl
            · go_wp2_with fail
              obtain ⟨v, hv⟩ : ∃ v : Nat, q % 4294967296 = (v : Int) := ⟨(q % 4294967296).toNat, by omega⟩
              rw [hv]
              refine (put_any g6 (ofk + an) _ (ofk + rm) c6 w1.heap.size v Lj _ (by omega) (by omega) (own_q HRX.out hq8) (by omega)).mono ?_
              rintro e w9 ⟨rfl, hg9, hown9⟩
              have hq9 : Q w1 w9 := q_grown (HQX.out.trans hq8) hg9 (fun k' e => by cases e; exact hg6b)
              have h69 : w9.heap[wo.heap.size]? = some (.cells #[.slice A0 n0 c0, .slice A1 n1 c1, .slice (some ⟨b4, o4, none⟩) n2 c2] 41 (0, 0)) := by
                have hb8 := (hq8.below.block wo.heap.size (Array.getElem?_eq_some_iff.1 H6X.out).1).trans H6X.out
                exact (hg9.block wo.heap.size (Array.getElem?_eq_some_iff.1 hb8).1 (fun e => by obtain ⟨cs', hcs'⟩ := own_blk HRX.out e.symm; rw [H6X.out] at hcs'; cases hcs')).trans hb8
              have hpw : putW (ofk : Nat) q ((an : Int), 0, nm) Lj = putL v (ofk + an) 4 Lj := by
                unfold putW
                dsimp only
                rw [if_neg (by decide), hv]
                rfl
              rw [← hpw] at hown9
              clear hpw hv
              clear a0 a1 a2 a3 ha4 hki1 hki2
              go_wp2_with fail
              go_roundw
              case rel => exact ⟨j + 1, _, by omega, by go_num, E.out, hq9, h69, hown9⟩
              case measure =>
                simp [intOf]
                first | omega | (rw [wrap64_in _ (by omega)]; omega)
            · go_wp2_with fail
              obtain ⟨v, hv0⟩ : ∃ v : Nat, wrap64 (q - ((ofk : Int) + (an : Int))) % 4294967296 = (v : Int) := ⟨(wrap64 (q - ((ofk : Int) + (an : Int))) % 4294967296).toNat, by omega⟩
              have hv : (q - ((ofk : Int) + (an : Int))) % 4294967296 = (v : Int) := by have h := hv0; unfold wrap64 at h; omega
              rw [hv0]
              refine (put_any g6 (ofk + an) _ (ofk + rm) c6 w1.heap.size v Lj _ (by omega) (by omega) (own_q HRX.out hq8) (by omega)).mono ?_
              rintro e w9 ⟨rfl, hg9, hown9⟩
              have hq9 : Q w1 w9 := q_grown (HQX.out.trans hq8) hg9 (fun k' e => by cases e; exact hg6b)
              have h69 : w9.heap[wo.heap.size]? = some (.cells #[.slice A0 n0 c0, .slice A1 n1 c1, .slice (some ⟨b4, o4, none⟩) n2 c2] 41 (0, 0)) := by
                have hb8 := (hq8.below.block wo.heap.size (Array.getElem?_eq_some_iff.1 H6X.out).1).trans H6X.out
                exact (hg9.block wo.heap.size (Array.getElem?_eq_some_iff.1 hb8).1 (fun e => by obtain ⟨cs', hcs'⟩ := own_blk HRX.out e.symm; rw [H6X.out] at hcs'; cases hcs')).trans hb8
              have hpw : putW (ofk : Nat) q ((an : Int), 1, nm) Lj = putL v (ofk + an) 4 Lj := by
                unfold putW
                dsimp only
                rw [if_pos rfl, hv]
                rfl
              rw [← hpw] at hown9
              clear hpw hv hv0
              clear a0 a1 a2 a3 ha4 hki1 hki2
              go_wp2_with fail
              go_roundw
              case rel => exact ⟨j + 1, _, by omega, by go_num, E.out, hq9, h69, hown9⟩
              case measure =>
                simp [intOf]
                first | omega | (rw [wrap64_in _ (by omega)]; omega)
        · have hd1 : decide ((j : Int) < (n2 : Int)) = false := by simp; omega
          have hd0 : decide (j < n2) = false := by simp; omega
          obtain rfl : j = n2 := by omega
          have hL : imgStep T ofk (⟨A0, n0, c0, bs⟩, ⟨A1, n1, c1, ss⟩, ⟨A2, j, c2, ws⟩) L = some Lj := by rw [HST.out, List.drop_eq_nil_of_le (by omega)]; rfl
          have HLJ := hide hL
          clear hL
          go_wp2_with fail
          go_roundw
          case rel => exact ⟨k + 1, Lj, by omega, by go_num, by have e1 := offF_succ G1.out; rw [HOE.out] at e1; rw [e1, HR.out]; exact imgF_some G1.out HLJ.out, HQX.out, by have e1 := offF_succ G1.out; rw [HOE.out] at e1; rw [e1]; dsimp only; rw [HRM.out]; exact HRX.out⟩
          case measure => simp [intOf] <;> omega
    · have hd1 : decide ((k : Int) < (n : Int)) = false := by simp; omega
      have hd0 : decide (k < n) = false := by simp; omega
      obtain rfl : k = n := by omega
      have E := hide (show R = some L by rw [HR.out, List.drop_eq_nil_of_le (by rw [HL.out]; exact Nat.le_refl _)]; rfl)
      go_wp2_with fail
      go_ret2
      exact ⟨HW.out, .inr ⟨L, _, _, E.out, rfl, own_base2 HRow.out (HQ1.out.size)⟩⟩
end Go.Proofs.Ytjdioilkhbpmoaa
