/- The walk of the reference's image. Conditions: the objects read as a list, all are right, no name is missing. -/
import Derived.Test.YtjdioilkhbpmoaaLinkRc
import Derived.BigRegion
namespace Go.Proofs.Ytjdioilkhbpmoaa
open Go.RowKit LK
set_option linter.unusedVariables false
set_option maxRecDepth 100000 in
set_option maxHeartbeats 4000000 in
theorem rimage_any (A : Option Addr) (n c : Nat) (os : List OV) (w : World) (hO : ObsR w A n c os) (hn : n ≤ 8) (hv : ∀ o ∈ os, o.valid = 0) (hm : noneMiss (tabF 0 0 os) os) :
    Calls Try.prog 71 #[.slice A n c] w fun e w' => ∃ v, e = .returned v ∧ w'.ownsRow w.heap.size 5 1 v (offF os) (imgT (tabF 0 0 os) 0 os []) ∧ Q w w' := by
  have hl := hO.sl.len
  have hv5 : ∀ o ∈ os, o.1.n ≤ 512 := fun o ho => (valid_parts (hO.all o ho).s.len (hv o ho)).1
  have HS := hide (rstarts_any A n c os w hO (by omega) hv5)
  have HAD := hide (fun wx (hq : Q w wx) s => address_any A n c os s wx (hO.up hq) hn hv)
  have HOFF := hide (fun k => offF_le hv5 k)
  have hni : (n : Int) ≤ 8 := by omega
  obtain ⟨T, hT⟩ : ∃ T, tabF 0 0 os = T := ⟨_, rfl⟩
  rw [hT] at hm ⊢
  obtain ⟨N, hN⟩ : ∃ N, offF os = N := ⟨_, rfl⟩
  have hNn : offF (os.take n) = N := by rw [List.take_of_length_le (by omega), hN]
  have hNb := HOFF.out n
  rw [hNn] at hNb
  have hNi : (N : Int) ≤ 4352 := by omega
  obtain ⟨R, hR⟩ : ∃ R, imgT T 0 os [] = R := ⟨_, rfl⟩
  rw [hR, hN]
  have HAD2 := hide (fun (s : ByteArray) (h : (lookS T s).isSome = true) => show addrR os s = (adr T s, true) by unfold addrR; rw [hT]; exact adr_found h)
  have HO := hide hO
  have HL := hide hl
  have HV := hide hv
  have HM := hide hm
  have HT := hide hT
  have HN := hide hN
  have HR := hide hR
  have HV5 := hide hv5
  clear hO hl hv hm hT hN hR hv5
  have HNN := hide hNn
  clear hNn
  go_enter Try.func71, Try.ntmps71
  go_wp2_with fail
  refine HS.out.mono ?_
  rintro e w1 ⟨v1, rfl, hown1, hq1⟩
  obtain ⟨g, cc, rfl, hg1, hg2, hg3, hg4, -, -⟩ := own_at hown1 (by omega)
  unfold maxLen at hg4
  have hcN := rows_get hown1 (startsL_get os (n + 1) n (by omega))
  rw [HNN.out] at hcN
  have hnn1 : (n : Int) < (n : Int) + 1 := by omega
  have hnn2 : n < n + 1 := by omega
  have HOW := hide hown1
  have HQ1 := hide hq1
  clear hown1 hq1
  go_wp2_with (at_make; refine wpList_mk rfl _ _ rfl Try.underlying37 (show (Try.prog.info? 5).map (fun i => (i.zero, i.size, i.bytes)) = some (some (.int .u8 0), 1, 1) by kernel_rfl) rfl w1.heap.size (n := N) rfl rfl rfl rfl ?_ ?_ ?_ ?_; (focus omega); (focus omega); (focus exact Nat.le_refl _); intro w3 hown3 hq3 hlt3; have HOW3 := hide hown3; have HQ3 := hide hq3; clear hown3 hq3)
  clear hcN hnn1 hnn2
  go_loopw [5] (fun vi wr => ∃ (i : Nat) (X : List Value), i ≤ n ∧ vi = .int .i64 i ∧ R = imgT T (offF (os.take i)) (os.drop i) X ∧ X.length = offF (os.take i) ∧ Q w1 wr ∧ w1.heap.size < wr.heap.size ∧ wr.ownsRow w1.heap.size 5 1 (.slice (some ⟨w1.heap.size, 0, none⟩) N N) N (X ++ List.replicate (N - offF (os.take i)) z8)) (fun vi _ => n - (intOf vi).toNat)
  case atStart => exact ⟨0, [], by omega, by go_num, HR.out.symm, rfl, HQ3.out, hlt3, by have h := HOW3.out; simpa [offF, z8] using h⟩
  case round =>
    obtain ⟨i, X, hi, rfl, hR, hX, hq, hlt, hrow⟩ := hrel
    obtain ⟨wo, rfl⟩ : ∃ wo : World, wo = wr := ⟨_, rfl⟩
    have hof := HOFF.out i
    have hoN : offF (os.take i) ≤ N := by rw [← HNN.out]; exact offF_mono os hi
    obtain ⟨ofi, hofe⟩ : ∃ ofi, offF (os.take i) = ofi := ⟨_, rfl⟩
    rw [hofe] at hR hX hrow hof hoN
    have HRR := hide hR
    have HX := hide hX
    have HQ := hide hq
    have HRow := hide hrow
    have HOE := hide hofe
    clear hR hX hq hrow hofe
    by_cases hin : i < n
    · have hd1 : decide ((i : Int) < (n : Int)) = true := by simp; omega
      have hd0 : decide (i < n) = true := by simp; omega
      have hlti : (i : Int) < (n : Int) := by omega
      have hlti1 : (i : Int) < (n : Int) + 1 := by omega
      have hlti2 : i < n + 1 := by omega
      obtain ⟨b1, o1, ob, rfl, hb1, g1, x1, x2, x3, hob⟩ := HO.out.at_ i hin
      obtain ⟨⟨A0, n0, c0, bs⟩, ⟨A1, n1, c1, ss⟩, ⟨A2, n2, c2, ws⟩⟩ := ob
      have hval := HV.out _ (List.mem_of_getElem? g1)
      obtain ⟨v0, v1, v2⟩ := valid_parts hob.s.len hval
      have hms := HM.out _ (List.mem_of_getElem? g1)
      have hoN2 : offF (os.take (i + 1)) ≤ N := by rw [← HNN.out]; exact offF_mono os hin
      have hos := offF_succ g1
      rw [HOE.out] at hos
      dsimp only at x1 x2 x3 v0 v1 v2 hos
      obtain ⟨rm, hrm⟩ : ∃ rm, room n0 = rm := ⟨_, rfl⟩
      have hrb : n0 + 8 ≤ rm ∧ rm ≤ 544 := by rw [← hrm]; unfold room; omega
      rw [hrm] at hos
      rw [hos] at hoN2
      have hn0i : (n0 : Int) ≤ 512 := by omega
      have hofi : (ofi : Int) ≤ 4352 := by omega
      have hsc := rows_get HOW.out (startsL_get os (n + 1) i (by omega))
      rw [HOE.out] at hsc
      have G1 := hide g1
      have X1 := hide x1
      have X3 := hide x3
      have HOB := hide hob
      have HVAL := hide hval
      have HMS := hide hms
      have HRM := hide hrm
      have HOS := hide hos
      have HSC := hide hsc
      have V2 := hide v2
      clear g1 x1 x3 hob hval hms hrm hos hsc v2
      clear x2
      have q1 := HQ1.out
      have hbw1 : b1 < w1.heap.size := Nat.lt_of_lt_of_le hb1 q1.size
      have HB1 := hide hbw1
      clear q1
      go_wp2_with fail
      clear hd1 hd0
      go_loopw [6] (fun vi wr => ∃ k : Nat, k ≤ n0 ∧ vi = .int .i64 k ∧ Q w1 wr ∧ w1.heap.size < wr.heap.size ∧ wr.ownsRow w1.heap.size 5 1 (.slice (some ⟨w1.heap.size, 0, none⟩) N N) N ((X ++ (bs.take k).map (Value.int .u8)) ++ List.replicate (N - ofi - k) z8)) (fun vi _ => n0 - (intOf vi).toNat)
      case atStart => exact ⟨0, by omega, by go_num, HQ.out, hlt, by have h := HRow.out; simpa using h⟩
      case round =>
        obtain ⟨k, hk, rfl, hq, hltr, hrow⟩ := hrel
        have x1 := (hq.facts.1 _ _ hbw1).trans ((HQ1.out.facts.1 _ _ hb1).trans X1.out)
        have sc := (hq.facts.1 _ _ hg2).trans HSC.out
        have hbr : b1 < wr.heap.size := by omega
        have hgr : g < wr.heap.size := by omega
        by_cases hkn : k < n0
        · have hd1 : decide ((k : Int) < (n0 : Int)) = true := by simp; omega
          have hd0 : decide (k < n0) = true := by simp; omega
          have hlti : (k : Int) < (n0 : Int) := by omega
          have hob8 := (HOB.out.b.up HQ1.out).up hq
          obtain ⟨b0, o0, x, e0, hb0, hx0, hc0⟩ := hob8.at_ (fun _ => rfl) (by decide) k hkn
          dsimp only at e0 hx0
          subst e0
          have y0 : wr.cell? ⟨b0, o0 + k, none⟩ = some (.int .u8 x) := by have := hc0 0 _ rfl; simpa using this
          obtain ⟨g', c', e', -, -, -, -, hcell, hfz⟩ := own_at hrow (by omega)
          cases e'
          obtain ⟨u, hu⟩ : ∃ u, ((X ++ (bs.take k).map (Value.int .u8)) ++ List.replicate (N - ofi - k) z8)[ofi + k]? = some u := ⟨_, List.getElem?_eq_getElem (by have := hrow.1; omega)⟩
          have yc := hcell _ u hu
          have yf := hfz (ofi + k)
          have hokN : (ofi : Int) + (k : Int) < (N : Int) := by omega
          have hokN2 : ofi + k < N := by omega
          have hkn0 : (k : Int) < (n0 : Int) := by omega
          have HQK := hide hq
          have HRK := hide hrow
          have HX0 := hide hx0
          clear hq hrow hx0
          clear hcell hfz hu hc0 hob8
          go_wp2_with fail
          go_region
          go_wp2_with fail
          clear x1 sc y0 yc yf hokN hokN2
          go_roundw
          case rel => exact ⟨k + 1, by omega, by go_num, (HQK.out.set (Nat.le_refl _) _).drew, by simp; omega, by
            have h := own_set HRK.out (ofi + k) (.int .u8 x)
            rw [show ofi + k = X.length + k by rw [HX.out], byte_step HX0.out (by omega), show N - ofi - k - 1 = N - ofi - (k + 1) by omega, HX.out] at h
            exact own_q h (Q.refl _).drew⟩
          case measure => simp [intOf] <;> omega
        · have hd1 : decide ((k : Int) < (n0 : Int)) = false := by simp; omega
          have hd0 : decide (k < n0) = false := by simp; omega
          obtain rfl : k = n0 := by omega
          have HQK := hide hq
          clear hq
          have hbl := HOB.out.b.len
          have htl := HOB.out.t.len
          dsimp only at hbl htl
          have hrow2 : wr.ownsRow w1.heap.size 5 1 (.slice (some ⟨w1.heap.size, 0, none⟩) N N) N (padL (⟨A0, k, c0, bs⟩, ⟨A1, n1, c1, ss⟩, ⟨A2, n2, c2, ws⟩) X ++ List.replicate (N - ofi - rm) z8) := by
            have h := hrow
            rw [List.take_of_length_le (by omega)] at h
            unfold padL
            dsimp only
            rw [HRM.out, List.append_assoc, List.replicate_append_replicate, show rm - k + (N - ofi - rm) = N - ofi - k by omega]
            exact h
          have HRP := hide hrow2
          have HTL := hide htl
          obtain ⟨Y, hY⟩ : ∃ Y, padL (⟨A0, k, c0, bs⟩, ⟨A1, n1, c1, ss⟩, ⟨A2, n2, c2, ws⟩) X = Y := ⟨_, rfl⟩
          rw [hY] at HRP
          have HYl := hide (show Y.length = ofi + rm by rw [← hY]; unfold padL; simp [HRM.out, HX.out, hbl]; omega)
          have HY := hide hY
          have hwl := wants_le HVAL.out
          dsimp only at hwl
          have hn2i : (n2 : Int) ≤ 16 := by omega
          clear hwl
          clear hrow hrow2 hY sc hbl htl
          go_wp2_with fail
          clear x1 hd1 hd0
          go_loopw [7] (fun vi wr => ∃ j : Nat, j ≤ n2 ∧ vi = .int .i64 j ∧ Q w1 wr ∧ w1.heap.size < wr.heap.size ∧ wr.ownsRow w1.heap.size 5 1 (.slice (some ⟨w1.heap.size, 0, none⟩) N N) N (wantsT T (ofi : Nat) (ws.take j) Y ++ List.replicate (N - ofi - rm) z8)) (fun vi _ => n2 - (intOf vi).toNat)
          case atStart => exact ⟨0, by omega, by go_num, HQK.out, hltr, HRP.out⟩
          case round =>
            obtain ⟨j, hj, rfl, hq, hltx, hrow⟩ := hrel
            obtain ⟨wx, rfl⟩ : ∃ wx : World, wx = wr := ⟨_, rfl⟩
            have x3 := (hq.facts.1 _ _ hbw1).trans ((HQ1.out.facts.1 _ _ hb1).trans X3.out)
            have hbr2 : b1 < wx.heap.size := by omega
            have HQJ := hide hq
            have HRJ := hide hrow
            clear hq hrow
            by_cases hjn : j < n2
            · have hd1 : decide ((j : Int) < (n2 : Int)) = true := by simp; omega
              have hd0 : decide (j < n2) = true := by simp; omega
              have hlti : (j : Int) < (n2 : Int) := by omega
              obtain ⟨b4, o4, at_, kd, nm, e4, hb4, g4, y1, y2, y3⟩ := ((HOB.out.t.up HQ1.out).up HQJ.out).wnt j hjn
              dsimp only at e4 g4
              subst e4
              have hsm := HMS.out _ (List.mem_of_getElem? g4)
              dsimp only at hsm
              have HSM := hide hsm
              have HG4 := hide g4
              clear g4 hsm
              go_wp2_with fail
              obtain ⟨q, hqe⟩ : ∃ q, adr T nm = q := ⟨_, rfl⟩
              have HAQ := hide hqe
              have hc := HAD.out (wx.alloc (.cells #[.int .i64 at_, .int .i64 kd, .string nm] 74)) ((HQ1.out.trans HQJ.out).alloc _) nm
              rw [HAD2.out nm HSM.out, hqe] at hc
              clear hqe
              refine hc.mono ?_
              rintro e wz ⟨rfl, hqz⟩
              clear hc
              have hsound : soundB k ss ws = true := by
                have h := HVAL.out
                unfold OV.valid validF at h
                dsimp only at h
                cases hs : soundB k ss ws with
                | true => rfl
                | false => rw [hs] at h; split at h <;> simp at h
              simp only [soundB, Bool.and_eq_true] at hsound
              have hx := wantsOk_mem hsound.2 (List.mem_of_getElem? HG4.out)
              unfold wntOk at hx
              simp only [Bool.and_eq_true, decide_eq_true_eq] at hx
              obtain ⟨⟨⟨⟨-, a0⟩, a1⟩, a2⟩, a3⟩ := hx
              obtain ⟨an, rfl⟩ : ∃ an : Nat, at_ = (an : Int) := ⟨at_.toNat, by omega⟩
              have ha4 : an + 4 ≤ k := by omega
              have z0 : wz.cell? ⟨wx.heap.size, 0, none⟩ = some (.int .i64 an) := by rw [hqz.facts.1 _ _ (by simp)]; simp
              have z1 : wz.cell? ⟨wx.heap.size, 1, none⟩ = some (.int .i64 kd) := by rw [hqz.facts.1 _ _ (by simp)]; simp
              have hqxz : Q wx wz := ((Q.refl wx).alloc _).trans hqz
              have hwz : wx.heap.size < wz.heap.size := by have := hqz.size; simp at this; omega
              have HQZ := hide (HQJ.out.trans hqxz)
              have HRZ := hide (own_q HRJ.out hqxz)
              clear hsound y1 y2 y3 x3 hqz hqxz hd1 hd0
              have sc := (HQZ.out.facts.1 _ _ hg2).trans HSC.out
              have hgz : g < wz.heap.size := by omega
              rcases (show kd = 0 ∨ kd = 1 by omega) with e0 | e1
              · subst e0
                go_wp2_with fail
                obtain ⟨v, hv⟩ : ∃ v : Nat, q % 4294967296 = (v : Int) := ⟨(q % 4294967296).toNat, by omega⟩
                have hvb : (v : Int) < 4294967296 := by omega
                have HPV := hide (show ((if (0 : Int) = 1 then q - ((ofi : Nat) + (an : Int)) else q) % 4294967296).toNat = v by rw [if_neg (by decide), hv]; rfl)
                have HPW := hide (show putW (ofi : Nat) q ((an : Int), 0, nm) (wantsT T (ofi : Nat) (ws.take j) Y) = putL v (ofi + an) 4 (wantsT T (ofi : Nat) (ws.take j) Y) by
                  unfold putW
                  dsimp only
                  rw [HPV.out]
                  rfl)
                have HV9 := hide hv
                clear hv HPV
                go_loopw [11] (fun vi wr => ∃ b : Nat, b ≤ 4 ∧ vi = .int .i64 b ∧ Q w1 wr ∧ wx.heap.size < wr.heap.size ∧ wr.cell? ⟨wx.heap.size, 0, none⟩ = some (.int .i64 an) ∧ wr.ownsRow w1.heap.size 5 1 (.slice (some ⟨w1.heap.size, 0, none⟩) N N) N (putL v (ofi + an) b (wantsT T (ofi : Nat) (ws.take j) Y) ++ List.replicate (N - ofi - rm) z8)) (fun vi _ => 4 - (intOf vi).toNat)
                case atStart => exact ⟨0, by omega, by go_num, HQZ.out, hwz, z0, HRZ.out⟩
                case round =>
                  obtain ⟨b, hb, rfl, hq, hlx, z0, hrow⟩ := hrel
                  have sc := (hq.facts.1 _ _ hg2).trans HSC.out
                  have hgr : g < wr.heap.size := by omega
                  by_cases hb4' : b < 4
                  · have hd1 : decide ((b : Int) < (4 : Int)) = true := by simp; omega
                    have hd0 : decide (b < 4) = true := by simp; omega
                    have hbi : (b : Int) ≤ 3 := by omega
                    obtain ⟨g', c', e', -, -, -, -, hcell, hfz⟩ := own_at hrow (by omega)
                    cases e'
                    obtain ⟨u, hu⟩ : ∃ u, (putL v (ofi + an) b (wantsT T (ofi : Nat) (ws.take j) Y) ++ List.replicate (N - ofi - rm) z8)[ofi + an + b]? = some u := ⟨_, List.getElem?_eq_getElem (by have := hrow.1; omega)⟩
                    have yc := hcell _ u hu
                    have yf := hfz (ofi + an + b)
                    have hokN : (ofi : Int) + (an : Int) + (b : Int) < (N : Int) := by omega
                    have hokN2 : ofi + an + b < N := by omega
                    have hvv := HV9.out
                    have HQB := hide hq
                    have HRB := hide hrow
                    clear hq hrow
                    clear hcell hfz hu
                    go_wp2_with fail
                    go_region
                    go_wp2_with fail
                    clear sc yc yf hokN hokN2
                    go_roundw
                    case rel => exact ⟨b + 1, by omega, by go_num, (HQB.out.set (Nat.le_refl _) _).drew, by simp; omega, (World.cell?_setCell_other wr ⟨w1.heap.size, ofi + an + b, none⟩ ⟨wx.heap.size, 0, none⟩ _ (fun e => by injection e with e1; omega)).trans z0, by
                      have h := own_set HRB.out (ofi + an + b) (pbyte v b)
                      rw [List.set_append_left _ _ (by rw [putL_len, wantsT_len, HYl.out]; omega)] at h
                      exact own_q h (Q.refl _).drew⟩
                    case measure => simp [intOf] <;> omega
                  · have hd1 : decide ((b : Int) < (4 : Int)) = false := by simp; omega
                    have hd0 : decide (b < 4) = false := by simp; omega
                    obtain rfl : b = 4 := by omega
                    have E := hide (wantsT_step (T := T) (st := (ofi : Nat)) (L := Y) HG4.out)
                    go_wp2_with fail
                    go_roundw
                    case rel => exact ⟨j + 1, by omega, by go_num, hq, by omega, by rw [E.out]; dsimp only; rw [HAQ.out, HPW.out]; exact hrow⟩
                    case measure => simp [intOf] <;> omega
              · subst e1
                go_wp2_with fail
                have hxc := ext_cell
                refine wp_region_ext (by kernel_rfl) (by kernel_rfl) ?_
                repeat (go_big_quiet_step ((fail)))
                clear hxc
                refine wpQuiet_nil ?_
                intro wy hwwy
                have hqwy := q_of_ext hwwy
                clear hwwy
                obtain ⟨hcwy, hfwy, hzwy⟩ := hqwy.facts
                try simp at hzwy
                try have hs0wy : w.heap.size < wy.heap.size := by omega
                try have hs1wy : w.heap.size + 1 < wy.heap.size := by omega
                have HQY := hide (HQZ.out.trans hqwy)
                have HRY := hide (own_q HRZ.out hqwy)
                have hxy : wx.heap.size < wy.heap.size := by have := hqwy.size; omega
                have y0 : wy.cell? ⟨wx.heap.size, 0, none⟩ = some (.int .i64 an) := (hqwy.facts.1 _ _ hwz).trans z0
                clear hcwy hfwy z0 z1
                go_wp2_with fail
                obtain ⟨v, hv⟩ : ∃ v : Nat, wrap64 (q - ((ofi : Int) + (an : Int))) % 4294967296 = (v : Int) := ⟨(wrap64 (q - ((ofi : Int) + (an : Int))) % 4294967296).toNat, by omega⟩
                have hvb : (v : Int) < 4294967296 := by omega
                have HPV := hide (show ((if (1 : Int) = 1 then q - ((ofi : Nat) + (an : Int)) else q) % 4294967296).toNat = v by rw [if_pos rfl]; have h := hv; unfold wrap64 at h; omega)
                have HPW := hide (show putW (ofi : Nat) q ((an : Int), 1, nm) (wantsT T (ofi : Nat) (ws.take j) Y) = putL v (ofi + an) 4 (wantsT T (ofi : Nat) (ws.take j) Y) by
                  unfold putW
                  dsimp only
                  rw [HPV.out]
                  rfl)
                have HV9 := hide hv
                clear hv HPV
                go_loopw [11] (fun vi wr => ∃ b : Nat, b ≤ 4 ∧ vi = .int .i64 b ∧ Q w1 wr ∧ wx.heap.size < wr.heap.size ∧ wr.cell? ⟨wx.heap.size, 0, none⟩ = some (.int .i64 an) ∧ wr.ownsRow w1.heap.size 5 1 (.slice (some ⟨w1.heap.size, 0, none⟩) N N) N (putL v (ofi + an) b (wantsT T (ofi : Nat) (ws.take j) Y) ++ List.replicate (N - ofi - rm) z8)) (fun vi _ => 4 - (intOf vi).toNat)
                case atStart => exact ⟨0, by omega, by go_num, HQY.out, hxy, y0, HRY.out⟩
                case round =>
                  obtain ⟨b, hb, rfl, hq, hlx, z0, hrow⟩ := hrel
                  have sc := (hq.facts.1 _ _ hg2).trans HSC.out
                  have hgr : g < wr.heap.size := by omega
                  by_cases hb4' : b < 4
                  · have hd1 : decide ((b : Int) < (4 : Int)) = true := by simp; omega
                    have hd0 : decide (b < 4) = true := by simp; omega
                    have hbi : (b : Int) ≤ 3 := by omega
                    obtain ⟨g', c', e', -, -, -, -, hcell, hfz⟩ := own_at hrow (by omega)
                    cases e'
                    obtain ⟨u, hu⟩ : ∃ u, (putL v (ofi + an) b (wantsT T (ofi : Nat) (ws.take j) Y) ++ List.replicate (N - ofi - rm) z8)[ofi + an + b]? = some u := ⟨_, List.getElem?_eq_getElem (by have := hrow.1; omega)⟩
                    have yc := hcell _ u hu
                    have yf := hfz (ofi + an + b)
                    have hokN : (ofi : Int) + (an : Int) + (b : Int) < (N : Int) := by omega
                    have hokN2 : ofi + an + b < N := by omega
                    have hvv := HV9.out
                    have HQB := hide hq
                    have HRB := hide hrow
                    clear hq hrow
                    clear hcell hfz hu
                    go_wp2_with fail
                    go_region
                    go_wp2_with fail
                    clear sc yc yf hokN hokN2
                    go_roundw
                    case rel => exact ⟨b + 1, by omega, by go_num, (HQB.out.set (Nat.le_refl _) _).drew, by simp; omega, (World.cell?_setCell_other wr ⟨w1.heap.size, ofi + an + b, none⟩ ⟨wx.heap.size, 0, none⟩ _ (fun e => by injection e with e1; omega)).trans z0, by
                      have h := own_set HRB.out (ofi + an + b) (pbyte v b)
                      rw [List.set_append_left _ _ (by rw [putL_len, wantsT_len, HYl.out]; omega)] at h
                      exact own_q h (Q.refl _).drew⟩
                    case measure => simp [intOf] <;> omega
                  · have hd1 : decide ((b : Int) < (4 : Int)) = false := by simp; omega
                    have hd0 : decide (b < 4) = false := by simp; omega
                    obtain rfl : b = 4 := by omega
                    have E := hide (wantsT_step (T := T) (st := (ofi : Nat)) (L := Y) HG4.out)
                    go_wp2_with fail
                    go_roundw
                    case rel => exact ⟨j + 1, by omega, by go_num, hq, by omega, by rw [E.out]; dsimp only; rw [HAQ.out, HPW.out]; exact hrow⟩
                    case measure => simp [intOf] <;> omega
            · have hd1 : decide ((j : Int) < (n2 : Int)) = false := by simp; omega
              have hd0 : decide (j < n2) = false := by simp; omega
              obtain rfl : j = n2 := by omega
              have E := hide (show R = imgT T (offF (os.take (i + 1))) (os.drop (i + 1)) (wantsT T (ofi : Nat) ws Y) by rw [HRR.out, imgT_step G1.out, HOS.out]; dsimp only; rw [HRM.out, HY.out])
              have E2 := hide (show ws.take j = ws from List.take_of_length_le (by rw [HTL.out]; exact Nat.le_refl _))
              have E3 := hide (show N - ofi - rm = N - offF (os.take (i + 1)) by rw [HOS.out]; omega)
              go_wp2_with fail
              go_roundw
              case rel => exact ⟨i + 1, _, by omega, by go_num, E.out, by rw [wantsT_len, HYl.out, HOS.out], HQJ.out, hltx, by rw [← E3.out]; have h := HRJ.out; rw [E2.out] at h; exact h⟩
              case measure => simp [intOf] <;> omega
    · have hd1 : decide ((i : Int) < (n : Int)) = false := by simp; omega
      have hd0 : decide (i < n) = false := by simp; omega
      obtain rfl : i = n := by omega
      have E := hide (show R = X by rw [HRR.out, List.drop_eq_nil_of_le (by rw [HL.out]; exact Nat.le_refl _)]; rfl)
      have E2 := hide (show N - ofi = 0 by rw [← HOE.out, HNN.out]; omega)
      go_wp2_with fail
      go_ret
      exact ⟨_, rfl, by rw [E.out]; have h := HRow.out; rw [E2.out] at h; simp at h; exact own_lower h HQ1.out.size, HQ1.out.trans HQ.out⟩
end Go.Proofs.Ytjdioilkhbpmoaa
