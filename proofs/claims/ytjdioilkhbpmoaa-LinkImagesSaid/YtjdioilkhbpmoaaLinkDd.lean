/- The walk of the program's Drop. Conditions: the objects and the roots read as lists. -/
import Derived.Test.YtjdioilkhbpmoaaLinkDc
import Derived.Test.YtjdioilkhbpmoaaMk
import Derived.Deep.LoopGhost
import Derived.Deep.RegionWith
import Derived.Deep.DeepCutAuto
namespace Go.Proofs.Ytjdioilkhbpmoaa
open Go.RowKit LK
set_option linter.unusedVariables false
/-- while the roots are looked up -/
def L1 (w : World) (os : List OV) (T : Tab) (rs : List ByteArray) (B z nb tb mb n i : Nat) (wr : World) : Prop :=
  ∃ N ao cap rest, DM w wr B z nb tb mb n T N ao cap rest ∧ PI os T rs N rest none ∧ Done T N (rs.take i) ∧ ∀ r ∈ rs.take i, objAt T r ≠ none
theorem DM.start {w w1 w3 : World} {mb n : Nat} {T : Tab} {L0 L1 : Value} (hq1 : Q w w1) (hm : MpR w1 mb T) (hown : w3.ownsRow w.heap.size 4 1 (.slice (some ⟨w1.heap.size + 1, 0, none⟩) n n) n (List.replicate n (.bool false))) (hq3 : Q (w1.alloc (.cells #[L0, L1, .map (some mb)] 77)) w3) (hlt : w1.heap.size + 1 < w3.heap.size) :
    DM w ((w3.alloc (.cells #[.slice (some ⟨w1.heap.size + 1, 0, none⟩) n n] 88)).alloc (.cells #[.slice none 0 0] 25)) w1.heap.size (w1.heap.size + 1) w3.heap.size (w3.heap.size + 1) mb n T (List.replicate n false) none 0 [] := by
  have hqa : Q w1 (w1.alloc (.cells #[L0, L1, .map (some mb)] 77)) := (Q.refl w1).alloc _
  have hq5 : Q w3 ((w3.alloc (.cells #[.slice (some ⟨w1.heap.size + 1, 0, none⟩) n n] 88)).alloc (.cells #[.slice none 0 0] 25)) := ((Q.refl w3).alloc _).alloc _
  have hlay : (w1.alloc (.cells #[L0, L1, .map (some mb)] 77)).cell? ⟨w1.heap.size, 2, none⟩ = some (.map (some mb)) := cell_blkJ (j := 2) (heap_alloc_new w1 _) rfl
  have s1 : (w3.alloc (.cells #[.slice (some ⟨w1.heap.size + 1, 0, none⟩) n n] 88)).heap.size = w3.heap.size + 1 := by simp
  refine ⟨hq1.trans (hqa.trans (hq3.trans hq5)), hm.up (hqa.trans (hq3.trans hq5)), ?_, ?_, ?_, ?_, Tl.nil _ _, ⟨hm.lt, by omega, by omega, by omega, hq1.size⟩⟩
  · exact ((hq3.trans hq5).facts.1 _ _ (by simp)).trans hlay
  · exact cell_blkJ (j := 0) ((heap_alloc_old _ _ (by rw [s1]; omega)).trans (heap_alloc_new w3 _)) rfl
  · rw [List.map_replicate]
    exact own_q hown hq5
  · rw [← s1]
    exact heap_alloc_new _ _
theorem DM.popped {w wr : World} {B z nb tb mb n : Nat} {T : Tab} {N : List Bool} {ao : Option Addr} {cap : Nat} {x : Int} {rest : List Int} (h : DM w wr B z nb tb mb n T N ao cap (x :: rest)) {A : Option Addr} {c : Nat} (ht : Tl wr (tb + 1) A c rest) :
    DM w (wr.setCell ⟨tb, 0, none⟩ (.slice A rest.length c)) B z nb tb mb n T N A c rest :=
  h.push (grown_refl wr none) (fun r e => by cases e) ht
theorem Tl.nilA (w : World) (B : Nat) (ao : Option Addr) : Tl w B ao 0 [] := ⟨0, 0, ⟨Nat.le_refl _, fun h => absurd h (by omega), fun h => absurd h (by omega), rfl, fun j u h => by simp at h, fun j h => by simp at h⟩, fun h => absurd h (by omega), by unfold maxLen; omega⟩
theorem DM.popped1 {w wr : World} {B z nb tb mb n m1 : Nat} {T : Tab} {N : List Bool} {ao : Option Addr} {cap : Nat} {x : Int} {rest : List Int} (h : DM w wr B z nb tb mb n T N ao cap (x :: rest)) (hc : rest.length + 1 ≤ cap) (h1 : cap = 1) (hm : rest.length = m1 - 1) (A : Option Addr) :
    DM w (wr.setCell ⟨tb, 0, none⟩ (.slice A (m1 - 1) 0)) B z nb tb mb n T N A 0 rest := by
  have h0 : rest.length = 0 := by omega
  have hr : rest = [] := List.eq_nil_of_length_eq_zero h0
  rw [← hm]
  subst hr
  exact h.popped (Tl.nilA _ _ _)
/-- while the queue is worked off: at most g numbers are to come -/
def L2 (w : World) (os : List OV) (T : Tab) (rs : List ByteArray) (B z nb tb mb n g : Nat) (wr : World) : Prop :=
  ∃ N ao cap rest, DM w wr B z nb tb mb n T N ao cap rest ∧ PI os T rs N rest none ∧ Done T N rs ∧ rest.length + N.count false ≤ g
def L3 (w : World) (os : List OV) (T : Tab) (rs : List ByteArray) (B z nb tb mb n g j i : Nat) (wr : World) : Prop :=
  ∃ N ao cap rest, DM w wr B z nb tb mb n T N ao cap rest ∧ PI os T rs N rest (some j) ∧ Done T N rs ∧ Done T N ((wantsAt os j).take i) ∧ rest.length + N.count false + 1 ≤ g
set_option maxRecDepth 100000 in
set_option maxHeartbeats 8000000 in
theorem Drop_any (A : Option Addr) (n c : Nat) (os : List OV) (Ar : Option Addr) (m cr : Nat) (rs : List ByteArray) (w : World) (hO : ObsR w A n c os) (hR : Sl 1 encS w Ar m cr rs) (hrs : ∀ r ∈ rs, r.size ≤ 140737488351232) (hm : m ≤ 40) :
    Calls Try.prog 19 #[.slice A n c, .slice Ar m cr] w (DropPost w os rs) := by
  have hl := hO.sl.len
  have HP := hide (open_any A n c os w hO)
  have HL := hide hl
  have HO := hide hO
  have HR := hide hR
  have hrl := hR.len
  have HRL := hide hrl
  have HRS := hide hrs
  obtain ⟨T, hT⟩ : ∃ T, tabF 0 0 os = T := ⟨_, rfl⟩
  have HT := hide hT
  have HRG := hide (fun nm k (h : objAt T nm = some k) => objAt_range (hT ▸ h))
  have HRG2 := hide (fun nm p q (h : lookS T nm = some (p, q)) => look_range (hT ▸ h))
  unfold DropPost
  rw [hT]
  clear hO hl hR hrl hrs
  go_enter Try.func19, Try.ntmps19
  go_wp2_with fail
  refine HP.out.mono ?_
  rintro e w1 ⟨hq1, hcase⟩
  rcases hcase with ⟨hne, rfl⟩ | ⟨h0, As, cs, mb, rfl, hown, hmp⟩
  · have dz : ((listedO os : Int) != 0) = true := by simp; omega
    have HNE := hide hne
    clear hne hT
    go_wp2_with fail
    go_ret2
    exact ⟨hq1.alloc _, .inl ⟨HNE.out, rfl⟩⟩
  · have dz : ((listedO os : Int) != 0) = false := by rw [h0]; rfl
    obtain ⟨h8, hv⟩ := listed_zero2 h0
    rw [HL.out] at h8
    rw [hT] at hmp
    have hni : (n : Int) ≤ 8 := by omega
    have hni0 : (0 : Int) ≤ (n : Int) := by omega
    have HV := hide hv
    have H0 := hide h0
    have HMP := hide hmp
    have hmb := hmp.lt
    have HQ1 := hide hq1
    clear hv h0 hmp hown hT hq1
    go_wp2_with (at_make; go_loud (refine wpList_mk rfl _ _ rfl Try.underlying88 (show (Try.prog.info? 4).map (fun i => (i.zero, i.size, i.bytes)) = some (some (.bool false), 1, 1) by kernel_rfl) rfl w.heap.size (n := n) rfl rfl rfl rfl ?_ ?_ ?_ ?_; (focus omega); (focus omega); (focus (have := HQ1.out.size; simp <;> omega)); intro w3 hown3 hq3 hlt3; have hs2 : (w1.alloc (.cells #[.slice A n c, .slice As (n + 1) cs, .map (some mb)] 77)).heap.size = w1.heap.size + 1 := (by simp); rw [hs2] at hown3 hlt3; have HDM := hide (DM.start HQ1.out HMP.out hown3 hq3 hlt3); clear hs2 hown3 hq3))
    have HD0 := hide (show L1 w os T rs w1.heap.size (w1.heap.size + 1) w3.heap.size (w3.heap.size + 1) mb n 0 ((w3.alloc (.cells #[.slice (some ⟨w1.heap.size + 1, 0, none⟩) n n] 88)).alloc (.cells #[.slice none 0 0] 25)) from ⟨_, none, 0, [], HDM.out, (by have h := PI.start os T rs; rw [HL.out] at h; exact h), fun x hx => by simp at hx, fun x hx => by simp at hx⟩)
    clear HDM
    go_loopw [33] (fun vi wr => ∃ i, i ≤ m ∧ vi = .int .i64 i ∧ L1 w os T rs w1.heap.size (w1.heap.size + 1) w3.heap.size (w3.heap.size + 1) mb n i wr) (fun vi _ => m - (intOf vi).toNat)
    case atStart => exact ⟨0, by omega, by go_num, HD0.out⟩
    case round =>
      obtain ⟨i, hi, rfl, hL⟩ := hrel
      have HLI := hide hL
      clear hL
      obtain ⟨N, ao, cap, rest, hdm, hpi, hdn, hok⟩ := HLI.out
      have hlen := hpi.len
      have hcnt := hpi.cnt
      have hoL := HL.out
      have HDM := hide hdm
      have HPI := hide hpi
      have HDN := hide hdn
      have HOK := hide hok
      clear hdn hok hpi
      by_cases hlt : i < m
      · have hd1 : decide ((i : Int) < (m : Int)) = true := by simp; omega
        have hd0 : decide (i < m) = true := by simp; omega
        have hlti : (i : Int) < (m : Int) := by omega
        obtain ⟨b1, o1, x, rfl, hb1, g1, hc1⟩ := (HR.out.up hdm.q).at_ (fun _ => rfl) (by decide) i hlt
        have x1 := hc1 0 (.string x) rfl
        rw [Nat.mul_one, Nat.add_zero] at x1
        have hxs : x.size ≤ 9223372036854775807 := by have := HRS.out x (List.mem_of_getElem? g1); omega
        have HC := hide (need_any w wr _ _ _ _ mb n T N ao cap rest x hdm (by omega) h8 (fun p q h => by have := HRG2.out x p q h; rw [hoL] at this; exact this) (by omega) hxs)
        have G1 := hide g1
        have hTk : rs.take (i + 1) = rs.take i ++ [x] := by rw [List.take_add_one, g1]; rfl
        have HTK := hide hTk
        clear hdm g1 hc1 hlen hcnt hoL hTk
        cases ho : objAt T x with
        | none =>
          have HOB := hide ho
          have HNO := hide (show ∃ r ∈ rs, objAt T r = none from ⟨x, List.mem_of_getElem? G1.out, ho⟩)
          clear ho
          go_wp2_with fail
          refine HC.out.mono ?_
          rintro e w4 ⟨rfl, ao', cap', hdm'⟩
          rw [HOB.out]
          have HQ4 := hide hdm'.q
          clear hdm'
          go_wp2_with fail
          go_ret2
          exact ⟨HQ4.out, .inr (.inl ⟨H0.out, HNO.out, rfl⟩)⟩
        | some k =>
          have HOB := hide ho
          clear ho
          go_wp2_with fail
          refine HC.out.mono ?_
          rintro e w4 ⟨rfl, ao', cap', hdm'⟩
          rw [HOB.out]
          have HDM' := hide hdm'
          clear hdm'
          go_wp2_with fail
          go_roundw
          case rel => exact ⟨i + 1, by omega, by go_num, _, ao', cap', _, HDM'.out, HPI.out.next (fun k hk => HRG.out _ k hk) (fun k hk => Reach.root (List.mem_of_getElem? G1.out) hk), by rw [HTK.out]; exact HDN.out.snoc (fun k hk => by rw [HPI.out.len]; exact HRG.out _ k hk), fun r hr => by rw [HTK.out] at hr; rcases List.mem_append.1 hr with hr | hr; exact HOK.out r hr; simp at hr; subst hr; rw [HOB.out]; simp⟩
          case measure => simp [intOf] <;> omega
      · have hd1 : decide ((i : Int) < (m : Int)) = false := by simp; omega
        have hd0 : decide (i < m) = false := by simp; omega
        obtain rfl : i = m := by omega
        have hdone : Done T N rs := by have h := HDN.out; rw [List.take_of_length_le (by rw [HRL.out]; exact Nat.le_refl _)] at h; exact h
        have HOKA := hide (show ∀ r ∈ rs, objAt T r ≠ none by have h := HOK.out; rw [List.take_of_length_le (by rw [HRL.out]; exact Nat.le_refl _)] at h; exact h)
        have HDONE := hide hdone
        clear hdm hdone hlen
        have HL2 := hide (show L2 w os T rs w1.heap.size (w1.heap.size + 1) w3.heap.size (w3.heap.size + 1) mb n n wr from ⟨N, ao, cap, rest, HDM.out, HPI.out, HDONE.out, by have := HPI.out.cnt; rw [HL.out] at this; exact this⟩)
        clear HDM HPI HDN HOK HDONE HLI hcnt hoL
        clear N ao cap rest
        go_wp2_with fail
        go_loopg [] n (fun g wr => L2 w os T rs w1.heap.size (w1.heap.size + 1) w3.heap.size (w3.heap.size + 1) mb n g wr)
        case atStart => exact HL2.out
        case round =>
          clear HL2
          obtain ⟨N, ao, cap, rest, hdm, hpi, hdn, hcnt⟩ := hrel
          have HDM := hide hdm
          have HPI := hide hpi
          have HDN := hide hdn
          have ktb := cell_blk hdm.td 0
          simp only [List.getElem?_toArray, List.getElem?_cons_zero] at ktb
          have ftb := free_blk hdm.td 0
          have htl := hdm.lt
          cases rest with
          | nil =>
            have knb := hdm.nd
            have hnbl : w3.heap.size < wr.heap.size := by have := hdm.lt; omega
            have HMK := hide (hpi.marks hdn)
            have HNL := hide hpi.len
            clear hdm hpi hdn
            go_wp2_with fail
            clear knb hnbl ktb ftb hcnt htl
            obtain ⟨w6, rfl⟩ : ∃ w6 : World, w6 = wr := ⟨_, rfl⟩
            go_loopw [16, 67] (fun v16 vi wx => ∃ i4, i4 ≤ n ∧ vi = .int .i64 (i4 : Nat) ∧ wx.ownsRow w6.heap.size 3 1 v16 (dropTo N i4).length ((dropTo N i4).map (Value.int .i64)) ∧ Q w6 wx) (fun _ vi _ => n - (intOf vi).toNat)
            case atStart => exact ⟨0, by omega, by go_num, World.ownsRow_nil _ _ _ _, Q.refl _⟩
            case round =>
              obtain ⟨i4, hi4, rfl, hown, hq⟩ := hrel
              have hsz := hq.size
              have hdl := dropTo_len N i4
              have hnl := HNL.out
              rw [HL.out] at hnl
              by_cases hlt : i4 < n
              · have hd1 : decide ((i4 : Int) < (n : Int)) = true := by simp; omega
                have hd0 : decide (i4 < n) = true := by simp; omega
                have hlti : (i4 : Int) < (n : Int) := by omega
                obtain ⟨_, _, e0, _, hzs, _, _, hcl, _⟩ := own_at HDM.out.nw (by omega)
                cases e0
                obtain ⟨b, hb⟩ : ∃ b, N[i4]? = some b := ⟨_, List.getElem?_eq_getElem (by omega)⟩
                have hz6 := (hq.facts.1 _ _ hzs).trans (hcl i4 (.bool b) (by rw [List.getElem?_map, hb]; rfl))
                have hsu := dropTo_succ N i4 b hb
                have HSU := hide hsu
                have HOW := hide hown
                have HQ6 := hide hq
                clear hb hcl hsu hown hq
                cases b with
                | true =>
                  go_wp2_with fail
                  go_roundw
                  case rel => exact ⟨i4 + 1, by omega, by go_num, by rw [HSU.out]; exact HOW.out, HQ6.out⟩
                  case measure => simp [intOf] <;> omega
                | false =>
                  go_wp2_with (at_builtin; go_loud (refine wpList_app1 rfl El_int _ _ rfl rfl HOW.out (by simp) rfl rfl ?_ ?_ ?_ ?_; (focus (simp [Value.oneCell'])); (focus omega); (focus omega); intro v7 w7 hown7 hb7; have HO7 := hide hown7; have HB7 := hide (show Q w6 w7 from HQ6.out.below.trans hb7); clear hown7 hb7))
                  go_roundw
                  case rel => exact ⟨i4 + 1, by omega, by go_num, by rw [HSU.out]; have h := HO7.out; simpa using h, HB7.out⟩
                  case measure => simp [intOf] <;> omega
              · have hd1 : decide ((i4 : Int) < (n : Int)) = false := by simp; omega
                have hd0 : decide (i4 < n) = false := by simp; omega
                obtain rfl : i4 = n := by omega
                have HOW := hide (show wr.ownsRow w.heap.size 3 1 u16 (dropL N).length ((dropL N).map (Value.int .i64)) by have h := own_base2 hown HDM.out.q.size; rw [← hnl] at h; exact h)
                have HQ6 := hide (HDM.out.q.trans hq)
                clear hown hq hnl hdl
                go_wp2_with fail
                go_ret2
                exact ⟨HQ6.out, .inr (.inr ⟨H0.out, HOKA.out, N, _, HMK.out, rfl, HOW.out⟩)⟩
          | cons x rest =>
            obtain ⟨bq, oq, rfl, hbq, cq, hcap1, hcap2, htl2⟩ := hdm.tl.pop
            obtain ⟨j, rfl, hj, hreach, hpi2⟩ := hpi.pop
            have hpop := hdm.popped htl2
            obtain ⟨b1, o1, ob, rfl, hbb, g1, x1, x2, x3, hob⟩ := HO.out.at_ j (by rw [← HL.out]; exact hj)
            obtain ⟨⟨A0, n0, c0, bs⟩, ⟨A1, n1, c1, ss⟩, ⟨A2, n2, c2, ws⟩⟩ := ob
            dsimp only at x1 x2 x3
            have x3 := (hdm.q.facts.1 _ _ hbb).trans x3
            have ho5 := hdm.o.2.2.2.2
            have hbne : ¬ w3.heap.size + 1 = b1 := by omega
            have hbne2 : ¬ b1 = w3.heap.size + 1 := by omega
            have HOB := hide hob
            have HG1 := hide g1
            have HPOP := hpop
            have HPOP1 := hide (fun h1 => hdm.popped1 (m1 := rest.length + 1) hcap1 h1 rfl (some ⟨bq, oq, none⟩))
            have HPI2 := hide hpi2
            have HRE := hide hreach
            have hjn : j < n := by rw [← HL.out]; exact hj
            have hjni : (j : Int) < (n : Int) := by omega
            obtain ⟨m1, hm1⟩ : ∃ m1, rest.length + 1 = m1 := ⟨_, rfl⟩
            have hm2 : rest.length = m1 - 1 := by omega
            have hlen1 : (0 : Int) < (m1 : Int) := by omega
            have hlen2 : 0 < m1 := by omega
            have hlen3 : (1 : Int) ≤ (m1 : Int) := by omega
            have hlen5 : decide ((0 : Int) < (m1 : Int)) = true := by simp; omega
            have hlen6 : decide (0 < m1) = true := by simp; omega
            have hlen7 : m1 ≤ cap := by omega
            unfold maxLen at hcap2
            have HCNT := hide (show rest.length + N.count false + 1 ≤ gk by rw [List.length_cons] at hcnt; omega)
            have hn2 : n2 ≤ 9223372036854775807 := by have h1 := HOB.out.t.cap; have h2 := HOB.out.t.most; dsimp only at h1 h2; omega
            have hn2i : (n2 : Int) ≤ 9223372036854775807 := by omega
            have HW := hide (show wantsAt os j = ws.map (·.2.2) by unfold wantsAt; rw [HG1.out])
            have HWL := hide (show ws.length = n2 from HOB.out.t.len)
            clear hcnt
            rw [List.length_cons, hm1] at ktb
            rw [hm2] at HPOP
            rw [hm1] at HPOP1
            have HPOP := hide HPOP
            have HM2 := hide hm2
            clear hm1 hm2 hcap1 hdm hpi hdn htl2 hpop hpi2 hreach hob g1 x1 x2
            go_wp2_with fail
            all_goals (
              go_loopw [56] (fun vi wx => ∃ i2, i2 ≤ n2 ∧ vi = .int .i64 (i2 : Nat) ∧ L3 w os T rs w1.heap.size (w1.heap.size + 1) w3.heap.size (w3.heap.size + 1) mb n gk j i2 wx) (fun vi _ => n2 - (intOf vi).toNat)
              case atStart => first | exact ⟨0, by omega, by go_num, N, _, _, rest, HPOP.out, HPI2.out, HDN.out, fun x hx => by simp at hx, HCNT.out⟩ | exact ⟨0, by omega, by go_num, N, _, _, rest, HPOP1.out (by assumption), HPI2.out, HDN.out, fun x hx => by simp at hx, HCNT.out⟩
              case round =>
                clear HPOP HPOP1 HPI2 HDN HCNT HDM HPI ktb ftb
                obtain ⟨i2, hi2, rfl, N2, ao2, cap2, rest2, hdm2, hpi2, hdn2, hdw2, hcn2⟩ := hrel
                have HPI2 := hide hpi2
                have HDN2 := hide hdn2
                have HDW2 := hide hdw2
                have HCN2 := hide hcn2
                have hl2 := hpi2.len
                have hc2 := hpi2.cnt
                have hoL := HL.out
                clear hpi2 hdn2 hdw2 hcn2
                by_cases hlt : i2 < n2
                · have hd1 : decide ((i2 : Int) < (n2 : Int)) = true := by simp; omega
                  have hd0 : decide (i2 < n2) = true := by simp; omega
                  have hlti : (i2 : Int) < (n2 : Int) := by omega
                  obtain ⟨b4, o4, at_, kd, nm, e4, hb4, g4, y1, y2, y3⟩ := (HOB.out.t.up hdm2.q).wnt i2 hlt
                  dsimp only at e4 g4
                  subst e4
                  have hnm : nm.size ≤ 9223372036854775807 := by have := HOB.out.tok _ (List.mem_of_getElem? g4); dsimp only at this; omega
                  have HC := hide (need_any w (wr.alloc (.cells #[.int .i64 at_, .int .i64 kd, .string nm] 74)) _ _ _ _ mb n T N2 ao2 cap2 rest2 nm (hdm2.up ((Q.refl wr).alloc _)) (by omega) h8 (fun p q h => by have := HRG2.out nm p q h; rw [hoL] at this; exact this) (by omega) hnm)
                  have HTK := hide (show (wantsAt os j).take (i2 + 1) = (wantsAt os j).take i2 ++ [nm] by rw [HW.out, List.take_add_one, List.getElem?_map, g4]; rfl)
                  have HMEM := hide (show nm ∈ wantsAt os j by rw [HW.out]; exact List.mem_map.2 ⟨_, List.mem_of_getElem? g4, rfl⟩)
                  clear hdm2 g4 hl2 hc2 hoL
                  go_wp2_with fail
                  refine HC.out.mono ?_
                  rintro e w5 ⟨rfl, ao', cap', hdm'⟩
                  have HDM' := hide hdm'
                  clear hdm'
                  go_wp2_with fail
                  go_roundw
                  case rel => exact ⟨i2 + 1, by omega, by go_num, _, ao', cap', _, HDM'.out, HPI2.out.next (fun k hk => HRG.out _ k hk) (fun k hk => Reach.want HRE.out HMEM.out hk), HDN2.out.next nm, by rw [HTK.out]; exact HDW2.out.snoc (fun k hk => by rw [HPI2.out.len]; exact HRG.out _ k hk), by rw [next_count (fun k hk => by rw [HPI2.out.len]; exact HRG.out _ k hk)]; exact HCN2.out⟩
                  case measure => simp [intOf] <;> omega
                · have hd1 : decide ((i2 : Int) < (n2 : Int)) = false := by simp; omega
                  have hd0 : decide (i2 < n2) = false := by simp; omega
                  obtain rfl : i2 = n2 := by omega
                  have HDM2 := hide hdm2
                  have HDA := hide (show Done T N2 (wantsAt os j) by have h := HDW2.out; rw [List.take_of_length_le (by rw [HW.out, List.length_map, HWL.out]; exact Nat.le_refl _)] at h; exact h)
                  clear hdm2 hl2 hc2 hoL
                  go_wp2_with fail
                  go_roundg (rest2.length + N2.count false)
                  case measure => exact HCN2.out
                  case rel => exact ⟨N2, ao2, cap2, rest2, HDM2.out, HPI2.out.close HDA.out, HDN2.out, Nat.le_refl _⟩)
end Go.Proofs.Ytjdioilkhbpmoaa
