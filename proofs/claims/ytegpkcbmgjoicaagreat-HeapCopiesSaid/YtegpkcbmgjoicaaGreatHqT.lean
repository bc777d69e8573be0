/- Resize. Conditions: the heap reads so, it is unlocked, and its numbers are within bounds. -/
import Derived.Test.YtegpkcbmgjoicaaGreatHqS
namespace Go.Proofs.YtegpkcbmgjoicaaGreat
open Go.RowKit HP
set_option linter.unusedVariables false
def isOwnI (B n : Nat) (xs : List Value) (v : Value) (W : World) : Prop := W.ownsRow B 3 1 v n xs
theorem mono_ownI (B n : Nat) (xs : List Value) : Ri.Mono (isOwnI B n xs) := fun _ _ _ h hq => own_q h hq
def isFresh (B n : Nat) (v : Value) (W : World) : Prop := ∃ g1, v = .slice (some ⟨g1, 0, none⟩) n n ∧ W.ownsRow B 3 1 (.slice (some ⟨g1, 0, none⟩) n n) n (List.replicate n (.int .i64 (-1)))
theorem mono_fresh (B n : Nat) : Ri.Mono (isFresh B n) := fun _ _ _ ⟨g1, e, h⟩ hq => ⟨g1, e, own_q h hq⟩
/-- what room hands back, and its place -/
def isRoom (ro : Option Int) (v : Value) (_ : World) : Prop := ∃ a : Int, v = .tuple #[.int .i64 a, .bool ro.isSome] ∧ ∀ x, ro = some x → a = x
def isPlace (ro : Option Int) (v : Value) (_ : World) : Prop := ∃ a : Int, v = .int .i64 a ∧ ∀ x, ro = some x → a = x
def resizeR (m : HM) (K : Nat) (x : PB) (kn : Nat) (stB : Bool) (ro : Option Int) : HM × Int × Int :=
  if stB = true then (noteM (growM m K x kn), x.1, 0)
  else match ro with
    | none => (m, 0, 3)
    | some to => (noteM (moveM m x to kn), to, 0)
theorem rd_take {W : World} {B : Nat} {A : Option Addr} {xs : List Value} (h : Rd W B A xs) (k : Nat) : Rd W B A (xs.take k) := by
  rcases h with rfl | ⟨b, o, e, hb, hc⟩
  · exact .inl (by simp)
  · refine .inr ⟨b, o, e, hb, fun j u hu => hc j u ?_⟩
    rw [List.getElem?_take] at hu
    split at hu
    · exact hu
    · cases hu
theorem kept_eq (yb : List Int) (kn mk uk : Nat) (h1 : mk = min kn yb.length) (h2 : uk = kn - yb.length) : intsV (yb.take mk) ++ List.replicate uk (.int .i64 (-1)) = intsV (keptL yb kn) := by
  unfold keptL
  rw [show intsV (yb.take kn ++ undefs (kn - yb.length)) = intsV (yb.take kn) ++ intsV (undefs (kn - yb.length)) by unfold intsV; rw [List.map_append], undefs_v, h2, h1]
  congr 2
  rcases Nat.le_total kn yb.length with h | h
  · rw [Nat.min_eq_left h]
  · rw [Nat.min_eq_right h, List.take_of_length_le (Nat.le_refl _), List.take_of_length_le h]
set_option maxHeartbeats 8000000 in
set_option maxRecDepth 100000 in
theorem resize_main (h : Hp) (at_ n : Int) (w : World) (H : HpR w h) (I : Inv h.m) (hmu : h.mu = 0) (hcl : h.calls < 1000000000) (ha0 : -9223372036854775808 ≤ at_) (ha1 : at_ ≤ 9223372036854775807) (hs : sizeB n = true) (hh : has h.m.live at_ = true) (hf : ¬ h.failIn = 1) :
    Calls Tryz.prog 18 #[h.ptr, .int .i64 at_, .int .i64 n] w (Act2 (resizeM h.m at_ n) w h) := by
  have hnc : h.calls ≤ 1000000000 := Int.le_of_lt hcl
  have c0 := H.mu0
  rw [hmu] at c0
  have f0 := H.free 0
  obtain ⟨w1, hw1⟩ : ∃ w1, w1 = w.setCell ⟨h.blk, 0, none⟩ (.int .i32 1) := ⟨_, rfl⟩
  have D1 : Did w h w1 (locked h) := by rw [hw1]; exact (Did.refl H).lock 1
  obtain ⟨r, hr⟩ : ∃ r, r = resizeM h.m at_ n := ⟨_, rfl⟩
  rw [← hr]
  unfold Hp.ptr
  obtain ⟨g, hg⟩ : ∃ g, g = h.blk := ⟨_, rfl⟩
  rw [← hg] at c0 f0 hw1 ⊢
  have KM : Hid (∀ W h3, Did w h W h3 → h3.blk = g → h3.mu = 1 → W.cell? ⟨g, 0, none⟩ = some (.int .i32 1) ∧ W.frozen? ⟨g, 0, none⟩ = false) := fun W h3 D e1 e2 => D.mine0 g e1.symm e2
  have HI := hide I
  have HW1 := hide hw1
  have HR := hide hr
  have HG := hide hg
  have HD1 := hide D1
  clear I H hw1 hr hg D1
  have HIS : Hid (∀ W, Calls Tryz.prog 41 #[.int .i64 n] W fun e w' => e = .returned (.bool (sizeB n)) ∧ W = w') := fun W => isSize_any n W
  rw [hs] at HIS
  have HFD : Hid (∀ W, Q w1 W → Calls Tryz.prog 47 #[.pointer (some ⟨g, 4, none⟩), .int .i64 at_] W (FindPost h.m.live at_ W)) := fun W hq => by
    have := find_any (locked h) at_ W (HD1.out.rep.q hq) (HI.out.near.1) HI.out.fit ha0 ha1
    unfold Hp.bptr at this
    rw [HG.out]
    exact this
  have HCN : Hid (∀ W, Q w1 W → Calls Tryz.prog 43 #[.pointer (some ⟨g, 0, none⟩)] W fun e w' => e = .returned (.bool (h.failIn == 1)) ∧ Did w h w' (countH (locked h))) := fun W hq => by
    have hr := HD1.out.q hq
    have := counted_any (locked h) W hr.rep ⟨HI.out.calls, hnc⟩ HI.out.failIn
    unfold Hp.ptr at this
    rw [show (locked h).blk = g from HG.out.symm] at this
    refine this.mono ?_
    rintro e w' ⟨he, hd⟩
    exact ⟨he, hr.trans hd⟩
  rw [show (h.failIn == 1) = false by simpa using hf] at HCN
  obtain ⟨x, hx, hxa, hat⟩ := at_eq HI.out.fit hh
  obtain ⟨K, hK⟩ : ∃ K, K = below h.m.live at_ := ⟨_, rfl⟩
  rw [← hK] at hx
  obtain ⟨y, hy, hyp⟩ : ∃ y, h.bks[K]? = some y ∧ y.pb = x := by
    have hx' : (h.bks.map (·.pb))[K]? = some x := hx
    rw [List.getElem?_map] at hx'
    cases e : h.bks[K]? with
    | none => rw [e] at hx'; cases hx'
    | some y => rw [e] at hx'; exact ⟨y, rfl, by injection hx'⟩
  obtain ⟨kn, rfl, hkn1, hkn2⟩ : ∃ kn : Nat, n = (kn : Int) ∧ 1 ≤ kn ∧ kn ≤ 4096 := by
    unfold sizeB at hs
    simp at hs
    exact ⟨n.toNat, by omega, by omega, by omega⟩
  have hxin := HI.out.fit.inn x (List.mem_of_getElem? hx)
  have hsz := HI.out.fit.sz
  have hr2 : r = resizeR (countM h.m) K x kn (staysM (countM h.m) x kn) (roomM (countM h.m) kn (alignOfM at_)) := by
    rw [HR.out]
    unfold resizeM
    rw [if_neg (by rw [hs]; simp), if_neg (by rw [hh]; simp), if_neg (show ¬ h.m.failIn = 1 from hf), hat, ← hK]
    unfold resizeR
    rw [hxa]
    rfl
  obtain ⟨h2, hh2⟩ : ∃ h2, h2 = countH (locked h) := ⟨_, rfl⟩
  rw [← hh2] at HCN
  have hm2 : h2.m = countM h.m := by rw [hh2]; rfl
  have I2 : Inv h2.m := by rw [hm2]; exact HI.out.count
  have hb2 : h2.blk = g := by rw [hh2, HG.out]; rfl
  have hmu2 : h2.mu = 1 := by rw [hh2]; rfl
  have hcl2 : h2.calls ≤ 1000000000 := by rw [hh2]; show h.calls + 1 ≤ _; omega
  have hy2 : h2.bks[K]? = some y := by rw [hh2]; exact hy
  have hx2 : h2.m.live[K]? = some x := by rw [hm2]; exact hx
  rw [← hm2] at hr2
  have O2 := I2.ok hcl2
  have hlv1 : ∃ gl c, h2.lv = .slice (some ⟨gl, 0, none⟩) h2.bks.length c := by
    obtain ⟨gl, c, e, -⟩ := HD1.out.rep.liveAt (h := locked h) hy
    exact ⟨gl, c, by rw [hh2]; exact e⟩
  obtain ⟨gl, c, hlv⟩ := hlv1
  obtain ⟨fS, rcvS, ⟨ty, u, hway, hmS, heS⟩, hSt⟩ := stays_any h2 O2
  obtain ⟨fM, rcvM, ⟨ty1, u1, hway1, hmM, heM⟩, hMk⟩ := mark_any h2 O2.kind
  obtain ⟨fR, rcvR, ⟨ty3, u3, hway3, hmR, heR⟩, hRm⟩ := room_any h2 O2
  obtain ⟨e1, e2⟩ : ty1 = ty ∧ u1 = u := by rw [hway] at hway1; injection hway1 with a b; exact ⟨a.symm, b.symm⟩
  subst e1 e2
  obtain ⟨e1, e2⟩ : ty3 = ty1 ∧ u3 = u1 := by rw [hway] at hway3; injection hway3 with a b; exact ⟨a.symm, b.symm⟩
  subst e1 e2
  clear hway1 hway3
  have LV0 : ∀ W, Did w h W h2 → W.cell? ⟨g, 5, none⟩ = some (.slice (some ⟨gl, 0, none⟩) h2.bks.length c) ∧ W.cell? ⟨g, 6, none⟩ = some (.iface ty3 u3) ∧ W.cell? ⟨gl, K * 2, none⟩ = some (.int .i64 y.pb.1) ∧ W.cell? ⟨gl, K * 2 + 1, none⟩ = some (.slice (some ⟨y.row, 0, none⟩) y.pb.2.length y.cap) ∧ W.frozen? ⟨gl, K * 2 + 1, none⟩ = false ∧ gl < W.heap.size ∧ g < W.heap.size ∧ y.row < W.heap.size ∧ Rd W W.heap.size (some ⟨y.row, 0, none⟩) (intsV y.pb.2) := fun W D => by
    obtain ⟨gl', c', e', l1, l2, l3, l4, _⟩ := D.rep.liveAt hy2
    have e2 := e'.symm.trans hlv
    injection e2 with a _ _
    injection a with a
    injection a with a _ _
    subst a
    have k5 := D.rep.k5
    rw [hb2, hlv] at k5
    have k6 := D.rep.k6
    rw [hb2, hway] at k6
    have ho := D.rep.rows _ (List.mem_of_getElem? hy2)
    exact ⟨k5, k6, l2, l3, l4, l1, by have := blk_lt D.rep.cells; rw [hb2] at this; exact this, (ho.lt _ y.own).2, own_rd ho⟩
  have hcap : y.pb.2.length ≤ y.cap := by
    obtain ⟨A', c', e', hc1, hc2, -⟩ := own_form (HD1.out.rep.rows y (List.mem_of_getElem? hy))
    unfold Bk.bv at e'
    injection e' with _ _ e3
    omega
  obtain ⟨⟨ya, yb⟩, row, cap⟩ := y
  dsimp only at hyp LV0 hcap
  subst hyp
  dsimp only at hxa hxin
  subst hxa
  unfold pend at hxin
  dsimp only at hxin
  obtain ⟨stB, hstB⟩ : ∃ stB, stB = staysM h2.m (ya, yb) kn := ⟨_, rfl⟩
  obtain ⟨mkv, hmkv⟩ : ∃ mkv, mkv = markM h2.m := ⟨_, rfl⟩
  obtain ⟨ro, hro⟩ : ∃ ro, ro = roomM h2.m (kn : Int) (alignOfM ya) := ⟨_, rfl⟩
  obtain ⟨m, hm⟩ : ∃ m, m = yb.length := ⟨_, rfl⟩
  obtain ⟨N, hN⟩ : ∃ N, N = h2.bks.length := ⟨_, rfl⟩
  obtain ⟨mk, hmk⟩ : ∃ mk, mk = min kn m := ⟨_, rfl⟩
  obtain ⟨uk, huk⟩ : ∃ uk, uk = kn - m := ⟨_, rfl⟩
  obtain ⟨en, hen⟩ : ∃ en, en = ya + (m : Int) := ⟨_, rfl⟩
  have hal := alignOfM_pos ya
  have HST : Hid (∀ W, HpR W h2 → Calls Tryz.prog fS #[rcvS, .agg #[.int .i64 ya, .slice (some ⟨row, 0, none⟩) m cap], .int .i64 (kn : Int)] W (StaysPost stB W)) := fun W hW => by
    rw [hstB, hm]
    exact hSt (ya, yb) kn (some ⟨row, 0, none⟩) cap W hW hxin.1 (by show ya ≤ 10000; omega) (by show yb.length ≤ 10000; omega) (by omega) (by omega)
  have HMK : Hid (∀ W, HpR W h2 → Calls Tryz.prog fM #[rcvM] W fun e w' => e = .returned (.int .i64 mkv) ∧ Q W w') := fun W hW => by
    rw [hmkv]
    exact hMk W hW
  have HRM : Hid (∀ W, HpR W h2 → ∀ al : Int, al = alignOfM ya → Calls Tryz.prog fR #[rcvR, .int .i64 (kn : Int), .int .i64 al] W (RoomPost ro W)) := fun W hW al hal2 => by
    rw [hro, hal2]
    exact hRm (kn : Int) _ W hW (by omega) (by omega) hal.1 hal.2
  have HEND : Hid (∀ W, Calls Tryz.prog 49 #[.agg #[.int .i64 ya, .slice (some ⟨row, 0, none⟩) m cap]] W fun e w' => e = .returned (.int .i64 en) ∧ Q W w') := fun W => by
    rw [hen]
    exact end_any ya _ m cap W hxin.1 (by omega) (by omega)
  have HAL : Hid (∀ W, Calls Tryz.prog 50 #[.int .i64 ya] W fun e w' => e = .returned (.int .i64 (alignOfM ya)) ∧ Q W w') := fun W => alignOf_any ya W hxin.1
  have hRD : Hid (∀ W, Did w h W h2 → Rd W W.heap.size (some ⟨row, 0, none⟩) (intsV (yb.take mk))) := fun W D => by
    have := rd_take (LV0 W D).2.2.2.2.2.2.2.2 mk
    rw [show (intsV yb).take mk = intsV (yb.take mk) by unfold intsV; rw [List.map_take]] at this
    exact this
  have hKE : Hid (intsV (yb.take mk) ++ List.replicate uk (.int .i64 (-1)) = intsV (keptL yb kn)) := kept_eq yb kn mk uk (by rw [hmk, hm]) (by rw [huk, hm])
  have htl : (yb.take mk).length = mk := by rw [List.length_take]; omega
  rw [← hm, ← hN] at LV0
  rw [← hm] at hcap
  have hm64 : m ≤ 4096 := by omega
  have hmkI : min (kn : Int) (m : Int) = (mk : Int) := by omega
  have hukI : max (0 : Int) ((kn : Int) - (m : Int)) = (uk : Int) := by omega
  have LV := hide LV0
  have HCL : Hid (∀ W, Did w h W h2 → Calls Tryz.prog 37 #[.slice (some ⟨row, 0, none⟩) mk cap] W fun e w' => ∃ v, e = .returned v ∧ w'.ownsRow W.heap.size 3 1 v mk (intsV (yb.take mk)) ∧ Q W w') := fun W D => cloneI_any row mk cap (yb.take mk) W htl (hRD.out W D) (by omega)
  have HFR : Hid (∀ W, Calls Tryz.prog 45 #[.int .i64 (uk : Int)] W (RepPost uk (.int .i64 (-1)) W)) := fun W => fresh_any uk W (by omega)
  have hKN : K < N := by rw [hN]; exact (List.getElem?_eq_some_iff.1 hy2).1
  have hN64 : N ≤ 64 := by rw [hN]; have := I2.len; simp only [Hp.m, List.length_map] at this; exact this
  have hKNi : (K : Int) < (N : Int) := by omega
  have hKi : (K : Int) ≤ 64 := by omega
  have hlvo : h2.lv.ownBlock = some gl := by rw [hlv]; rfl
  have hsum : mk + uk = kn := by omega
  have hmc : mk ≤ cap := by omega
  -- a row of its own, laid at the block's place
  have HSW : Hid (∀ W, Did w h W h2 → ∀ kr kc B, w.heap.size ≤ B → (∀ z ∈ h2.bks, z.row < B) → W.ownsRow B 3 1 (.slice (some ⟨kr, 0, none⟩) kn kc) kn (intsV (keptL yb kn)) → Did w h (W.setCell ⟨gl, K * 2 + 1, none⟩ (.slice (some ⟨kr, 0, none⟩) kn kc)) (swapH h2 K ⟨(ya, keptL yb kn), kr, kc⟩)) := fun W D kr kc B hB hz ho => by
    have e : (⟨(ya, keptL yb kn), kr, kc⟩ : Bk).bv = .slice (some ⟨kr, 0, none⟩) kn kc := by unfold Bk.bv; simp [keptL_len]
    have hkr := (ho.lt kr rfl).1
    have := D.swap (k := K) hy2 ⟨(ya, keptL yb kn), kr, kc⟩ rfl (by rw [e]; show W.ownsRow 0 _ 1 _ (keptL yb kn).length _; rw [keptL_len]; exact own_low ho (Nat.zero_le _)) (Nat.le_trans hB hkr) (fun z hzz => by have := hz z hzz; show z.row ≠ kr; omega) gl hlvo
    rw [e] at this
    exact this
  have HCS : Hid (∀ W, Did w h W h2 → ∀ z ∈ h2.bks, z.row < W.heap.size) := fun W D z hz => D.rep.lt z.row (.inr (.inr (.inl ⟨z, hz, rfl⟩)))
  have HRR : Hid (r = resizeR h2.m K (ya, yb) kn stB ro) := hide (by rw [hr2, hstB, hro])
  have HI2 := hide I2
  have HO2 := hide O2
  have HB2 := hide hb2
  have HMU2 := hide hmu2
  have HX2 := hide hx2
  have HY2 := hide hy2
  have HSTB := hide hstB
  have HRO := hide hro
  have HMKV := hide hmkv
  have HENV := hide hen
  have HMY := hide hm
  have HNN := hide hN
  have HAL2 := hide hal
  have HKN := hide hkn1
  have HWAY := hide hway
  have HLV := hide hlv
  have HKB := hide hK
  have hyi : 0 ≤ ya ∧ ya ≤ 4096 := ⟨hxin.1, by omega⟩
  have HNT : Hid (∀ W h3, HpR W h3 → h3.blk = g → Near h3.bks → Calls Tryz.prog 46 #[.pointer (some ⟨g, 0, none⟩)] W (NotePost W h3)) := fun W h3 hR e hn => by
    have := note_any h3 W hR hn
    unfold Hp.ptr at this
    rw [e] at this
    exact this
  clear HR hr2 hh2 hm2 I2 O2 hb2 hmu2 hcl2 hy2 hx2 hlv hway hSt hMk hRm LV0 hxin hsz hx hy hat hstB hro hmkv hm hN hen htl hal hmk huk hlvo hK
  go_enter_defers Tryz.func18, Tryz.ntmps18
  go_wp2_with (go_at_call 35; refine (Go.MuLone.lock_free muLib ⟨g, 0, none⟩ _ c0 f0).mono ?_; rintro e w' ⟨rfl, rfl⟩; rw [← HW1.out])
  refine (HIS.out _).mono ?_
  rintro e w2 ⟨rfl, rfl⟩
  go_wp2_with fail
  refine (HFD.out w1 (Q.refl _)).mono ?_
  rintro e w2 ⟨k, rfl, hk1, hk2, hq2⟩
  rw [hh]
  have hkK : k = K := (hk2 hyi.1).trans HKB.out.symm
  subst hkK
  clear hh hk1 hk2 hs
  go_wp2_with fail
  refine (HCN.out _ hq2).mono ?_
  rintro e w4 ⟨rfl, hd4⟩
  obtain ⟨k5, k6, l0, l1, lf, hgl, hgg, hrow, -⟩ := LV.out _ hd4
  have HD4 := hide hd4
  obtain ⟨w5, hw5⟩ : ∃ w5, w4.alloc (.cells #[.int .i64 ya, .slice (some ⟨row, 0, none⟩) m cap] 90) = w5 := ⟨_, rfl⟩
  have hq45 : Q w4 w5 := by rw [← hw5]; exact (Q.refl w4).alloc _
  have b5 : w5.heap[w4.heap.size]? = some (.cells #[.int .i64 ya, .slice (some ⟨row, 0, none⟩) m cap] 90 (0, 0)) := by rw [← hw5]; exact heap_alloc_new w4 _
  have HW5 := hide hw5
  have HQ45 := hide hq45
  have B5 := hide b5
  have HD5 := hide (hd4.q hq45)
  clear hw5 hq45 b5 hd4 hq2
  go_wp2_with fail
  rw [HW5.out]
  clear k5 k6 l0 l1 lf HIS HFD HCN HW5
  refine Ri.called_last 16 [] (Ri.phi [Ri.isV (.pointer (some ⟨w4.heap.size, 1, none⟩)), Ri.isV (.slice (some ⟨row, 0, none⟩) m cap), Ri.isV (.int .i64 (kn : Int)), Ri.isV (.pointer (some ⟨w4.heap.size, 1, none⟩)), Ri.isV (.slice (some ⟨row, 0, none⟩) m cap), Ri.isV (.int .i64 (m : Int)), Ri.isV (.int .i64 (mk : Int)), Ri.isV (.slice (some ⟨row, 0, none⟩) mk cap), isOwnI w5.heap.size mk (intsV (yb.take mk)), Ri.isV (.int .i64 (kn : Int)), Ri.isV (.pointer (some ⟨w4.heap.size, 1, none⟩)), Ri.isV (.slice (some ⟨row, 0, none⟩) m cap), Ri.isV (.int .i64 (m : Int)), Ri.isV (.int .i64 ((kn : Int) - (m : Int))), Ri.isV (.int .i64 (uk : Int)), isFresh w5.heap.size uk, fun _ _ => True]) (fun v W => W.ownsRow w5.heap.size 3 1 v kn (intsV (keptL yb kn)) ∧ Q w5 W) (by kernel_rfl) (by kernel_rfl) rfl (by kernel_rfl) rfl (by decide) (by kernel_rfl) (Ri.phi_mono ?_) ?_ ?_ ?_
  · exact ⟨Ri.mono_isV _, Ri.mono_isV _, Ri.mono_isV _, Ri.mono_isV _, Ri.mono_isV _, Ri.mono_isV _, Ri.mono_isV _, Ri.mono_isV _, mono_ownI _ _ _, Ri.mono_isV _, Ri.mono_isV _, Ri.mono_isV _, Ri.mono_isV _, Ri.mono_isV _, Ri.mono_isV _, mono_fresh _ _, fun _ _ _ h _ => h, trivial⟩
  · intro i v w1 w2 hk hv
    match i, hk, hv with
    | 0, hk, _ => exact absurd hk (by decide)
    | 1, hk, _ => exact absurd hk (by decide)
    | 2, hk, _ => exact absurd hk (by decide)
    | 3, hk, _ => exact absurd hk (by decide)
    | 4, hk, _ => exact absurd hk (by decide)
    | 5, hk, _ => exact absurd hk (by decide)
    | 6, hk, _ => exact absurd hk (by decide)
    | 7, hk, _ => exact absurd hk (by decide)
    | 8, hk, _ => exact absurd hk (by decide)
    | 9, hk, _ => exact absurd hk (by decide)
    | 10, hk, _ => exact absurd hk (by decide)
    | 11, hk, _ => exact absurd hk (by decide)
    | 12, hk, _ => exact absurd hk (by decide)
    | 13, hk, _ => exact absurd hk (by decide)
    | 14, hk, _ => exact absurd hk (by decide)
    | 15, hk, _ => exact absurd hk (by decide)
    | 16, hk, _ => exact absurd hk (by decide)
    | i + 17, hk, _ => exact absurd hk (by unfold Ri.kindOf; rw [if_neg (by omega), if_neg (by first | (simp; done) | (simp; omega))]; decide)
  · refine Ri.All.cons ?_ (Ri.All.cons ?_ (Ri.All.cons ?_ (Ri.All.cons ?_ (Ri.All.cons ?_ (Ri.All.cons ?_ (Ri.All.cons ?_ (Ri.All.cons ?_ (Ri.All.cons ?_ (Ri.All.cons ?_ (Ri.All.cons ?_ (Ri.All.cons ?_ (Ri.All.cons ?_ (Ri.All.cons ?_ (Ri.All.cons ?_ (Ri.All.cons ?_ (Ri.All.cons ?_ (Ri.All.nil)))))))))))))))))
    · refine Ri.StepK.g (by decide) ⟨rfl, fun f W hq hf A hA hB hO => ?_⟩
      have e1 := (hB 10 (by kernel_rfl)).trans (show _ = .pointer (some ⟨w4.heap.size, 0, none⟩) by simp [Act.eval])
      exact Ri.wp_value _ (Ri.run_fld (f := _) rfl e1 Tryz.underlying90 rfl (sz := 0) (by kernel_rfl)) rfl
    · refine Ri.StepK.g (by decide) ⟨rfl, fun f W hq hf A hA hB hO => ?_⟩
      have e1 := (hA 46 0 (by kernel_rfl) (by simp)).trans (show f 0 = _ from hf 0 (by kernel_rfl))
      exact Ri.wp_value _ (Ri.run_ld1 rfl e1 Tryz.underlying30 rfl ((show W.cell? ⟨w4.heap.size, 1, none⟩ = _ by rw [cell_of_row _ _ _ _ _ _ ((((Q.refl w5).drew.trans hq).below.block _ (blk_lt B5.out)).trans B5.out)]; rfl))) rfl
    · refine Ri.StepK.g (by decide) ⟨rfl, fun f W hq hf A hA hB hO => ?_⟩
      have e1 := (hB 2 (by kernel_rfl)).trans (show _ = .int .i64 (kn : Int) by simp [Act.eval])
      exact Ri.wp_value _ (Ri.run_mv rfl e1) rfl
    · refine Ri.StepK.g (by decide) ⟨rfl, fun f W hq hf A hA hB hO => ?_⟩
      have e1 := (hB 10 (by kernel_rfl)).trans (show _ = .pointer (some ⟨w4.heap.size, 0, none⟩) by simp [Act.eval])
      exact Ri.wp_value _ (Ri.run_fld (f := _) rfl e1 Tryz.underlying90 rfl (sz := 0) (by kernel_rfl)) rfl
    · refine Ri.StepK.g (by decide) ⟨rfl, fun f W hq hf A hA hB hO => ?_⟩
      have e1 := (hA 49 3 (by kernel_rfl) (by simp)).trans (show f 3 = _ from hf 3 (by kernel_rfl))
      exact Ri.wp_value _ (Ri.run_ld1 rfl e1 Tryz.underlying30 rfl ((show W.cell? ⟨w4.heap.size, 1, none⟩ = _ by rw [cell_of_row _ _ _ _ _ _ ((((Q.refl w5).drew.trans hq).below.block _ (blk_lt B5.out)).trans B5.out)]; rfl))) rfl
    · refine Ri.StepK.g (by decide) ⟨rfl, fun f W hq hf A hA hB hO => ?_⟩
      have e1 := (hA 50 4 (by kernel_rfl) (by simp)).trans (show f 4 = _ from hf 4 (by kernel_rfl))
      exact Ri.wp_value _ (Ri.run_len rfl e1 Tryz.underlying30) rfl
    · refine Ri.StepK.g (by decide) ⟨rfl, fun f W hq hf A hA hB hO => ?_⟩
      have e1 := (hA 48 2 (by kernel_rfl) (by simp)).trans (show f 2 = _ from hf 2 (by kernel_rfl))
      have e2 := (hA 51 5 (by kernel_rfl) (by simp)).trans (show f 5 = _ from hf 5 (by kernel_rfl))
      exact Ri.wp_value _ ((Ri.run_mini rfl e1 e2).trans (by rw [hmkI])) rfl
    · refine Ri.StepK.g (by decide) ⟨rfl, fun f W hq hf A hA hB hO => ?_⟩
      have e1 := (hA 47 1 (by kernel_rfl) (by simp)).trans (show f 1 = _ from hf 1 (by kernel_rfl))
      have e2 := (hA 52 6 (by kernel_rfl) (by simp)).trans (show f 6 = _ from hf 6 (by kernel_rfl))
      exact Ri.wp_value _ (Ri.run_cut rfl e1 e2 Tryz.underlying30 (sz := 1) (by kernel_rfl) (by omega)) rfl
    · refine Ri.StepK.g (by decide) ⟨rfl, fun f W hq hf A hA hB hO => ?_⟩
      have e1 := (hA 53 7 (by kernel_rfl) (by simp)).trans (show f 7 = _ from hf 7 (by kernel_rfl))
      refine Ri.wp_call #[.slice (some ⟨row, 0, none⟩) mk cap] rfl (by simp [e1]) Tryz.func37 (by kernel_rfl) (by kernel_rfl) ((HCL.out W (HD5.out.q ((Q.refl w5).drew.trans hq))).mono ?_)
      rintro e w3 ⟨v, rfl, ho, hq3⟩
      exact ⟨v, rfl, hq3, own_low ho (((Q.refl w5).drew.trans hq)).size⟩
    · refine Ri.StepK.g (by decide) ⟨rfl, fun f W hq hf A hA hB hO => ?_⟩
      have e1 := (hB 2 (by kernel_rfl)).trans (show _ = .int .i64 (kn : Int) by simp [Act.eval])
      exact Ri.wp_value _ (Ri.run_mv rfl e1) rfl
    · refine Ri.StepK.g (by decide) ⟨rfl, fun f W hq hf A hA hB hO => ?_⟩
      have e1 := (hB 10 (by kernel_rfl)).trans (show _ = .pointer (some ⟨w4.heap.size, 0, none⟩) by simp [Act.eval])
      exact Ri.wp_value _ (Ri.run_fld (f := _) rfl e1 Tryz.underlying90 rfl (sz := 0) (by kernel_rfl)) rfl
    · refine Ri.StepK.g (by decide) ⟨rfl, fun f W hq hf A hA hB hO => ?_⟩
      have e1 := (hA 56 10 (by kernel_rfl) (by simp)).trans (show f 10 = _ from hf 10 (by kernel_rfl))
      exact Ri.wp_value _ (Ri.run_ld1 rfl e1 Tryz.underlying30 rfl ((show W.cell? ⟨w4.heap.size, 1, none⟩ = _ by rw [cell_of_row _ _ _ _ _ _ ((((Q.refl w5).drew.trans hq).below.block _ (blk_lt B5.out)).trans B5.out)]; rfl))) rfl
    · refine Ri.StepK.g (by decide) ⟨rfl, fun f W hq hf A hA hB hO => ?_⟩
      have e1 := (hA 57 11 (by kernel_rfl) (by simp)).trans (show f 11 = _ from hf 11 (by kernel_rfl))
      exact Ri.wp_value _ (Ri.run_len rfl e1 Tryz.underlying30) rfl
    · refine Ri.StepK.g (by decide) ⟨rfl, fun f W hq hf A hA hB hO => ?_⟩
      have e1 := (hA 55 9 (by kernel_rfl) (by simp)).trans (show f 9 = _ from hf 9 (by kernel_rfl))
      have e2 := (hA 58 12 (by kernel_rfl) (by simp)).trans (show f 12 = _ from hf 12 (by kernel_rfl))
      exact Ri.wp_value _ (Ri.run_sub rfl e1 e2 Tryz.underlying3 (by omega) (by omega)) rfl
    · refine Ri.StepK.g (by decide) ⟨rfl, fun f W hq hf A hA hB hO => ?_⟩
      have e1 : A.eval (.const (.int .i64 0)) = .int .i64 0 := rfl
      have e2 := (hA 59 13 (by kernel_rfl) (by simp)).trans (show f 13 = _ from hf 13 (by kernel_rfl))
      exact Ri.wp_value _ ((Ri.run_maxi rfl e1 e2).trans (by rw [hukI])) rfl
    · refine Ri.StepK.g (by decide) ⟨rfl, fun f W hq hf A hA hB hO => ?_⟩
      have e1 := (hA 60 14 (by kernel_rfl) (by simp)).trans (show f 14 = _ from hf 14 (by kernel_rfl))
      refine Ri.wp_call #[.int .i64 (uk : Int)] rfl (by simp [e1]) Tryz.func45 (by kernel_rfl) (by kernel_rfl) ((HFR.out W).mono ?_)
      rintro e w3 ⟨g1, rfl, ho, hq3⟩
      exact ⟨_, rfl, hq3, g1, rfl, own_low ho (((Q.refl w5).drew.trans hq)).size⟩
    · refine Ri.StepK.w (by decide) ⟨rfl, fun f W hq hf A hA hB => ?_⟩
      have ho8 : W.ownsRow w5.heap.size 3 1 (f 8) mk (intsV (yb.take mk)) := hf 8 (by kernel_rfl)
      obtain ⟨g1, hv, hof⟩ : isFresh w5.heap.size uk (f 15) W := hf 15 (by kernel_rfl)
      have e1 := hA 54 8 (by kernel_rfl) (by simp)
      have e2 := (hA 61 15 (by kernel_rfl) (by simp)).trans hv
      have hqW : Q w5 W := ((Q.refl w5).drew.trans hq)
      refine Ri.wp_appW El_int _ _ rfl e1 ho8 e2 (by simp) (own_rd hof) (one_rep uk (-1)) (by omega) hqW.size (fun v2 w3 h1 h2 => ?_)
      rw [hsum, hKE.out] at h1
      exact ⟨h1, q_below hqW (below_own ho8 h2 hqW.size) (Nat.le_refl _)⟩
  · intro f W6 hP hpu A hAe hA hB
    have e1 := hA 62 16 (by kernel_rfl) (by simp)
    refine Ri.wp_lastv (Ri.run_asg rfl e1) ?_
    obtain ⟨kv, hkv⟩ : ∃ kv, kv = f 16 := ⟨_, rfl⟩
    rw [← hkv] at hP ⊢
    obtain ⟨ho6, hq6⟩ := hP
    obtain ⟨kr, kc, hkve, hkr, -⟩ := own_at ho6 (by omega)
    subst hkve
    show Exit.then _ _ _ (Act.put A (some 11) _) W6
    rw [hAe]
    simp only [Ri.acts, Act.put, List.setIfInBounds_toArray, List.set_cons_zero, List.set_cons_succ]
    have HO6 := hide ho6
    have HQ6 := hide hq6
    have HD6 := hide (HD5.out.q hq6)
    obtain ⟨k5, k6, l0, l1, lf, hgl6, hgg6, hrow6, -⟩ := LV.out _ HD6.out
    have K6 := hide k6
    have b6 := (hq6.below.block _ (blk_lt B5.out)).trans B5.out
    have B6 := hide b6
    clear hpu hA hB hAe e1 ho6 hq6 hkv k5 k6 l0 l1 lf b6 hmkI hukI HCL HFR hKE hRD
    go_wp2_with fail
    refine Ri.made_last (Ri.phi [Ri.isV (.pointer (some ⟨g, 0, none⟩)), Ri.isV (.pointer (some ⟨g, 0, none⟩)), Ri.isV (.pointer (some ⟨g, 6, none⟩)), Ri.isV (.iface ty3 u3), Ri.isV (.agg #[.int .i64 ya, .slice (some ⟨row, 0, none⟩) m cap]), Ri.isV (.int .i64 (kn : Int))]) (by kernel_rfl) (by kernel_rfl) rfl (by kernel_rfl) rfl (Ri.phi_mono ?_) ?_ ?_
    · exact ⟨Ri.mono_isV _, Ri.mono_isV _, Ri.mono_isV _, Ri.mono_isV _, Ri.mono_isV _, Ri.mono_isV _, trivial⟩
    · refine Ri.All.cons ?_ (Ri.All.cons ?_ (Ri.All.cons ?_ (Ri.All.cons ?_ (Ri.All.cons ?_ (Ri.All.cons ?_ (Ri.All.nil))))))
      · refine ⟨rfl, fun f W hq hf A hA hB hO => ?_⟩
        have e1 := (hB 0 (by kernel_rfl)).trans (show _ = .pointer (some ⟨g, 0, none⟩) by simp [Act.eval])
        exact Ri.wp_value _ (Ri.run_mv rfl e1) rfl
      · refine ⟨rfl, fun f W hq hf A hA hB hO => ?_⟩
        have e1 := (hA 63 0 (by kernel_rfl) (by simp)).trans (show f 0 = _ from hf 0 (by kernel_rfl))
        exact Ri.wp_value _ (Ri.run_nil rfl e1) rfl
      · refine ⟨rfl, fun f W hq hf A hA hB hO => ?_⟩
        have e1 := (hA 64 1 (by kernel_rfl) (by simp)).trans (show f 1 = _ from hf 1 (by kernel_rfl))
        exact Ri.wp_value _ (Ri.run_fld (f := _) rfl e1 Tryz.underlying62 rfl (sz := 0) (by kernel_rfl)) rfl
      · refine ⟨rfl, fun f W hq hf A hA hB hO => ?_⟩
        have e1 := (hA 65 2 (by kernel_rfl) (by simp)).trans (show f 2 = _ from hf 2 (by kernel_rfl))
        exact Ri.wp_value _ (Ri.run_ld1 rfl e1 Tryz.underlying60 rfl ((((Q.refl W6).drew.trans hq).facts.1 g 6 hgg6).trans K6.out)) rfl
      · refine ⟨rfl, fun f W hq hf A hA hB hO => ?_⟩
        have e1 := (hB 10 (by kernel_rfl)).trans (show _ = .pointer (some ⟨w4.heap.size, 0, none⟩) by simp [Act.eval])
        exact Ri.wp_value _ (Ri.run_ldrow rfl e1 ((((Q.refl W6).drew.trans hq).below.block _ (blk_lt B6.out)).trans B6.out) Tryz.underlying90 rfl (by kernel_rfl)) rfl
      · refine ⟨rfl, fun f W hq hf A hA hB hO => ?_⟩
        have e1 := (hB 2 (by kernel_rfl)).trans (show _ = .int .i64 (kn : Int) by simp [Act.eval])
        exact Ri.wp_value _ (Ri.run_mv rfl e1) rfl
    · intro f W hq hf A hAe hA hB
      have hqw : Q W6 W := hq
      have e1 := (hA 66 3 (by kernel_rfl) (by simp)).trans (show f 3 = _ from hf 3 (by simp))
      have e2 := (hA 67 4 (by kernel_rfl) (by simp)).trans (show f 4 = _ from hf 4 (by simp))
      have e3 := (hA 68 5 (by kernel_rfl) (by simp)).trans (show f 5 = _ from hf 5 (by simp))
      refine Ri.wp_invoke rfl e1 (by kernel_rfl) hmS heS #[.agg #[.int .i64 ya, .slice (some ⟨row, 0, none⟩) m cap], .int .i64 (kn : Int)] (by simp [e2, e3]) ((HST.out W (HD6.out.q hqw).rep).mono ?_)
      rintro e W7 ⟨rfl, hq7⟩
      refine ⟨_, rfl, ?_⟩
      show Exit.then _ _ _ (Act.put A (some 69) _) W7
      rw [hAe]
      simp only [Ri.acts, Act.put, List.setIfInBounds_toArray, List.set_cons_zero, List.set_cons_succ]
      have hq67 := hqw.trans hq7
      have HD7 := hide (HD6.out.q hq67)
      have HQ67 := hide hq67
      obtain ⟨k5, k6, l0, l1, lf, hgl7, hgg7, hrow7, -⟩ := LV.out _ HD7.out
      have K67 := hide k6
      have b7 := (hq67.below.block _ (blk_lt B6.out)).trans B6.out
      have B7 := hide b7
      have hsz67 := hq67.size
      clear hf hA hB hAe e1 e2 e3 hq hqw hq7 hq67 k5 k6 l0 l1 lf b7 K6 B6 HST
      have HRR2 := hide HRR.out
      clear HRR
      obtain ⟨sb, hsb⟩ : ∃ sb, sb = stB := ⟨_, rfl⟩
      rw [← hsb] at HRR2 HSTB ⊢
      clear hsb
      cases sb
      rotate_left
      · go_wp2_with fail
        refine Ri.made_last (Ri.phi [Ri.isV (.agg #[.int .i64 ya, .slice (some ⟨row, 0, none⟩) m cap]), Ri.isV (.int .i64 en), Ri.isV (.pointer (some ⟨g, 0, none⟩)), Ri.isV (.pointer (some ⟨g, 0, none⟩)), Ri.isV (.pointer (some ⟨g, 6, none⟩)), Ri.isV (.iface ty3 u3), Ri.isV (.int .i64 mkv), Ri.isV (.bool (en == mkv))]) (by kernel_rfl) (by kernel_rfl) rfl (by kernel_rfl) rfl (Ri.phi_mono ?_) ?_ ?_
        · exact ⟨Ri.mono_isV _, Ri.mono_isV _, Ri.mono_isV _, Ri.mono_isV _, Ri.mono_isV _, Ri.mono_isV _, Ri.mono_isV _, Ri.mono_isV _, trivial⟩
        · refine Ri.All.cons ?_ (Ri.All.cons ?_ (Ri.All.cons ?_ (Ri.All.cons ?_ (Ri.All.cons ?_ (Ri.All.cons ?_ (Ri.All.cons ?_ (Ri.All.cons ?_ (Ri.All.nil))))))))
          · refine ⟨rfl, fun f W hq hf A hA hB hO => ?_⟩
            have e1 := (hB 10 (by kernel_rfl)).trans (show _ = .pointer (some ⟨w4.heap.size, 0, none⟩) by simp [Act.eval])
            exact Ri.wp_value _ (Ri.run_ldrow rfl e1 ((((Q.refl W7).drew.trans hq).below.block _ (blk_lt B7.out)).trans B7.out) Tryz.underlying90 rfl (by kernel_rfl)) rfl
          · refine ⟨rfl, fun f W hq hf A hA hB hO => ?_⟩
            have e1 := (hA 70 0 (by kernel_rfl) (by simp)).trans (show f 0 = _ from hf 0 (by kernel_rfl))
            refine Ri.wp_call #[.agg #[.int .i64 ya, .slice (some ⟨row, 0, none⟩) m cap]] rfl (by simp [e1]) Tryz.func49 (by kernel_rfl) (by kernel_rfl) ((HEND.out W).mono ?_)
            rintro e w3 ⟨rfl, hq3⟩
            exact ⟨_, rfl, hq3, rfl⟩
          · refine ⟨rfl, fun f W hq hf A hA hB hO => ?_⟩
            have e1 := (hB 0 (by kernel_rfl)).trans (show _ = .pointer (some ⟨g, 0, none⟩) by simp [Act.eval])
            exact Ri.wp_value _ (Ri.run_mv rfl e1) rfl
          · refine ⟨rfl, fun f W hq hf A hA hB hO => ?_⟩
            have e1 := (hA 72 2 (by kernel_rfl) (by simp)).trans (show f 2 = _ from hf 2 (by kernel_rfl))
            exact Ri.wp_value _ (Ri.run_nil rfl e1) rfl
          · refine ⟨rfl, fun f W hq hf A hA hB hO => ?_⟩
            have e1 := (hA 73 3 (by kernel_rfl) (by simp)).trans (show f 3 = _ from hf 3 (by kernel_rfl))
            exact Ri.wp_value _ (Ri.run_fld (f := _) rfl e1 Tryz.underlying62 rfl (sz := 0) (by kernel_rfl)) rfl
          · refine ⟨rfl, fun f W hq hf A hA hB hO => ?_⟩
            have e1 := (hA 74 4 (by kernel_rfl) (by simp)).trans (show f 4 = _ from hf 4 (by kernel_rfl))
            exact Ri.wp_value _ (Ri.run_ld1 rfl e1 Tryz.underlying60 rfl ((((Q.refl W7).drew.trans hq).facts.1 g 6 hgg7).trans K67.out)) rfl
          · refine ⟨rfl, fun f W hq hf A hA hB hO => ?_⟩
            have e1 := (hA 75 5 (by kernel_rfl) (by simp)).trans (show f 5 = _ from hf 5 (by kernel_rfl))
            refine Ri.wp_invokeW (args := #[]) rfl e1 (by kernel_rfl) hmM heM #[] (by simp) ((HMK.out W (HD7.out.q ((Q.refl W7).drew.trans hq)).rep).mono ?_)
            rintro e w3 ⟨rfl, hq3⟩
            exact ⟨_, rfl, hq3, rfl⟩
          · refine ⟨rfl, fun f W hq hf A hA hB hO => ?_⟩
            have e1 := (hA 71 1 (by kernel_rfl) (by simp)).trans (show f 1 = _ from hf 1 (by kernel_rfl))
            have e2 := (hA 76 6 (by kernel_rfl) (by simp)).trans (show f 6 = _ from hf 6 (by kernel_rfl))
            exact Ri.wp_value _ (Ri.run_eql rfl e1 e2 Tryz.underlying3) rfl
        · intro f W8 hq hf A hAe hA hB
          have hqw : Q W7 W8 := hq
          have e1 := (hA 77 7 (by kernel_rfl) (by simp)).trans (show f 7 = _ from hf 7 (by simp))
          refine Ri.wp_lastv (Ri.run_asg rfl e1) ?_
          show Exit.then _ _ _ (Act.put A (some 12) _) W8
          rw [hAe]
          simp only [Ri.acts, Act.put, List.setIfInBounds_toArray, List.set_cons_zero, List.set_cons_succ]
          have HD8 := hide (HD7.out.q hqw)
          have ho8 : Hid (W8.ownsRow w5.heap.size 3 1 (.slice (some ⟨kr, 0, none⟩) kn kc) kn (intsV (keptL yb kn))) := own_q (own_q HO6.out HQ67.out) hqw
          obtain ⟨k5, k6, l0, l1, lf, hgl8, hgg8, hrow8, -⟩ := LV.out _ HD8.out
          have hwsz : w.heap.size ≤ w5.heap.size := HD5.out.turn.size
          have hD9 := HSW.out W8 HD8.out kr kc w5.heap.size hwsz (fun z hz => HCS.out _ HD5.out z hz) ho8.out
          obtain ⟨w9, hw9⟩ : ∃ w9, w9 = W8.setCell ⟨gl, k * 2 + 1, none⟩ (.slice (some ⟨kr, 0, none⟩) kn kc) := ⟨_, rfl⟩
          rw [← hw9] at hD9
          have HD9 := hide hD9
          have HW9 := hide hw9
          have hst : staysM h2.m (ya, yb) kn = true := HSTB.out.symm
          have hgrow := HI2.out.grow HX2.out HKN.out hkn2 hst
          have HGROW := hide hgrow
          have HR9 : Hid (r = (noteM (growM h2.m k (ya, yb) kn), ya, 0)) := HRR2.out
          obtain ⟨lst, hlst⟩ : ∃ lst, lst = (en == mkv) := ⟨_, rfl⟩
          rw [← hlst]
          have HLST : Hid (lst = decide (pend (ya, yb) = markM h2.m)) := by
            rw [hlst, HENV.out, HMKV.out, HMY.out]
            rfl
          clear hf hA hB hAe e1 hq hqw ho8 hD9 hw9 hst hgrow hlst HRR2 HSTB HO6 HMK HRM HAL
          -- what is noted, and the lock's release
          have HFIN : Hid (∀ W h3, Did w h W h3 → h3.blk = g → h3.mu = 1 → ∀ mm, h3.m = mm → noteM mm = noteM (growM h2.m k (ya, yb) kn) → ∀ W', Did W h3 W' { h3 with peak := max h3.peak (used (h3.bks.map (·.pb))) } → Act2 r w h (.returned (.tuple #[.int .i64 ya, .int .i64 0])) (W'.setCell ⟨g, 0, none⟩ (.int .i32 0)) ∧ W'.cell? ⟨g, 0, none⟩ = some (.int .i32 1) ∧ W'.frozen? ⟨g, 0, none⟩ = false) := fun W h3 D e1 e2 mm e3 e4 W' D2 => by
            have D3 := D.trans D2
            refine ⟨?_, KM.out _ _ D3 e1 e2⟩
            rw [HR9.out]
            refine D3.out2 (r := (noteM (growM h2.m k (ya, yb) kn), ya, 0)) g e1.symm ?_
            rw [m_note, e3, e4]
          have hswm : (swapH h2 k ⟨(ya, keptL yb kn), kr, kc⟩).m = { h2.m with live := h2.m.live.set k (ya, keptL yb kn) } := m_swap _ _ _
          have HSWM := hide hswm
          have hnear : Near (swapH h2 k ⟨(ya, keptL yb kn), kr, kc⟩).bks := by
            have := Inv.near (h := { swapH h2 k ⟨(ya, keptL yb kn), kr, kc⟩ with peak := 1000000, top := (growM h2.m k (ya, yb) kn).top }) (by
              have e : ({ swapH h2 k ⟨(ya, keptL yb kn), kr, kc⟩ with peak := 1000000, top := (growM h2.m k (ya, yb) kn).top } : Hp).m = { growM h2.m k (ya, yb) kn with peak := 1000000 } := by
                unfold growM
                show (⟨_, _, _, _, _, _, _, _⟩ : HM) = _
                have := congrArg HM.live hswm
                rw [show List.map (fun x => x.pb) (swapH h2 k ⟨(ya, keptL yb kn), kr, kc⟩).bks = _ from this]
                rfl
              rw [e]
              exact HGROW.out)
            exact this
          have HNEAR := hide hnear
          clear hswm hnear
          cases lst
          · have hne : ¬ pend (ya, yb) = markM h2.m := of_decide_eq_false HLST.out.symm
            have HMM : Hid (noteM { h2.m with live := h2.m.live.set k (ya, keptL yb kn) } = noteM (growM h2.m k (ya, yb) kn)) := by
              refine hide ?_
              unfold growM
              rw [if_neg hne]
            clear hne
            go_wp2_with fail
            rw [← HW9.out]
            refine (HNT.out w9 _ HD9.out.rep HB2.out HNEAR.out).mono ?_
            rintro e w10 ⟨rfl, hd10⟩
            obtain ⟨q1, q2, q3⟩ := HFIN.out _ _ HD9.out HB2.out HMU2.out _ HSWM.out HMM.out _ hd10
            have FIN := hide q1
            have KMU := hide q2
            have KFR := hide q3
            clear hd10 q1 q2 q3
            go_wp2_with fail
            refine leaves_cons (f := 36) (args := #[.pointer (some ⟨g, 0, none⟩)]) (by simp) (by simp [go_sem]) ?_
            refine (Go.MuLone.unlock_deferred muLib ⟨g, 0, none⟩ .returning _ KMU.out KFR.out).mono ?_
            rintro e u' w9 ⟨rfl, rfl, rfl⟩
            refine ⟨_, results_tmp2 rfl _ _ _, ?_⟩
            exact FIN.out
          · have heq : pend (ya, yb) = markM h2.m := of_decide_eq_true HLST.out.symm
            have HMM : Hid (noteM { h2.m with live := h2.m.live.set k (ya, keptL yb kn), top := takenM h2.m (ya, keptL yb kn) } = noteM (growM h2.m k (ya, yb) kn)) := by
              refine hide ?_
              unfold growM
              rw [if_pos heq]
            have hy9 : (swapH h2 k ⟨(ya, keptL yb kn), kr, kc⟩).bks[k]? = some ⟨(ya, keptL yb kn), kr, kc⟩ := List.getElem?_set_self (by rw [← HNN.out]; exact hKN)
            have hf9 : w9.cell? ⟨g, 5, none⟩ = some (.slice (some ⟨gl, 0, none⟩) N c) ∧ w9.cell? ⟨g, 6, none⟩ = some (.iface ty3 u3) ∧ w9.cell? ⟨gl, k * 2, none⟩ = some (.int .i64 ya) ∧ w9.cell? ⟨gl, k * 2 + 1, none⟩ = some (.slice (some ⟨kr, 0, none⟩) kn kc) ∧ gl < w9.heap.size ∧ g < w9.heap.size := by
              obtain ⟨gl', c', e', z1, z2, z3, -, -⟩ := HD9.out.rep.liveAt hy9
              have e2 := e'.symm.trans (show (swapH h2 k ⟨(ya, keptL yb kn), kr, kc⟩).lv = _ from HLV.out)
              injection e2 with a _ _
              injection a with a
              injection a with a _ _
              subst a
              have k5 := HD9.out.rep.cellAt g HB2.out 5
              have k6 := HD9.out.rep.cellAt g HB2.out 6
              rw [show (swapH h2 k ⟨(ya, keptL yb kn), kr, kc⟩).cells[5]? = some h2.lv from rfl, HLV.out, ← HNN.out] at k5
              rw [show (swapH h2 k ⟨(ya, keptL yb kn), kr, kc⟩).cells[6]? = some h2.way from rfl, HWAY.out] at k6
              have hbv : (⟨(ya, keptL yb kn), kr, kc⟩ : Bk).bv = .slice (some ⟨kr, 0, none⟩) kn kc := by unfold Bk.bv; simp [keptL_len]
              rw [hbv] at z3
              have hb := blk_lt HD9.out.rep.cells
              rw [show (swapH h2 k ⟨(ya, keptL yb kn), kr, kc⟩).blk = g from HB2.out] at hb
              exact ⟨k5, k6, z2, z3, z1, hb⟩
            obtain ⟨n5, n6, n0, n1, ngl, ngg⟩ := hf9
            obtain ⟨fT, rcvT, ⟨ty4, u4, hway4, hmT, heT⟩, hT⟩ := taken_any (swapH h2 k ⟨(ya, keptL yb kn), kr, kc⟩) HO2.out.kind
            obtain ⟨e1, e2⟩ : ty4 = ty3 ∧ u4 = u3 := by
              have e0 := hway4
              rw [show (swapH h2 k ⟨(ya, keptL yb kn), kr, kc⟩).way = h2.way from rfl, HWAY.out] at e0
              injection e0 with a b
              exact ⟨a.symm, b.symm⟩
            subst e1 e2
            have HTK : Hid (∀ W, HpR W (swapH h2 k ⟨(ya, keptL yb kn), kr, kc⟩) → Calls Tryz.prog fT #[rcvT, .agg #[.int .i64 ya, .slice (some ⟨kr, 0, none⟩) kn kc]] W (TopPost (takenTop (swapH h2 k ⟨(ya, keptL yb kn), kr, kc⟩) (ya, keptL yb kn)) W (swapH h2 k ⟨(ya, keptL yb kn), kr, kc⟩))) := fun W hW => by
              have := hT (ya, keptL yb kn) (some ⟨kr, 0, none⟩) kc W hW hyi.1 (by show ya ≤ 10000; omega) (by show (keptL yb kn).length ≤ 10000; rw [keptL_len]; omega)
              dsimp only at this
              rw [keptL_len] at this
              exact this
            have N5 := hide n5
            have N6 := hide n6
            have N0 := hide n0
            have N1 := hide n1
            clear heq hway4 hT hy9 n5 n6 n0 n1
            go_wp2_with fail
            rw [← HW9.out]
            refine Ri.made_last (Ri.phi [Ri.isV (.pointer (some ⟨g, 0, none⟩)), Ri.isV (.pointer (some ⟨g, 0, none⟩)), Ri.isV (.pointer (some ⟨g, 6, none⟩)), Ri.isV (.iface ty4 u4), Ri.isV (.pointer (some ⟨g, 0, none⟩)), Ri.isV (.pointer (some ⟨g, 0, none⟩)), Ri.isV (.pointer (some ⟨g, 4, none⟩)), Ri.isV (.pointer (some ⟨g, 5, none⟩)), Ri.isV (.slice (some ⟨gl, 0, none⟩) N c), Ri.isV (.int .i64 (k : Int)), Ri.isV (.pointer (some ⟨gl, 0 + k * 2, none⟩)), Ri.isV (.agg #[.int .i64 ya, .slice (some ⟨kr, 0, none⟩) kn kc]), Ri.isV (.iface ty4 u4), Ri.isV (.iface ty4 u4)]) (by kernel_rfl) (by kernel_rfl) rfl (by kernel_rfl) rfl (Ri.phi_mono ?_) ?_ ?_
            · exact ⟨Ri.mono_isV _, Ri.mono_isV _, Ri.mono_isV _, Ri.mono_isV _, Ri.mono_isV _, Ri.mono_isV _, Ri.mono_isV _, Ri.mono_isV _, Ri.mono_isV _, Ri.mono_isV _, Ri.mono_isV _, Ri.mono_isV _, Ri.mono_isV _, Ri.mono_isV _, trivial⟩
            · refine Ri.All.cons ?_ (Ri.All.cons ?_ (Ri.All.cons ?_ (Ri.All.cons ?_ (Ri.All.cons ?_ (Ri.All.cons ?_ (Ri.All.cons ?_ (Ri.All.cons ?_ (Ri.All.cons ?_ (Ri.All.cons ?_ (Ri.All.cons ?_ (Ri.All.cons ?_ (Ri.All.cons ?_ (Ri.All.cons ?_ (Ri.All.nil))))))))))))))
              · refine ⟨rfl, fun f W hq hf A hA hB hO => ?_⟩
                have e1 := (hB 0 (by kernel_rfl)).trans (show _ = .pointer (some ⟨g, 0, none⟩) by simp [Act.eval])
                exact Ri.wp_value _ (Ri.run_mv rfl e1) rfl
              · refine ⟨rfl, fun f W hq hf A hA hB hO => ?_⟩
                have e1 := (hA 88 0 (by kernel_rfl) (by simp)).trans (show f 0 = _ from hf 0 (by kernel_rfl))
                exact Ri.wp_value _ (Ri.run_nil rfl e1) rfl
              · refine ⟨rfl, fun f W hq hf A hA hB hO => ?_⟩
                have e1 := (hA 89 1 (by kernel_rfl) (by simp)).trans (show f 1 = _ from hf 1 (by kernel_rfl))
                exact Ri.wp_value _ (Ri.run_fld (f := _) rfl e1 Tryz.underlying62 rfl (sz := 0) (by kernel_rfl)) rfl
              · refine ⟨rfl, fun f W hq hf A hA hB hO => ?_⟩
                have e1 := (hA 90 2 (by kernel_rfl) (by simp)).trans (show f 2 = _ from hf 2 (by kernel_rfl))
                exact Ri.wp_value _ (Ri.run_ld1 rfl e1 Tryz.underlying60 rfl ((((Q.refl w9).drew.trans hq).facts.1 g 6 ngg).trans N6.out)) rfl
              · refine ⟨rfl, fun f W hq hf A hA hB hO => ?_⟩
                have e1 := (hB 0 (by kernel_rfl)).trans (show _ = .pointer (some ⟨g, 0, none⟩) by simp [Act.eval])
                exact Ri.wp_value _ (Ri.run_mv rfl e1) rfl
              · refine ⟨rfl, fun f W hq hf A hA hB hO => ?_⟩
                have e1 := (hA 92 4 (by kernel_rfl) (by simp)).trans (show f 4 = _ from hf 4 (by kernel_rfl))
                exact Ri.wp_value _ (Ri.run_nil rfl e1) rfl
              · refine ⟨rfl, fun f W hq hf A hA hB hO => ?_⟩
                have e1 := (hA 93 5 (by kernel_rfl) (by simp)).trans (show f 5 = _ from hf 5 (by kernel_rfl))
                exact Ri.wp_value _ (Ri.run_fld (f := _) rfl e1 Tryz.underlying62 rfl (sz := 1) (by kernel_rfl)) rfl
              · refine ⟨rfl, fun f W hq hf A hA hB hO => ?_⟩
                have e1 := (hA 94 6 (by kernel_rfl) (by simp)).trans (show f 6 = _ from hf 6 (by kernel_rfl))
                exact Ri.wp_value _ (Ri.run_fld (f := _) rfl e1 Tryz.underlying51 rfl (sz := 0) (by kernel_rfl)) rfl
              · refine ⟨rfl, fun f W hq hf A hA hB hO => ?_⟩
                have e1 := (hA 95 7 (by kernel_rfl) (by simp)).trans (show f 7 = _ from hf 7 (by kernel_rfl))
                exact Ri.wp_value _ (Ri.run_ld1 rfl e1 Tryz.underlying49 rfl ((((Q.refl w9).drew.trans hq).facts.1 g 5 ngg).trans N5.out)) rfl
              · refine ⟨rfl, fun f W hq hf A hA hB hO => ?_⟩
                have e1 := (hB 8 (by kernel_rfl)).trans (show _ = .int .i64 (k : Int) by simp [Act.eval])
                exact Ri.wp_value _ (Ri.run_mv rfl e1) rfl
              · refine ⟨rfl, fun f W hq hf A hA hB hO => ?_⟩
                have e1 := (hA 96 8 (by kernel_rfl) (by simp)).trans (show f 8 = _ from hf 8 (by kernel_rfl))
                have e2 := (hA 97 9 (by kernel_rfl) (by simp)).trans (show f 9 = _ from hf 9 (by kernel_rfl))
                exact Ri.wp_value _ (Ri.run_idx rfl e1 e2 Tryz.underlying49 (sz := 2) (by kernel_rfl) hKN) rfl
              · refine ⟨rfl, fun f W hq hf A hA hB hO => ?_⟩
                have e1 := (hA 98 10 (by kernel_rfl) (by simp)).trans (show f 10 = _ from hf 10 (by kernel_rfl))
                refine Ri.wp_value _ (Ri.run_ldagg (cs := [.int .i64 ya, .slice (some ⟨kr, 0, none⟩) kn kc]) rfl e1 (fun j v hj => ?_) Tryz.underlying90 rfl (by kernel_rfl)) rfl
                match j, hj with
                | 0, hj => cases hj; rw [show 0 + k * 2 + 0 = k * 2 by omega]; exact (((Q.refl w9).drew.trans hq).facts.1 gl _ ngl).trans N0.out
                | 1, hj => cases hj; rw [show 0 + k * 2 + 1 = k * 2 + 1 by omega]; exact (((Q.refl w9).drew.trans hq).facts.1 gl _ ngl).trans N1.out
                | j + 2, hj => simp at hj
              · refine ⟨rfl, fun f W hq hf A hA hB hO => ?_⟩
                have e1 := (hA 91 3 (by kernel_rfl) (by simp)).trans (show f 3 = _ from hf 3 (by kernel_rfl))
                exact Ri.wp_value _ (Ri.run_nilI rfl e1) rfl
              · refine ⟨rfl, fun f W hq hf A hA hB hO => ?_⟩
                have e1 := (hA 91 3 (by kernel_rfl) (by simp)).trans (show f 3 = _ from hf 3 (by kernel_rfl))
                exact Ri.wp_value _ (Ri.run_mv rfl e1) rfl
            · intro f W hq hf A hAe hA hB
              have hqw : Q w9 W := hq
              have e1 := (hA 101 13 (by kernel_rfl) (by simp)).trans (show f 13 = _ from hf 13 (by simp))
              have e2 := (hA 99 11 (by kernel_rfl) (by simp)).trans (show f 11 = _ from hf 11 (by simp))
              refine Ri.wp_invoke rfl e1 (by kernel_rfl) hmT heT #[.agg #[.int .i64 ya, .slice (some ⟨kr, 0, none⟩) kn kc]] (by simp [e2]) ((HTK.out W (HD9.out.rep.q hqw)).mono ?_)
              rintro e w10 ⟨rfl, hd10⟩
              refine ⟨_, rfl, ?_⟩
              show Exit.then _ _ _ (Act.put A (some 102) _) w10
              rw [hAe]
              simp only [Ri.acts, Act.put, List.setIfInBounds_toArray, List.set_cons_zero, List.set_cons_succ]
              have HD10 := hide ((HD9.out.q hqw).trans hd10)
              have HM10 : Hid (({ swapH h2 k ⟨(ya, keptL yb kn), kr, kc⟩ with top := takenTop (swapH h2 k ⟨(ya, keptL yb kn), kr, kc⟩) (ya, keptL yb kn) } : Hp).m = { h2.m with live := h2.m.live.set k (ya, keptL yb kn), top := takenM h2.m (ya, keptL yb kn) }) := by
                refine hide ?_
                show (⟨_, _, _, _, _, _, _, _⟩ : HM) = _
                rw [show List.map (fun x => x.pb) (swapH h2 k ⟨(ya, keptL yb kn), kr, kc⟩).bks = _ from congrArg HM.live HSWM.out]
                rfl
              clear hf hA hB hAe e1 e2 hq hqw hd10 HTK hmT heT
              go_wp2_with fail
              refine (HNT.out w10 _ HD10.out.rep HB2.out HNEAR.out).mono ?_
              rintro e w11 ⟨rfl, hd11⟩
              obtain ⟨q1, q2, q3⟩ := HFIN.out _ _ HD10.out HB2.out HMU2.out _ HM10.out HMM.out _ hd11
              have FIN := hide q1
              have KMU := hide q2
              have KFR := hide q3
              clear hd11 q1 q2 q3
              go_wp2_with fail
              refine leaves_cons (f := 36) (args := #[.pointer (some ⟨g, 0, none⟩)]) (by simp) (by simp [go_sem]) ?_
              refine (Go.MuLone.unlock_deferred muLib ⟨g, 0, none⟩ .returning _ KMU.out KFR.out).mono ?_
              rintro e u' w9 ⟨rfl, rfl, rfl⟩
              refine ⟨_, results_tmp2 rfl _ _ _, ?_⟩
              exact FIN.out
      · go_wp2_with fail
        refine Ri.made (Ri.phi [Ri.isV (.pointer (some ⟨g, 0, none⟩)), Ri.isV (.pointer (some ⟨g, 0, none⟩)), Ri.isV (.pointer (some ⟨g, 6, none⟩)), Ri.isV (.iface ty3 u3), Ri.isV (.int .i64 (kn : Int)), Ri.isV (.int .i64 ya), Ri.isV (.int .i64 (alignOfM ya)), Ri.isV (.iface ty3 u3), Ri.isV (.iface ty3 u3), isRoom ro, isRoom ro, isPlace ro, Ri.isV (.bool ro.isSome), isPlace ro, Ri.isV (.bool ro.isSome)]) (by kernel_rfl) (by kernel_rfl) (Ri.phi_mono ?_) ?_ ?_
        · exact ⟨Ri.mono_isV _, Ri.mono_isV _, Ri.mono_isV _, Ri.mono_isV _, Ri.mono_isV _, Ri.mono_isV _, Ri.mono_isV _, Ri.mono_isV _, Ri.mono_isV _, fun _ _ _ h _ => h, fun _ _ _ h _ => h, fun _ _ _ h _ => h, Ri.mono_isV _, fun _ _ _ h _ => h, Ri.mono_isV _, trivial⟩
        · refine Ri.All.cons ?_ (Ri.All.cons ?_ (Ri.All.cons ?_ (Ri.All.cons ?_ (Ri.All.cons ?_ (Ri.All.cons ?_ (Ri.All.cons ?_ (Ri.All.cons ?_ (Ri.All.cons ?_ (Ri.All.cons ?_ (Ri.All.cons ?_ (Ri.All.cons ?_ (Ri.All.cons ?_ (Ri.All.cons ?_ (Ri.All.cons ?_ (Ri.All.nil)))))))))))))))
          · refine ⟨rfl, fun f W hq hf A hA hB hO => ?_⟩
            have e1 := (hB 0 (by kernel_rfl)).trans (show _ = .pointer (some ⟨g, 0, none⟩) by simp [Act.eval])
            exact Ri.wp_value _ (Ri.run_mv rfl e1) rfl
          · refine ⟨rfl, fun f W hq hf A hA hB hO => ?_⟩
            have e1 := (hA 107 0 (by kernel_rfl) (by simp)).trans (show f 0 = _ from hf 0 (by kernel_rfl))
            exact Ri.wp_value _ (Ri.run_nil rfl e1) rfl
          · refine ⟨rfl, fun f W hq hf A hA hB hO => ?_⟩
            have e1 := (hA 108 1 (by kernel_rfl) (by simp)).trans (show f 1 = _ from hf 1 (by kernel_rfl))
            exact Ri.wp_value _ (Ri.run_fld (f := _) rfl e1 Tryz.underlying62 rfl (sz := 0) (by kernel_rfl)) rfl
          · refine ⟨rfl, fun f W hq hf A hA hB hO => ?_⟩
            have e1 := (hA 109 2 (by kernel_rfl) (by simp)).trans (show f 2 = _ from hf 2 (by kernel_rfl))
            exact Ri.wp_value _ (Ri.run_ld1 rfl e1 Tryz.underlying60 rfl ((((Q.refl W7).drew.trans hq).facts.1 g 6 hgg7).trans K67.out)) rfl
          · refine ⟨rfl, fun f W hq hf A hA hB hO => ?_⟩
            have e1 := (hB 2 (by kernel_rfl)).trans (show _ = .int .i64 (kn : Int) by simp [Act.eval])
            exact Ri.wp_value _ (Ri.run_mv rfl e1) rfl
          · refine ⟨rfl, fun f W hq hf A hA hB hO => ?_⟩
            have e1 := (hB 1 (by kernel_rfl)).trans (show _ = .int .i64 ya by simp [Act.eval])
            exact Ri.wp_value _ (Ri.run_mv rfl e1) rfl
          · refine ⟨rfl, fun f W hq hf A hA hB hO => ?_⟩
            have e1 := (hA 112 5 (by kernel_rfl) (by simp)).trans (show f 5 = _ from hf 5 (by kernel_rfl))
            refine Ri.wp_call #[.int .i64 ya] rfl (by simp [e1]) Tryz.func50 (by kernel_rfl) (by kernel_rfl) ((HAL.out W).mono ?_)
            rintro e w3 ⟨rfl, hq3⟩
            exact ⟨_, rfl, hq3, rfl⟩
          · refine ⟨rfl, fun f W hq hf A hA hB hO => ?_⟩
            have e1 := (hA 110 3 (by kernel_rfl) (by simp)).trans (show f 3 = _ from hf 3 (by kernel_rfl))
            exact Ri.wp_value _ (Ri.run_nilI rfl e1) rfl
          · refine ⟨rfl, fun f W hq hf A hA hB hO => ?_⟩
            have e1 := (hA 110 3 (by kernel_rfl) (by simp)).trans (show f 3 = _ from hf 3 (by kernel_rfl))
            exact Ri.wp_value _ (Ri.run_mv rfl e1) rfl
          · refine ⟨rfl, fun f W hq hf A hA hB hO => ?_⟩
            have e1 := (hA 115 8 (by kernel_rfl) (by simp)).trans (show f 8 = _ from hf 8 (by kernel_rfl))
            have e2 := (hA 111 4 (by kernel_rfl) (by simp)).trans (show f 4 = _ from hf 4 (by kernel_rfl))
            have e3 := (hA 113 6 (by kernel_rfl) (by simp)).trans (show f 6 = _ from hf 6 (by kernel_rfl))
            refine Ri.wp_invokeW rfl e1 (by kernel_rfl) hmR heR #[.int .i64 (kn : Int), .int .i64 (alignOfM ya)] (by simp [e2, e3]) ((HRM.out W (HD7.out.q ((Q.refl W7).drew.trans hq)).rep _ rfl).mono ?_)
            rintro e w3 ⟨a, ok, rfl, rfl, ha, hq3⟩
            exact ⟨_, rfl, hq3, a, rfl, ha⟩
          · refine ⟨rfl, fun f W hq hf A hA hB hO => ?_⟩
            obtain ⟨a, hv, ha⟩ : isRoom ro (f 9) W := hf 9 (by kernel_rfl)
            exact Ri.wp_value _ (Ri.run_mv rfl ((hA 116 9 (by kernel_rfl) (by simp)).trans hv)) ⟨a, rfl, ha⟩
          · refine ⟨rfl, fun f W hq hf A hA hB hO => ?_⟩
            obtain ⟨a, hv, ha⟩ : isRoom ro (f 10) W := hf 10 (by kernel_rfl)
            exact Ri.wp_value _ (Ri.run_ext rfl ((hA 106 10 (by kernel_rfl) (by simp)).trans hv) rfl) ⟨a, rfl, ha⟩
          · refine ⟨rfl, fun f W hq hf A hA hB hO => ?_⟩
            obtain ⟨a, hv, ha⟩ : isRoom ro (f 10) W := hf 10 (by kernel_rfl)
            exact Ri.wp_value _ (Ri.run_ext rfl ((hA 106 10 (by kernel_rfl) (by simp)).trans hv) rfl) rfl
          · refine ⟨rfl, fun f W hq hf A hA hB hO => ?_⟩
            obtain ⟨a, hv, ha⟩ : isPlace ro (f 11) W := hf 11 (by kernel_rfl)
            exact Ri.wp_value _ (Ri.run_asg rfl ((hA 117 11 (by kernel_rfl) (by simp)).trans hv)) ⟨a, rfl, ha⟩
          · refine ⟨rfl, fun f W hq hf A hA hB hO => ?_⟩
            have e1 := (hA 118 12 (by kernel_rfl) (by simp)).trans (show f 12 = _ from hf 12 (by kernel_rfl))
            exact Ri.wp_value _ (Ri.run_asg rfl e1) rfl
        · intro f W8 hq hf
          have hqw : Q W7 W8 := hq
          have e1 : f 14 = .bool ro.isSome := hf 14 (by simp)
          obtain ⟨a, hv, ha⟩ : isPlace ro (f 13) W8 := hf 13 (by simp)
          simp only [Ri.acts, Act.put, List.setIfInBounds_toArray, List.set_cons_zero, List.set_cons_succ, Nat.zero_add, Nat.reduceAdd]
          rw [hv, e1]
          have HD8 := hide (HD7.out.q hqw)
          have ho8 : Hid (W8.ownsRow w5.heap.size 3 1 (.slice (some ⟨kr, 0, none⟩) kn kc) kn (intsV (keptL yb kn))) := own_q (own_q HO6.out HQ67.out) hqw
          have hwsz : w.heap.size ≤ w5.heap.size := HD5.out.turn.size
          have HRO2 := hide HRO.out
          clear hf e1 hq hqw hv HSTB HO6 HMK HRM HAL HRO HSW HEND
          obtain ⟨rr, hrr⟩ : ∃ rr, rr = ro := ⟨_, rfl⟩
          rw [← hrr] at HRR2 HRO2 ha ⊢
          clear hrr
          cases rr with
          | none =>
            have HR9 : Hid (r = (h2.m, 0, 3)) := HRR2.out
            have hfin : Act2 r w h (.returned (.tuple #[.int .i64 0, .int .i64 3])) (W8.setCell ⟨g, 0, none⟩ (.int .i32 0)) := by
              rw [HR9.out]
              exact HD8.out.out2 (r := (h2.m, 0, 3)) g HB2.out.symm rfl
            have FIN := hide hfin
            have KMU := hide (KM.out _ _ HD8.out HB2.out HMU2.out).1
            have KFR := hide (KM.out _ _ HD8.out HB2.out HMU2.out).2
            clear ha hfin
            go_wp2_with fail
            refine leaves_cons (f := 36) (args := #[.pointer (some ⟨g, 0, none⟩)]) (by simp) (by simp [go_sem]) ?_
            refine (Go.MuLone.unlock_deferred muLib ⟨g, 0, none⟩ .returning _ KMU.out KFR.out).mono ?_
            rintro e u' w9 ⟨rfl, rfl, rfl⟩
            refine ⟨_, results_tmp2 rfl _ _ _, ?_⟩
            exact FIN.out
          | some to =>
            obtain rfl := ha _ rfl
            have HR9 : Hid (r = (noteM (moveM h2.m (ya, yb) a kn), a, 0)) := HRR2.out
            obtain ⟨mi, mf, mg, mt0, mt1⟩ := HI2.out.move (List.mem_of_getElem? HX2.out) HAL2.out.1 HKN.out HRO2.out.symm
            dsimp only at mf mg
            obtain ⟨x', hx'⟩ : ∃ x' : Bk, x' = ⟨(a, keptL yb kn), kr, kc⟩ := ⟨_, rfl⟩
            have hbv : x'.bv = .slice (some ⟨kr, 0, none⟩) kn kc := by rw [hx']; unfold Bk.bv; simp [keptL_len]
            have hpb : x'.pb = (a, keptL yb kn) := by rw [hx']
            have hrw : x'.row = kr := by rw [hx']
            have hszm := HI2.out.fit.sz
            have hkr2 : w5.heap.size ≤ kr := (ho8.out.lt kr rfl).1
            have HPT : Hid (Calls Tryz.prog 44 #[.pointer (some ⟨g, 0, none⟩), .agg #[.int .i64 a, .slice (some ⟨kr, 0, none⟩) kn kc]] W8 fun e w' => e = .returned (.tuple #[]) ∧ ∃ h3 : Hp, Did w h w' h3 ∧ h3.blk = g ∧ h3.mu = 1 ∧ h3.kind = h2.kind ∧ h3.size = h2.size ∧ h3.m = putM h2.m (a, keptL yb kn)) := by
              have h1 := put_any h2 x' W8 HD8.out.rep HI2.out.kind (by have := HI2.out.len; simp only [Hp.m, List.length_map] at this; omega) HI2.out.fit (by rw [hpb]; exact mt0) (by rw [hpb]; show a ≤ 10000; omega) (by rw [hpb]; show (keptL yb kn).length ≤ 10000; rw [keptL_len]; omega)
                (by rw [hbv, hpb]; show W8.ownsRow 0 _ 1 _ (keptL yb kn).length _; rw [keptL_len]; exact own_low ho8.out (Nat.zero_le _)) (fun z hz e => by have := HCS.out _ HD5.out z hz; omega)
              rw [hbv, hpb] at h1
              unfold Hp.ptr at h1
              rw [HB2.out] at h1
              refine h1.mono ?_
              rintro e w' ⟨rfl, v1, hR, hT, hv⟩
              refine ⟨rfl, _, did_put HD8.out hR hT hv (by rw [hrw]; omega), HB2.out, HMU2.out, rfl, rfl, ?_⟩
              rw [m_put, hpb]
            have HTK : Hid (∀ W h3, HpR W h3 → h3.blk = g → h3.kind = h2.kind → h3.size = h2.size → h3.m = putM h2.m (a, keptL yb kn) → Calls Tryz.prog 48 #[.pointer (some ⟨g, 0, none⟩), .int .i64 ya] W fun e w' => ∃ rw_ n_ c_, e = .returned (.agg #[.int .i64 ya, .slice (some ⟨rw_, 0, none⟩) n_ c_]) ∧ ∃ h4 : Hp, Did W h3 w' h4 ∧ h4.mu = h3.mu ∧ h4.m = moveM h2.m (ya, yb) a kn) := fun W h3 hR e1 e2 e3 e4 => by
              have hl : h3.m.live[below h3.m.live ya]? = some (ya, yb) := by rw [e4]; exact mg
              obtain ⟨y3, hy3, hp3⟩ : ∃ y3, h3.bks[below h3.m.live ya]? = some y3 ∧ y3.pb = (ya, yb) := by
                have hl' : (h3.bks.map (·.pb))[below h3.m.live ya]? = some (ya, yb) := hl
                rw [List.getElem?_map] at hl'
                cases e : h3.bks[below h3.m.live ya]? with
                | none => rw [e] at hl'; cases hl'
                | some y3 => rw [e] at hl'; exact ⟨y3, rfl, by injection hl'⟩
              have hF : Fit h3.size (h3.bks.map (·.pb)) := by
                rw [show h3.bks.map (·.pb) = (putM h2.m (a, keptL yb kn)).live from congrArg HM.live e4, e3]
                exact mf
              have hlen : h3.bks.length ≤ 100 := by
                have h5 : (h3.bks.map (·.pb)).length = (putM h2.m (a, keptL yb kn)).live.length := congrArg (fun z : HM => z.live.length) e4
                have h6 : (putM h2.m (a, keptL yb kn)).live.length = h2.m.live.length + 1 := insAt_len _ _ _ (below_le _ _)
                rw [List.length_map] at h5
                have := HI2.out.len
                omega
              have h1 := take_any h3 _ y3 W hR (by rw [e2]; exact HI2.out.kind) hlen hF hy3
              unfold Hp.ptr at h1
              rw [e1, hp3] at h1
              dsimp only at h1
              refine h1.mono ?_
              rintro e w' ⟨rfl, v, hd⟩
              refine ⟨y3.row, yb.length, y3.cap, by rw [hp3]; unfold Bk.bv; rw [hp3], _, hd, rfl, ?_⟩
              rw [m_take, hp3, e4]
              rfl
            have HNR : Hid (∀ h4 : Hp, h4.m = moveM h2.m (ya, yb) a kn → Near h4.bks) := fun h4 e => by
              have := Inv.near (h := { h4 with peak := 1000000 }) (by
                have e2 : ({ h4 with peak := 1000000 } : Hp).m = { moveM h2.m (ya, yb) a kn with peak := 1000000 } := by rw [← e]; rfl
                rw [e2]
                exact mi)
              exact this
            have HFIN : Hid (∀ W h3, Did w h W h3 → h3.blk = g → h3.mu = 1 → h3.m = moveM h2.m (ya, yb) a kn → ∀ W', Did W h3 W' { h3 with peak := max h3.peak (used (h3.bks.map (·.pb))) } → Act2 r w h (.returned (.tuple #[.int .i64 a, .int .i64 0])) (W'.setCell ⟨g, 0, none⟩ (.int .i32 0)) ∧ W'.cell? ⟨g, 0, none⟩ = some (.int .i32 1) ∧ W'.frozen? ⟨g, 0, none⟩ = false) := fun W h3 D e1 e2 e3 W' D2 => by
              have D3 := D.trans D2
              refine ⟨?_, KM.out _ _ D3 e1 e2⟩
              rw [HR9.out]
              refine D3.out2 (r := (noteM (moveM h2.m (ya, yb) a kn), a, 0)) g e1.symm ?_
              rw [m_note, e3]
            clear mi mf mg hbv hpb hrw hx' ha HRR2 HRO2 hszm
            go_wp2_with fail
            refine HPT.out.mono ?_
            rintro e w10 ⟨rfl, h3, hd10, b10, mu10, kd10, sz10, m10⟩
            have HD10 := hide hd10
            have HB10 := hide b10
            have HMU10 := hide mu10
            have HT10 := hide (HTK.out w10 h3 hd10.rep b10 kd10 sz10 m10)
            clear hd10 b10 mu10 kd10 sz10 m10 HPT HTK
            go_wp2_with fail
            refine HT10.out.mono ?_
            rintro e w11 ⟨rw_, n_, c_, rfl, h4, hd11, mu11, m11⟩
            have HD11 := hide (HD10.out.trans hd11)
            have HB11 : Hid (h4.blk = g) := hide (hd11.blk.trans HB10.out)
            have HMU11 : Hid (h4.mu = 1) := hide (mu11.trans HMU10.out)
            have HM11 := hide m11
            clear hd11 mu11 m11
            go_wp2_with fail
            refine (HNT.out w11 h4 HD11.out.rep HB11.out (HNR.out h4 HM11.out)).mono ?_
            rintro e w12 ⟨rfl, hd12⟩
            obtain ⟨q1, q2, q3⟩ := HFIN.out _ _ HD11.out HB11.out HMU11.out HM11.out _ hd12
            have FIN := hide q1
            have KMU := hide q2
            have KFR := hide q3
            clear hd12 q1 q2 q3
            go_wp2_with fail
            refine leaves_cons (f := 36) (args := #[.pointer (some ⟨g, 0, none⟩)]) (by simp) (by simp [go_sem]) ?_
            refine (Go.MuLone.unlock_deferred muLib ⟨g, 0, none⟩ .returning _ KMU.out KFR.out).mono ?_
            rintro e u' w9 ⟨rfl, rfl, rfl⟩
            refine ⟨_, results_tmp2 rfl _ _ _, ?_⟩
            exact FIN.out
end Go.Proofs.YtegpkcbmgjoicaaGreat
