/- What a heap shows is what the reference's heap is: shows. A heap of the call's own and its reference, in hand: they lie apart, and each act keeps that. A region that draws its order and holds a store into a block made in it. Conditions: as each theorem says. -/
import Derived.Test.YtegpkcbmgjoicaaGreatHtU1
import Derived.Test.YtegpkcbmgjoicaaGreatHrE
namespace Go.Proofs.YtegpkcbmgjoicaaGreat
open Go.RowKit HP
set_option linter.unusedVariables false
/-- a row of which no heap is made -/
def Alien (t : TypeId) : Prop := t ≠ 62 ∧ t ≠ 90 ∧ t ≠ 3 ∧ t ≠ 68 ∧ t ≠ 71
theorem alien_model : Alien MT := ⟨by decide, by decide, by decide, by decide, by decide⟩
theorem HpR.no_t {w : World} {h : Hp} (H : HpR w h) {t : TypeId} (ht : Alien t) {b : Nat} {cs : Array Value} {f : Nat × Nat} (e : w.heap[b]? = some (.cells cs t f)) : ¬ h.fp b := by
  intro hb
  rcases hb with rfl | hb | ⟨x, hx, rfl⟩ | ⟨hk, rfl⟩
  · exact ty_ne e H.cells ht.1 rfl
  · obtain ⟨cs', e'⟩ := own_blk H.live hb
    exact ty_ne e e' ht.2.1 rfl
  · obtain ⟨cs', e'⟩ := own_blk (H.rows x hx) x.own
    exact ty_ne e e' ht.2.2.1 rfl
  · rcases hk with hk | hk
    · exact ty_ne e (H.w1 hk) ht.2.2.2.1 rfl
    · exact ty_ne e (H.w2 hk) ht.2.2.2.2 rfl
/-- a slice lies in none of these blocks -/
def Apt (S : Nat → Prop) (A : Option Addr) : Prop := ∀ b o, A = some ⟨b, o, none⟩ → ¬ S b
theorem TyA.turn {t : TypeId} {w w' : World} {A : Option Addr} {S : Nat → Prop} (h : TyA t w A) (ht : Turn S w w') (ha : Apt S A) : TyA t w' A := fun g o e => by
  obtain ⟨cs, hc⟩ := h g o e
  exact ⟨cs, (ht.block g (blk_lt hc) (ha g o e)).trans hc⟩
theorem Sl.turn {α : Type} {k : Nat} {enc : α → List Value} {w w' : World} {A : Option Addr} {n c : Nat} {xs : List α} {S : Nat → Prop} (h : Sl k enc w A n c xs) (ht : Turn S w w') (ha : Apt S A) : Sl k enc w' A n c xs := by
  refine ⟨?_, h.len, h.cap, h.most⟩
  rcases h.rd with e | ⟨g, o, e1, e2, e3⟩
  · exact .inl e
  · refine .inr ⟨g, o, e1, Nat.lt_of_lt_of_le e2 ht.size, fun j u hu => ?_⟩
    have := e3 j u hu
    unfold World.cell? at this ⊢
    dsimp only at this ⊢
    rw [ht.block g e2 (ha g o e1)]
    exact this
theorem RmR.turn {w w' : World} {v : RV} {S : Nat → Prop} (H : RmR w v) (ht : Turn S w w') (hA : Apt S v.A) (hB : Apt S v.B) : RmR w' v := ⟨H.b.turn ht hA, H.y.turn ht hB, H.bn, H.yn, H.ta.turn ht hA, H.tb.turn ht hB⟩
/-! a region that draws its order, in which a class of worlds is kept -/
open Classical in
noncomputable def extJ (J : World → Prop) (W k : World) : World := if J k then k else W
theorem j_extJ {J : World → Prop} {W : World} (h : J W) (k : World) : J (extJ J W k) := by
  unfold extJ
  split
  · assumption
  · exact h
theorem extJ_of {J : World → Prop} {W w : World} (h : J w) : ∃ k, w = extJ J W k := ⟨w, by unfold extJ; rw [if_pos h]⟩
theorem wp_region_J {P : Program} {id : Nat} {R : Exit → Act → World → Prop} {a : Act} {w : World} {l : List Oper} {J : World → Prop} (hd : J w.drew) (hm : P.follows .mixedOrders = true) (hB : Region.lexB .any l.toArray = true)
    (h : wpQuiet P l.toArray (fun w' => ∃ k, w' = extJ J w k) (fun a' => ∀ w', (∃ k, w' = extJ J w k) → R .normal a' w') l a) : (Code.region id l.toArray true).wp P R a w :=
  wp_region_quiet (C := fun w' => ∃ k, w' = extJ J w k) hm hB (extJ_of hd) (by simpa using h)
theorem extJ_call {P : Program} {f : FuncId} {args : Array Value} {J : World → Prop} {W k : World} {v : Value} (h : Calls P f args (extJ J W k) fun e w' => e = .returned v ∧ J w') :
    Calls P f args (extJ J W k) fun e w'' => e = .returned v ∧ ∃ k', w'' = extJ J W k' :=
  h.mono fun _ _ ⟨he, hj⟩ => ⟨he, extJ_of hj⟩
/-- behind acts that show: the box of a model and a row of stretches stay -/
def ShowJ (w : World) (h : Hp) (bx : Nat) (cs : Array Value) (B : Nat) (vl : Value) (L : List (Int × Int)) (W : World) : Prop :=
  ∃ h1, Did w h W h1 ∧ h1.mu = 0 ∧ h1.m = h.m ∧ W.heap[bx]? = some (.cells cs MT (0, 0)) ∧ W.ownsRow B 88 2 vl L.length (L.flatMap encP)
theorem ShowJ.q {w W W' : World} {h : Hp} {bx B : Nat} {cs : Array Value} {vl : Value} {L : List (Int × Int)} (J : ShowJ w h bx cs B vl L W) (hq : Q W W') : ShowJ w h bx cs B vl L W' := by
  obtain ⟨h1, D, e1, e2, e3, e4⟩ := J
  exact ⟨h1, D.q hq, e1, e2, (hq.below.block _ (blk_lt e3)).trans e3, own_q e4 hq⟩
theorem ShowJ.act {w W : World} {h : Hp} {bx B : Nat} {cs : Array Value} {vl v : Value} {L : List (Int × Int)} (J : ShowJ w h bx cs B vl L W) {f : Nat}
    (hc : ∀ h1 : Hp, HpR W h1 → h1.mu = 0 → h1.m = h.m → h1.blk = h.blk → Calls Tryz.prog f #[h.ptr] W (ActR h1.m v W h1)) : Calls Tryz.prog f #[h.ptr] W fun e w' => e = .returned v ∧ ShowJ w h bx cs B vl L w' := by
  obtain ⟨h1, D, e1, e2, e3, e4⟩ := J
  refine (hc h1 D.rep e1 e2 D.blk).mono ?_
  rintro e w' ⟨h2, he, D2, hmu, hm⟩
  exact ⟨he, h2, D.trans D2, hmu, hm.trans e2, (D2.turn.block _ (blk_lt e3) (D.rep.no_t alien_model e3)).trans e3, (D2.keep D.rep).own e4⟩
set_option maxRecDepth 100000 in
set_option maxHeartbeats 8000000 in
theorem shows_any (h : Hp) (v : RV) (w : World) (H : HpR w h) (I : Inv h.m) (hmu : h.mu = 0) (hV : RmR w v) (S : Sim h.m v.m) (hc : h.m.calls < 1000000) (hA : Apt h.fp v.A) (hB : Apt h.fp v.B) :
    Calls Tryz.prog 11 #[h.ptr, v.val] w (ActR h.m (.bool true) w h) := by
  have K := S.K I hc
  have hblL := S.bl
  have hus : sumS v.m.bl = used h.m.live := by
    rw [S.bl]
    exact sumS_used _
  obtain ⟨bx, hbx⟩ : ∃ bx, bx = w.heap.size := ⟨_, rfl⟩
  obtain ⟨w1, hw1⟩ : ∃ w1, w.alloc (.cells v.cells MT) = w1 := ⟨_, rfl⟩
  have hq1 : Q w w1 := by rw [← hw1]; exact (Q.refl w).alloc _
  have hB1 : w1.heap[bx]? = some (.cells v.cells MT (0, 0)) := by rw [← hw1, hbx]; exact heap_alloc_new w _
  obtain ⟨L, hL⟩ : ∃ L, L = v.m.bl := ⟨_, rfl⟩
  have hlen : L.length = h.bks.length := by
    rw [hL, hblL, str_len]
    unfold Hp.m
    simp
  have hnl := hV.b.len
  have hn64 : v.n ≤ 100 := by have := K.N.n; omega
  obtain ⟨J, hJ⟩ : ∃ J : Value → World → Prop, J = fun vl => ShowJ w h bx v.cells w1.heap.size vl L := ⟨_, rfl⟩
  have hJq : ∀ vl W W', J vl W → Q W W' → J vl W' := fun vl W W' j hq => by
    rw [hJ] at j ⊢
    exact ShowJ.q j hq
  have HLV : Hid (Calls Tryz.prog 30 #[h.ptr] w1 fun e w' => ∃ A1 c1, e = .returned (.slice A1 v.n c1) ∧ J (.slice A1 v.n c1) w') := by
    refine (live_act h w1 (H.q hq1) I hmu).mono ?_
    rintro e w' ⟨vl, h', he, ho, D, hmu', hm'⟩
    have ho' : w'.ownsRow w1.heap.size 88 2 vl L.length (L.flatMap encP) := by
      rw [hlen, hL, hblL]
      exact ho
    obtain ⟨A1, c1, e1, -⟩ := own_form ho'
    rw [hL, hnl] at e1
    subst e1
    refine ⟨A1, c1, he, ?_⟩
    rw [hJ]
    exact ⟨h', (Did.of_q H hq1).trans D, hmu', hm', (D.turn.block _ (blk_lt hB1) ((H.q hq1).no_t alien_model hB1)).trans hB1, ho'⟩
  have HUS : Hid (∀ vl W, J vl W → Calls Tryz.prog 31 #[h.ptr] W fun e w' => e = .returned (.int .i64 (sumS v.m.bl)) ∧ J vl w') := fun vl W j => by
    rw [hJ] at j ⊢
    refine ShowJ.act j fun h1 H1 e1 e2 e3 => ?_
    have := used_act h1 W H1 (by rw [e2]; exact I) e1
    unfold Hp.ptr at this ⊢
    rw [e3, e2, ← hus] at this
    rw [e2]
    exact this
  have HPK : Hid (∀ vl W, J vl W → Calls Tryz.prog 33 #[h.ptr] W fun e w' => e = .returned (.int .i64 v.m.peak) ∧ J vl w') := fun vl W j => by
    rw [hJ] at j ⊢
    refine ShowJ.act j fun h1 H1 e1 e2 e3 => ?_
    have := peak_act h1 W H1 (by rw [e2]; exact I) e1
    unfold Hp.ptr at this ⊢
    rw [e3, e2, ← S.peak] at this
    rw [e2]
    exact this
  have HCL : Hid (∀ vl W, J vl W → Calls Tryz.prog 34 #[h.ptr] W fun e w' => e = .returned (.int .i64 v.m.calls) ∧ J vl w') := fun vl W j => by
    rw [hJ] at j ⊢
    refine ShowJ.act j fun h1 H1 e1 e2 e3 => ?_
    have := calls_act h1 W H1 (by rw [e2]; exact I) e1
    unfold Hp.ptr at this ⊢
    rw [e3, e2, ← S.calls] at this
    rw [e2]
    exact this
  have hJv : ∀ vl W, J vl W → RmR W v := fun vl W j => by
    rw [hJ] at j
    obtain ⟨h1, D, -⟩ := j
    exact hV.turn D.turn hA hB
  have HUR : Hid (∀ vl W, J vl W → Calls Tryz.prog 32 #[v.val] W fun e w' => e = .returned (.int .i64 (sumS v.m.bl)) ∧ J vl w') := fun vl W j => by
    refine (rUsed_any v W (hJv vl W j) K.N).mono ?_
    rintro e w' ⟨he, hq⟩
    exact ⟨he, hJq vl W w' j hq⟩
  have HBX : Hid (∀ vl W, J vl W → W.heap[bx]? = some (.cells v.cells MT (0, 0))) := fun vl W j => by
    rw [hJ] at j
    obtain ⟨h1, -, -, -, e, -⟩ := j
    exact e
  have HRL : Hid (∀ A1 c1 W, J (.slice A1 v.n c1) W → Sl 2 encP W A1 v.n c1 L ∧ Sl 2 encP W v.A v.n v.c L) := fun A1 c1 W j => by
    refine ⟨?_, by rw [hL]; exact (hJv _ W j).b⟩
    rw [hJ] at j
    obtain ⟨h1, -, -, -, -, e⟩ := j
    rw [hL, hnl, ← hL] at e
    exact Sl.own (own_low e (Nat.zero_le _)) (fun _ => rfl) (by decide)
  have HFIN : Hid (∀ vl W, J vl W → ActR h.m (.bool true) w h (.returned (.bool true)) W) := fun vl W j => by
    rw [hJ] at j
    obtain ⟨h1, D, e1, e2, -⟩ := j
    exact ⟨h1, rfl, D, e1, e2⟩
  have HJQ := hide hJq
  have HW1 := hide hw1
  have HBXD := hide hbx
  obtain ⟨P, hP⟩ : ∃ P, P = ActR h.m (.bool true) w h := ⟨_, rfl⟩
  rw [← hP] at HFIN ⊢
  unfold Hp.ptr at HLV HUS HPK HCL ⊢
  obtain ⟨g, hg⟩ : ∃ g, g = h.blk := ⟨_, rfl⟩
  rw [← hg] at HLV HUS HPK HCL ⊢
  obtain ⟨u, hu⟩ : ∃ u, u = sumS v.m.bl := ⟨_, rfl⟩
  rw [← hu] at HUS HUR
  have hbw : bx < w1.heap.size := blk_lt hB1
  clear hbx H I hmu hV S hc hA hB K hblL hus hJ hJq hJv hlen hnl hP hg hu hL hw1 hq1 hB1
  unfold RV.val RV.cells at *
  obtain ⟨A0, n, c, B, k, d, ⟨m0, m1, m2, bl, ys, m5, m6, m7, m8⟩⟩ := v
  dsimp only at *
  have hni : (n : Int) ≤ 100 := by omega
  go_enter Tryz.func11, Tryz.ntmps11
  go_wp2_with fail
  rw [HW1.out, ← HBXD.out]
  refine HLV.out.mono ?_
  rintro e w2 ⟨A1, c1, rfl, hj2⟩
  obtain ⟨JJ, hJJ⟩ : ∃ JJ, JJ = J (.slice A1 n c1) := ⟨_, rfl⟩
  have HJ2 : Hid (JJ w2) := hide (by rw [hJJ]; exact hj2)
  have HUS2 : Hid (∀ W, JJ W → Calls Tryz.prog 31 #[.pointer (some ⟨g, 0, none⟩)] W fun e w' => e = .returned (.int .i64 u) ∧ JJ w') := fun W j => by rw [hJJ] at j ⊢; exact HUS.out _ W j
  have HPK2 : Hid (∀ W, JJ W → Calls Tryz.prog 33 #[.pointer (some ⟨g, 0, none⟩)] W fun e w' => e = .returned (.int .i64 m6) ∧ JJ w') := fun W j => by rw [hJJ] at j ⊢; exact HPK.out _ W j
  have HCL2 : Hid (∀ W, JJ W → Calls Tryz.prog 34 #[.pointer (some ⟨g, 0, none⟩)] W fun e w' => e = .returned (.int .i64 m7) ∧ JJ w') := fun W j => by rw [hJJ] at j ⊢; exact HCL.out _ W j
  have HUR2 : Hid (∀ W, JJ W → Calls Tryz.prog 32 #[.agg #[.int .i64 m0, .int .i64 m1, .int .i64 m2, .slice A0 n c, .slice B k d, .int .i64 m5, .int .i64 m6, .int .i64 m7, .int .i64 m8]] W fun e w' => e = .returned (.int .i64 u) ∧ JJ w') := fun W j => by rw [hJJ] at j ⊢; exact HUR.out _ W j
  have HBX2 : Hid (∀ W, JJ W → W.heap[bx]? = some (.cells #[.int .i64 m0, .int .i64 m1, .int .i64 m2, .slice A0 n c, .slice B k d, .int .i64 m5, .int .i64 m6, .int .i64 m7, .int .i64 m8] MT (0, 0))) := fun W j => by rw [hJJ] at j; exact HBX.out _ W j
  have HRL2 : Hid (∀ W, JJ W → Sl 2 encP W A1 n c1 L ∧ Sl 2 encP W A0 n c L) := fun W j => by rw [hJJ] at j; exact HRL.out _ _ W j
  have HFIN2 : Hid (∀ W, JJ W → P (.returned (.bool true)) W) := fun W j => by rw [hJJ] at j; exact HFIN.out _ W j
  have HJQ2 : Hid (∀ W W', JJ W → Q W W' → JJ W') := fun W W' j hq => by rw [hJJ] at j ⊢; exact HJQ.out _ W W' j hq
  clear hj2 hJJ HUS HPK HCL HUR HBX HRL HFIN HJQ HLV
  have bn1 : ((n : Int) != (n : Int)) = false := by simp
  have bn2 : (u != u) = false := by simp
  have bn3 : (m6 != m6) = false := by simp
  have bn4 : (m7 != m7) = false := by simp
  have hx0 : ∀ kk, (extJ JJ w2 kk).cell? ⟨bx, 0, none⟩ = some (.int .i64 m0) := fun kk => by rw [cell_of_row _ _ _ _ _ _ (HBX2.out _ (j_extJ HJ2.out kk))]; rfl
  have hx1 : ∀ kk, (extJ JJ w2 kk).cell? ⟨bx, 1, none⟩ = some (.int .i64 m1) := fun kk => by rw [cell_of_row _ _ _ _ _ _ (HBX2.out _ (j_extJ HJ2.out kk))]; rfl
  have hx2 : ∀ kk, (extJ JJ w2 kk).cell? ⟨bx, 2, none⟩ = some (.int .i64 m2) := fun kk => by rw [cell_of_row _ _ _ _ _ _ (HBX2.out _ (j_extJ HJ2.out kk))]; rfl
  have hx3 : ∀ kk, (extJ JJ w2 kk).cell? ⟨bx, 3, none⟩ = some (.slice A0 n c) := fun kk => by rw [cell_of_row _ _ _ _ _ _ (HBX2.out _ (j_extJ HJ2.out kk))]; rfl
  have hx4 : ∀ kk, (extJ JJ w2 kk).cell? ⟨bx, 4, none⟩ = some (.slice B k d) := fun kk => by rw [cell_of_row _ _ _ _ _ _ (HBX2.out _ (j_extJ HJ2.out kk))]; rfl
  have hx5 : ∀ kk, (extJ JJ w2 kk).cell? ⟨bx, 5, none⟩ = some (.int .i64 m5) := fun kk => by rw [cell_of_row _ _ _ _ _ _ (HBX2.out _ (j_extJ HJ2.out kk))]; rfl
  have hx6 : ∀ kk, (extJ JJ w2 kk).cell? ⟨bx, 6, none⟩ = some (.int .i64 m6) := fun kk => by rw [cell_of_row _ _ _ _ _ _ (HBX2.out _ (j_extJ HJ2.out kk))]; rfl
  have hx7 : ∀ kk, (extJ JJ w2 kk).cell? ⟨bx, 7, none⟩ = some (.int .i64 m7) := fun kk => by rw [cell_of_row _ _ _ _ _ _ (HBX2.out _ (j_extJ HJ2.out kk))]; rfl
  have hx8 : ∀ kk, (extJ JJ w2 kk).cell? ⟨bx, 8, none⟩ = some (.int .i64 m8) := fun kk => by rw [cell_of_row _ _ _ _ _ _ (HBX2.out _ (j_extJ HJ2.out kk))]; rfl
  go_wp2_with fail
  refine wp_region_J (HJQ2.out _ _ HJ2.out (Q.refl w2).drew) (by kernel_rfl) (by kernel_rfl) ?_
  repeat (go_big_quiet_step (first | (go_at_call 31; exact extJ_call (HUS2.out _ (j_extJ HJ2.out _))) | (go_at_call 33; exact extJ_call (HPK2.out _ (j_extJ HJ2.out _))) | (go_at_call 34; exact extJ_call (HCL2.out _ (j_extJ HJ2.out _))) | (go_at_call 32; exact extJ_call (HUR2.out _ (j_extJ HJ2.out _)))))
  refine wpQuiet_nil ?_
  rintro w3 ⟨k3, hk3⟩
  have HJ3 : Hid (JJ w3) := hide (by rw [hk3]; exact j_extJ HJ2.out _)
  clear hk3 hx0 hx1 hx2 hx3 hx4 hx5 hx6 hx7 hx8 HUS2 HPK2 HCL2 HUR2
  have q3 := HBX2.out _ HJ3.out
  have hs3 := blk_lt q3
  obtain ⟨HS1, HS2⟩ := HRL2.out _ HJ3.out
  have HS1 := hide HS1
  have HS2 := hide HS2
  have HQ3 := hide q3
  have hnp := neq_pair
  clear q3
  go_wp2_with fail
  go_loopw [6] (fun vi wr => ∃ k : Nat, k ≤ n ∧ vi = .int .i64 (k : Int) ∧ Q w3 wr) (fun vi _ => n - (intOf vi).toNat)
  case atStart => exact ⟨0, by omega, by go_num, Q.refl _⟩
  case round =>
    obtain ⟨k, hk, rfl, hqr⟩ := hrel
    have q4 := (hqr.below.block _ hs3).trans HQ3.out
    have hs4 := blk_lt q4
    have k3 : wr.cell? ⟨bx, 3, none⟩ = some (.slice A0 n c) := (cell_of_row _ _ _ _ _ _ q4).trans rfl
    clear q4
    by_cases hlt : k < n
    · have hd1 : decide ((k : Int) < (n : Int)) = true := by simp; omega
      have hd0 : decide (k < n) = true := by simp; omega
      have hlti : (k : Int) < (n : Int) := by omega
      obtain ⟨b7, q7, p1, p2, hA7, hb7, hx7, z1, z2⟩ := (HS1.out.up hqr).pr k hlt
      obtain ⟨b8, q8, p3, p4, hA8, hb8, hx8, z3, z4⟩ := (HS2.out.up hqr).pr k hlt
      rw [hx7] at hx8
      injection hx8 with hx8
      injection hx8 with e3 e4
      subst e3
      subst e4
      subst hA7
      subst hA8
      clear hx7
      go_wp2_with fail
      have hxc := ext_cell
      refine wp_region_ext (by kernel_rfl) (by kernel_rfl) ?_
      repeat (go_big_quiet_step ((fail)))
      clear hxc
      refine wpQuiet_nil ?_
      intro w13 hww13
      have hqw13 := q_of_ext hww13
      clear hww13
      obtain ⟨hcw13, hfw13, hzw13⟩ := hqw13.facts
      try simp at hzw13
      try have hs0w13 : w.heap.size < w13.heap.size := by omega
      try have hs1w13 : w.heap.size + 1 < w13.heap.size := by omega
      go_wp2_with fail
      go_roundw
      case rel => exact ⟨k + 1, by omega, by go_num, hqr.trans hqw13⟩
      case measure => simp [intOf] <;> omega
    · have hd1 : decide ((k : Int) < (n : Int)) = false := by simp; omega
      have hd0 : decide (k < n) = false := by simp; omega
      obtain rfl : k = n := by omega
      have FIN := hide (HFIN2.out _ (HJQ2.out _ _ HJ3.out hqr))
      clear hqr HS1 HS2
      go_wp2_with fail
      exact FIN.out
end Go.Proofs.YtegpkcbmgjoicaaGreat

namespace Go.Proofs.YtegpkcbmgjoicaaGreat
open Go.RowKit HP
set_option linter.unusedVariables false
/-- a heap of the call's own, a heap of the reference, and a box, apart from one another -/
def OR (w0 w : World) (g : Nat) (m : HM) (v : RV) (bM : Nat) : Prop :=
  ∃ h : Hp, h.blk = g ∧ HpR w h ∧ h.mu = 0 ∧ h.m = m ∧ Q w0 w ∧ (∀ b, h.fp b → w0.heap.size ≤ b) ∧ RmR w v ∧ Apt (fun b => h.fp b ∨ b = bM) v.A ∧ Apt (fun b => h.fp b ∨ b = bM) v.B
/-- boxes of models are as they were -/
def KeepM (w w' : World) : Prop := ∀ (b : Nat) (cs : Array Value), w.heap[b]? = some (.cells cs MT (0, 0)) → w'.heap[b]? = some (.cells cs MT (0, 0))
theorem KeepM.trans {a b c : World} (h : KeepM a b) (k : KeepM b c) : KeepM a c := fun i cs e => k i cs (h i cs e)
theorem KeepM.q {a b : World} (h : Q a b) : KeepM a b := fun i cs e => (h.below.block i (blk_lt e)).trans e
theorem Did.keepM {w w' : World} {h h' : Hp} (H : HpR w h) (D : Did w h w' h') : KeepM w w' := fun b cs e => (D.turn.block b (blk_lt e) (H.no_t alien_model e)).trans e
theorem Apt.mono {S S' : Nat → Prop} {A : Option Addr} (h : Apt S A) (hs : ∀ b, S' b → S b) : Apt S' A := fun b o e h' => h b o e (hs b h')
theorem Apt.did {t : TypeId} {w w' : World} {h h' : Hp} {bM : Nat} {A : Option Addr} (hT : TyA t w A) (D : Did w h w' h') (ha : Apt (fun b => h.fp b ∨ b = bM) A) : Apt (fun b => h'.fp b ∨ b = bM) A := fun g o e hb => by
  obtain ⟨cs, hc⟩ := hT g o e
  have hl := blk_lt hc
  have h0 := ha g o e
  rcases hb with hb | hb
  · rcases D.fp g hb with hb | hb
    · exact h0 (.inl hb)
    · omega
  · exact h0 (.inr hb)
theorem OR.did {w0 w w' : World} {h h' : Hp} {v : RV} {bM : Nat} (hq : Q w0 w) (hf : ∀ b, h.fp b → w0.heap.size ≤ b) (hV : RmR w v) (hA : Apt (fun b => h.fp b ∨ b = bM) v.A) (hB : Apt (fun b => h.fp b ∨ b = bM) v.B) (D : Did w h w' h') (hmu : h'.mu = 0) : OR w0 w' h.blk h'.m v bM :=
  ⟨h', D.blk, D.rep, hmu, rfl, Turn.q_of hq D.turn hf, fun b hb => by
    rcases D.fp b hb with hb | hb
    · exact hf b hb
    · exact Nat.le_trans hq.size hb, hV.turn D.turn (hA.mono fun b hb => .inl hb) (hB.mono fun b hb => .inl hb), hA.did hV.ta D, hB.did hV.tb D⟩
theorem OR.toQ {w0 w : World} {g : Nat} {m : HM} {v : RV} {bM : Nat} (O : OR w0 w g m v bM) : Q w0 w := by
  obtain ⟨h, -, -, -, -, hq, -⟩ := O
  exact hq
theorem OR.q {w0 w w' : World} {g : Nat} {m : HM} {v : RV} {bM : Nat} (O : OR w0 w g m v bM) (hq : Q w w') : OR w0 w' g m v bM := by
  obtain ⟨h, a, b, c, d, e, f, k, l, n⟩ := O
  exact ⟨h, a, b.q hq, c, d, e.trans hq, f, k.up hq, l, n⟩
theorem FrA.apt {α : Type} {w : World} {h : Hp} {bM : Nat} {A A' : Option Addr} {xs xs' : List α} (H : HpR w h) (hb : bM < w.heap.size) (hF : FrA w.heap.size A A' xs xs') (ha : Apt (fun b => h.fp b ∨ b = bM) A) : Apt (fun b => h.fp b ∨ b = bM) A' := by
  rcases hF with ⟨rfl, rfl⟩ | hF
  · exact ha
  · intro b o e hb'
    have := hF b o e
    rcases hb' with hb' | hb'
    · have := H.lt b hb'
      omega
    · omega
theorem OR.ref {w0 w w' : World} {g : Nat} {m : HM} {v v' : RV} {bM : Nat} (O : OR w0 w g m v bM) (hR : RmR w' v') (hF : Fr w.heap.size v v') (hq : Q w w') (hb : bM < w.heap.size) : OR w0 w' g m v' bM := by
  obtain ⟨h, a, b, c, d, e, f, k, l, n⟩ := O
  exact ⟨h, a, b.q hq, c, d, e.trans hq, f, hR, FrA.apt b hb hF.1 l, FrA.apt b hb hF.2 n⟩
theorem turn9 (w : World) (bM : Nat) (v0 v1 v2 v3 v4 v5 v6 v7 v8 : Value) : Turn (fun b => b = bM) w (((((((((w.setCell ⟨bM, 0, none⟩ (v0)).setCell ⟨bM, 1, none⟩ (v1)).setCell ⟨bM, 2, none⟩ (v2)).setCell ⟨bM, 3, none⟩ (v3)).setCell ⟨bM, 4, none⟩ (v4)).setCell ⟨bM, 5, none⟩ (v5)).setCell ⟨bM, 6, none⟩ (v6)).setCell ⟨bM, 7, none⟩ (v7)).setCell ⟨bM, 8, none⟩ (v8)) :=
  (Turn.set (Turn.set (Turn.set (Turn.set (Turn.set (Turn.set (Turn.set (Turn.set (Turn.set (Turn.refl (fun b => b = bM) w) (p := ⟨bM, 0, none⟩) (show bM = bM from rfl) v0) (p := ⟨bM, 1, none⟩) (show bM = bM from rfl) v1) (p := ⟨bM, 2, none⟩) (show bM = bM from rfl) v2) (p := ⟨bM, 3, none⟩) (show bM = bM from rfl) v3) (p := ⟨bM, 4, none⟩) (show bM = bM from rfl) v4) (p := ⟨bM, 5, none⟩) (show bM = bM from rfl) v5) (p := ⟨bM, 6, none⟩) (show bM = bM from rfl) v6) (p := ⟨bM, 7, none⟩) (show bM = bM from rfl) v7) (p := ⟨bM, 8, none⟩) (show bM = bM from rfl) v8)
theorem OR.box {w0 w W : World} {g : Nat} {m : HM} {v : RV} {bM : Nat} {cs : Array Value} (O : OR w0 w g m v bM) (hb : w.heap[bM]? = some (.cells cs MT (0, 0))) (ht : Turn (fun b => b = bM) w W) (hq : Q w0 W) : OR w0 W g m v bM := by
  obtain ⟨h, a, b, c, d, e, f, k, l, n⟩ := O
  exact ⟨h, a, b.turn ht fun i hi e => b.no_t alien_model hb (by rw [← e]; exact hi), c, d, hq, f, k.turn ht (l.mono fun b hb => .inr hb) (n.mono fun b hb => .inr hb), l, n⟩
theorem or_start {w0 w2 w3 w4 : World} {g : Nat} {m : HM} {v : RV} {bM : Nat} (O : Own w0 w2 g m) (hq3 : Q w2 w3) (hV : RmR w3 v) (hq4 : Q w3 w4) (hb : bM = w3.heap.size) (hF : FrA w2.heap.size none v.A [] v.m.bl) (hG : FrA w2.heap.size none v.B [] v.m.ys) : OR w0 w4 g m v bM := by
  obtain ⟨h, a, b, c, d, e, f⟩ := O
  have key : ∀ {α : Type} {t : TypeId} {A : Option Addr} {xs : List α}, TyA t w3 A → FrA w2.heap.size none A [] xs → Apt (fun b => h.fp b ∨ b = bM) A := fun hT hF g' o e' hb' => by
    obtain ⟨cs, hc⟩ := hT g' o e'
    have hl := blk_lt hc
    rcases hF with ⟨e2, -⟩ | hF
    · rw [e2] at e'
      cases e'
    · have h1 := hF g' o e'
      rcases hb' with hb' | hb'
      · have := b.lt _ hb'
        omega
      · omega
  exact ⟨h, a, (b.q hq3).q hq4, c, d, (e.trans hq3).trans hq4, f, hV.up hq4, key hV.ta hF, key hV.tb hG⟩
theorem or_act {w0 w : World} {g : Nat} {m : HM} {v : RV} {bM : Nat} (O : OR w0 w g m v bM) (I : Inv m) (hc : m.calls < 1000000000) (op a b : Int) (ha : -9223372036854775808 ≤ a ∧ a ≤ 9223372036854775807) :
    Calls Tryz.prog 9 #[.pointer (some ⟨g, 0, none⟩), .agg #[.int .i64 op, .int .i64 a, .int .i64 b]] w fun e w' => e = .returned (.tuple #[.int .i64 (actM m op a b).2.1, .int .i64 (actM m op a b).2.2]) ∧ OR w0 w' g (actM m op a b).1 v bM ∧ KeepM w w' := by
  obtain ⟨h, rfl, r, u, rfl, hq, hf, hV, hA, hB⟩ := O
  refine (act_any h op a b w r I u hc ha.1 ha.2).mono ?_
  rintro e w' ⟨h', he, D, hmu, hm⟩
  have O' := OR.did hq hf hV hA hB D hmu
  rw [hm] at O'
  exact ⟨he, O', D.keepM r⟩
theorem or_shows {w0 w : World} {g : Nat} {m : HM} {v : RV} {bM : Nat} (O : OR w0 w g m v bM) (I : Inv m) (S : Sim m v.m) (hc : m.calls < 1000000) :
    Calls Tryz.prog 11 #[.pointer (some ⟨g, 0, none⟩), v.val] w fun e w' => e = .returned (.bool true) ∧ OR w0 w' g m v bM ∧ KeepM w w' := by
  obtain ⟨h, rfl, r, u, rfl, hq, hf, hV, hA, hB⟩ := O
  refine (shows_any h v w r I u hV S hc (hA.mono fun b hb => .inl hb) (hB.mono fun b hb => .inl hb)).mono ?_
  rintro e w' ⟨h', he, D, hmu, hm⟩
  have O' := OR.did hq hf hV hA hB D hmu
  rw [hm] at O'
  exact ⟨he, O', D.keepM r⟩
theorem or_ref {w0 w : World} {g : Nat} {m : HM} {v : RV} {bM : Nat} (O : OR w0 w g m v bM) (K : RmK v.m) (hb : bM < w.heap.size) (op a b : Int) :
    Calls Tryz.prog 10 #[v.val, .agg #[.int .i64 op, .int .i64 a, .int .i64 b]] w fun e w' => ∃ v', e = .returned (.tuple #[v'.val, .int .i64 (ractM v.m op a b).2.1, .int .i64 (ractM v.m op a b).2.2]) ∧ v'.m = (ractM v.m op a b).1 ∧ OR w0 w' g m v' bM ∧ RmR w' v' ∧ Fr w.heap.size v v' ∧ Q w w' := by
  obtain ⟨h, -, -, -, -, -, -, hV, -, -⟩ := id O
  refine (rAct_any v op a b w hV K).mono ?_
  rintro e w' ⟨v', he, hm, hR, hF, hq⟩
  exact ⟨v', he, hm, O.ref hR hF hq hb, hR, hF, hq⟩
end Go.Proofs.YtegpkcbmgjoicaaGreat

namespace Go.Proofs.YtegpkcbmgjoicaaGreat
open Go.RowKit HP
set_option linter.unusedVariables false
/-- nothing but block b, a model's, has turned; it is one still -/
structure StB (b : Nat) (W W' : World) : Prop where
  turn : Turn (fun i => i = b) W W'
  was : ∃ cs, W.heap[b]? = some (.cells cs MT (0, 0))
  is : ∃ cs, cs.size = 9 ∧ W'.heap[b]? = some (.cells cs MT (0, 0))
theorem StB.q {b : Nat} {w0 W W' : World} (h : StB b W W') (hq : Q w0 W) (hb : w0.heap.size ≤ b) : Q w0 W' := Turn.q_of hq h.turn fun i e => by rw [e]; exact hb
theorem RmR.stB {b : Nat} {W W' : World} {v : RV} (H : RmR W v) (h : StB b W W') : RmR W' v := by
  obtain ⟨cs, hc⟩ := h.was
  refine H.turn h.turn (fun g o e e' => ?_) (fun g o e e' => ?_)
  · obtain ⟨cs', hc'⟩ := H.ta g o e
    rw [e'] at hc'
    exact ty_ne hc hc' (by decide) rfl
  · obtain ⟨cs', hc'⟩ := H.tb g o e
    rw [e'] at hc'
    exact ty_ne hc hc' (by decide) rfl
theorem OR.stB {w0 W W' : World} {g : Nat} {m : HM} {v : RV} {bM b : Nat} (O : OR w0 W g m v bM) (h : StB b W W') (hb : w0.heap.size ≤ b) : OR w0 W' g m v bM := by
  obtain ⟨hp, a, c, d, e, f, f2, k, l, n⟩ := O
  obtain ⟨cs, hc⟩ := h.was
  exact ⟨hp, a, c.turn h.turn fun i hi e => c.no_t alien_model hc (by rw [← e]; exact hi), d, e, h.q f hb, f2, k.stB h, l, n⟩
namespace Ri
theorem run_allocM {o : Oper} {A : Act} {W : World} (ho : o.op = .alloc MT) : (execOp A.eval o).run Tryz.prog W = .ok (.value (.pointer (some ⟨W.heap.size, 0, none⟩))) (W.alloc (.cells #[.int .i64 0, .int .i64 0, .int .i64 0, .slice none 0 0, .slice none 0 0, .int .i64 0, .int .i64 0, .int .i64 0, .int .i64 0] MT)) := by
  unfold execOp
  simp only [ho]
  have h : (Instr.alloc MT true (.tuple #[])).run Tryz.prog W = .ok (.pointer (some ⟨W.heap.size, 0, none⟩)) (W.alloc (.cells #[.int .i64 0, .int .i64 0, .int .i64 0, .slice none 0 0, .slice none 0 0, .int .i64 0, .int .i64 0, .int .i64 0, .int .i64 0] MT)) := by kernel_rfl
  simp [Sem.run_bind, h, Result.andThen]
theorem wp_rowG {P : Program} {o : Oper} {A : Act} {w : World} {R : Exit → Act → World → Prop} {D : World → Prop} {G : World → Prop} {ty t : TypeId} {x y : Operand} {g : Nat} {cells old : Array Value} (ho : o.op = .store ty x y) (hx : A.eval x = .pointer (some ⟨g, 0, none⟩)) (hy : A.eval y = .agg cells) (hd : o.dst = none) (hg : w.heap[g]? = some (.cells old t (0, 0))) (hi : (P.info? ty).map (·.size) = some cells.size) (hold : old.size = cells.size) (h1 : cells.all (·.oneCell') = true)
    (hD : D (w.setRow g cells)) (hG : G (w.setRow g cells)) : o.wp P A w (fun a' w' => ∃ v, a' = A.put o.dst v ∧ D w' ∧ G w') R :=
  wp_store_row ty x y ho g cells hx hy t old hg hi hold h1 ⟨undef, rfl, hD, hG⟩
/-- c: the operation that stores into the block that d made -/
theorem made_mid {P : Program} {id : Nat} {R : Exit → Act → World → Prop} {a : Act} {w : World} {l : List Oper} (c d : Nat) (φ : Nat → Value → World → Prop) (G : Value → World → Prop) (hm : P.follows .mixedOrders = true) (hB : chk l = true) (hcl : c < l.length) (hcd : dep l.toArray l.length c d = true)
    (hmono : ∀ i v w1 w2, φ i v w1 → Q w1 w2 → φ i v w2) (hst : ∀ i v b w1 w2, φ i v w1 → w.heap.size ≤ b → StB b w1 w2 → φ i v w2) (hG : ∀ v w1 w2, G v w1 → Q w1 w2 → G v w2)
    (hstep : All (fun k o => (k = c → o.guard = none ∧ ∀ (f : Nat → Value) (w1 : World), Q w.drew w1 → (∀ j, dep l.toArray l.length k j = true → φ j (f j) w1) → ∀ A : Act, (∀ d i, ((l[i]?).bind (·.dst)) = some d → d < a.tmps.size → A.eval (.tmp d) = f i) → (∀ d, apartD (some d) l = true → A.eval (.tmp d) = a.eval (.tmp d)) →
      o.wp P A w1 (fun a' w' => ∃ v, a' = A.put o.dst v ∧ (∃ b, w.heap.size ≤ b ∧ StB b w1 w') ∧ G (f d) w') R) ∧ (k ≠ c → StepG P R l a w.drew φ k o)) 0 l)
    (hφc : ∀ v w1, φ c v w1)
    (hend : ∀ f w', Q w w' → (∀ j, j < l.length → j ≠ c → φ j (f j) w') → G (f d) w' → R .normal (acts f 0 l a) w') : (Code.region id l.toArray true).wp P R a w := by
  unfold chk at hB
  rw [Bool.and_eq_true] at hB
  have hev : ∀ (f : Nat → Value) d i, ((l[i]?).bind (·.dst)) = some d → d < a.tmps.size → (acts f 0 l a).eval (.tmp d) = f i := fun f d i hdi hs => acts_get l 0 a hB.1 (Nat.zero_le _) (by simpa using hdi) hs
  have hsame : ∀ (f : Nat → Value) d, apartD (some d) l = true → (acts f 0 l a).eval (.tmp d) = a.eval (.tmp d) := fun f d hd' => acts_same l 0 a hd'
  refine wp_region_any hm ?_
  have hst0 : a = acts (old a l) 0 l a := start
  have key := any (P := P) (ops := l.toArray) (R := R) (A := fun f => acts f 0 l a) (fun S f w' => Q w.drew w' ∧ (∀ j, j < l.length → S j = true → φ j (f j) w') ∧ (S c = true → G (f d) w') ∧ ∀ j, S j = false → f j = old a l j)
    (fun f i o v ho => acts_upd v l 0 a hB.1 (Nat.zero_le _) (by simpa using ho)) hB.2
    (fun S f w1 i o ho hSi hdep hwait hJ => by
      have ho' : l[i]? = some o := by simpa using ho
      have hs := all_get hstep ho'
      rw [Nat.zero_add] at hs
      obtain ⟨hQ, hP, hGG, hO⟩ := hJ
      have hdl : ∀ j, dep l.toArray l.length i j = true → φ j (f j) w1 := fun j hj => by
        have hSj := hdep j (by simpa using hj)
        refine hP j ?_ hSj
        refine Classical.byContradiction fun hge => ?_
        exact absurd hj (by rw [dep_far hB.2 l.length i j (by simpa using hge)]; exact Bool.false_ne_true)
      have hold : ∀ v j, upd S i true j = false → upd f i v j = old a l j := fun v j hSj => by
        unfold upd at hSj ⊢
        by_cases e : j = i
        · rw [if_pos e] at hSj; cases hSj
        · rw [if_neg e] at hSj ⊢
          exact hO j hSj
      by_cases hic : i = c
      · subst hic
        obtain ⟨sg, sw⟩ := hs.1 rfl
        have := sw f w1 hQ hdl _ (hev f) (hsame f)
        have hdi : d ≠ i := fun e => by
          have h1 := hdep d (by simpa using hcd)
          rw [e, hSi] at h1
          cases h1
        rw [if_pos (by simp [Region.wanted, sg])]
        refine Oper.wp_mono (fun a' w2 ⟨v, e, ⟨b, hb, hS⟩, hg⟩ => ⟨v, e, hS.q hQ hb, fun j hj hSj => ?_, fun _ => ?_, hold v⟩) this
        · unfold upd at hSj ⊢
          by_cases e : j = i
          · rw [if_pos e, e]; exact hφc _ _
          · rw [if_neg e] at hSj ⊢
            exact hst _ _ _ _ _ (hP j hj hSj) hb hS
        · unfold upd
          rw [if_neg hdi]
          exact hg
      · obtain ⟨sg, sw⟩ := hs.2 hic
        have := sw f w1 hQ hdl _ (hev f) (hsame f) (fun j hj => hO j (hwait j (by simpa using hj)))
        rw [if_pos (by simp [Region.wanted, sg])]
        refine Oper.wp_mono (fun a' w2 ⟨v, e, hq, hφ⟩ => ⟨v, e, hQ.trans hq, fun j hj hSj => ?_, fun hSc => ?_, hold v⟩) this
        · unfold upd at hSj ⊢
          by_cases e : j = i
          · rw [if_pos e, e]; exact hφ
          · rw [if_neg e] at hSj ⊢
            exact hmono _ _ _ _ (hP j hj hSj) hq
        · have hSc' : S c = true := by
            unfold upd at hSc
            rw [if_neg (fun e => hic e.symm)] at hSc
            exact hSc
          have hdi : d ≠ i := fun e => by
            have h1 := hwait c (by rw [← e]; simpa using hcd)
            rw [hSc'] at h1
            cases h1
          unfold upd
          rw [if_neg hdi]
          exact hG _ _ _ (hGG hSc') hq)
    (fun S f w1 hall hJ => hend f w1 (((Q.refl w).drew).trans hJ.1) (fun j hj _ => hJ.2.1 j hj (hall j (by simpa using hj))) (hJ.2.2.1 (hall c (by simpa using hcl))))
    l.toArray.size (Array.replicate l.toArray.size false) (old a l) { w with drawn := w.drawn + 1 } (by simp) (by simp) (fun i o ho h => absurd h (by rw [getD_rep]; exact Bool.false_ne_true)) (by
      have nf : ∀ j, ¬ (Array.replicate l.toArray.size false).getD j false = true := fun j => by rw [getD_rep]; exact Bool.false_ne_true
      exact ⟨Q.refl _, fun j hj h => absurd h (nf j), fun h => absurd h (nf c), fun j _ => rfl⟩)
  rw [← hst0] at key
  exact key
def MonoB (w : World) (p : Value → World → Prop) : Prop := ∀ v b w1 w2, p v w1 → w.heap.size ≤ b → StB b w1 w2 → p v w2
theorem mono_isB {w : World} (c : Value) : MonoB w (isV c) := fun _ _ _ _ h _ _ => h
def MonoBL (w : World) : List (Value → World → Prop) → Prop
  | [] => True
  | p :: r => MonoB w p ∧ MonoBL w r
theorem phi_monoB {w : World} : ∀ {ps : List (Value → World → Prop)}, MonoBL w ps → ∀ i, MonoB w (phi ps i)
  | [], _, i => fun _ _ _ _ _ _ _ => trivial
  | p :: r, h, 0 => h.1
  | p :: r, h, i + 1 => phi_monoB (ps := r) h.2 i
end Ri
theorem cells3 {W : World} {b o : Nat} {x y z : Value} (h0 : W.cell? ⟨b, o, none⟩ = some x) (h1 : W.cell? ⟨b, o + 1, none⟩ = some y) (h2 : W.cell? ⟨b, o + 2, none⟩ = some z) : ∀ j v, [x, y, z][j]? = some v → W.cell? ⟨b, o + j, none⟩ = some v
  | 0, v, h => by simp at h; subst h; exact h0
  | 1, v, h => by simp at h; subst h; exact h1
  | 2, v, h => by simp at h; subst h; exact h2
  | j + 3, v, h => by simp at h
/-- a model goes hand in hand with a heap, as a value and as the cells of a block -/
def GoodV (w0 : World) (g : Nat) (m : HM) (bM : Nat) (v : Value) (W : World) : Prop := ∃ v', v = v'.val ∧ Sim m v'.m ∧ OR w0 W g m v' bM
def GoodT (w0 : World) (g : Nat) (m : HM) (bM : Nat) (x y : Int) (v : Value) (W : World) : Prop := ∃ v', v = .tuple #[v'.val, .int .i64 x, .int .i64 y] ∧ Sim m v'.m ∧ OR w0 W g m v' bM
def NewB (N : Nat) (v : Value) (W : World) : Prop := ∃ b, v = .pointer (some ⟨b, 0, none⟩) ∧ N ≤ b ∧ ∃ cs, cs.size = 9 ∧ W.heap[b]? = some (.cells cs MT (0, 0))
def GoodB (w0 : World) (g : Nat) (m : HM) (bM : Nat) (v : Value) (W : World) : Prop := ∃ b v', v = .pointer (some ⟨b, 0, none⟩) ∧ W.heap[b]? = some (.cells v'.cells MT (0, 0)) ∧ Sim m v'.m ∧ OR w0 W g m v' bM
theorem goodV_q (w0 : World) (g : Nat) (m : HM) (bM : Nat) : Ri.Mono (GoodV w0 g m bM) := fun _ _ _ ⟨v', e, S, O⟩ hq => ⟨v', e, S, O.q hq⟩
theorem goodT_q (w0 : World) (g : Nat) (m : HM) (bM : Nat) (x y : Int) : Ri.Mono (GoodT w0 g m bM x y) := fun _ _ _ ⟨v', e, S, O⟩ hq => ⟨v', e, S, O.q hq⟩
theorem goodB_q (w0 : World) (g : Nat) (m : HM) (bM : Nat) : ∀ v w1 w2, GoodB w0 g m bM v w1 → Q w1 w2 → GoodB w0 g m bM v w2 := fun _ _ _ ⟨b, v', e, h, S, O⟩ hq => ⟨b, v', e, (hq.below.block b (blk_lt h)).trans h, S, O.q hq⟩
theorem newB_q (N : Nat) : Ri.Mono (NewB N) := fun _ _ _ ⟨b, e, hb, cs, hs, hc⟩ hq => ⟨b, e, hb, cs, hs, (hq.below.block b (blk_lt hc)).trans hc⟩
theorem goodV_b {w0 w : World} {g : Nat} {m : HM} {bM : Nat} (hw : w0.heap.size ≤ w.heap.size) : Ri.MonoB w (GoodV w0 g m bM) := fun _ b _ _ ⟨v', e, S, O⟩ hb h => ⟨v', e, S, O.stB h (Nat.le_trans hw hb)⟩
theorem goodT_b {w0 w : World} {g : Nat} {m : HM} {bM : Nat} {x y : Int} (hw : w0.heap.size ≤ w.heap.size) : Ri.MonoB w (GoodT w0 g m bM x y) := fun _ b _ _ ⟨v', e, S, O⟩ hb h => ⟨v', e, S, O.stB h (Nat.le_trans hw hb)⟩
theorem newB_b {w : World} {N : Nat} : Ri.MonoB w (NewB N) := fun _ b _ _ ⟨b', e, hb', cs, hs, hc⟩ hb h => by
  by_cases eb : b' = b
  · obtain ⟨cs', hs', hc'⟩ := h.is
    exact ⟨b', e, hb', cs', hs', by rw [eb]; exact hc'⟩
  · exact ⟨b', e, hb', cs, hs, (h.turn.block b' (blk_lt hc) eb).trans hc⟩
end Go.Proofs.YtegpkcbmgjoicaaGreat
