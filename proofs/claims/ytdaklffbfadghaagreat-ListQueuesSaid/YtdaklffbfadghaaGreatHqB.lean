/- Alloc. Conditions: the heap reads so, it is unlocked, and its numbers are within bounds. -/
import Derived.Test.YtdaklffbfadghaaGreatHqA
import Derived.Conc.MuData
namespace Go.Proofs.YtdaklffbfadghaaGreat
open Go.RowKit HP
set_option linter.unusedVariables false
def locked (h : Hp) : Hp := { h with mu := 1 }
def unlocked (h : Hp) : Hp := { h with mu := 0 }
/-- an act with two results -/
def Act2 (r : HM × Int × Int) (w : World) (h : Hp) (e : Ending) (w' : World) : Prop :=
  ∃ h', e = .returned (.tuple #[.int .i64 r.2.1, .int .i64 r.2.2]) ∧ Did w h w' h' ∧ h'.mu = 0 ∧ h'.m = r.1
/-- an act with an error alone -/
def Act1 (r : HM × Int) (w : World) (h : Hp) (e : Ending) (w' : World) : Prop :=
  ∃ h', e = .returned (.int .i64 r.2) ∧ Did w h w' h' ∧ h'.mu = 0 ∧ h'.m = r.1
theorem HpR.mu0 {w : World} {h : Hp} (H : HpR w h) : w.cell? ⟨h.blk, 0, none⟩ = some (.int .i32 h.mu) := by rw [H.cell 0]; rfl
/-- behind the lock's release -/
theorem Did.out2 {w W : World} {h h2 : Hp} {r : HM × Int × Int} (D : Did w h W h2) (g : Nat) (hg : g = h2.blk) (hm : h2.m = r.1) : Act2 r w h (.returned (.tuple #[.int .i64 r.2.1, .int .i64 r.2.2])) (W.setCell ⟨g, 0, none⟩ (.int .i32 0)) := by
  subst hg
  exact ⟨_, rfl, D.lock 0, rfl, hm⟩
theorem Did.out1 {w W : World} {h h2 : Hp} {r : HM × Int} (D : Did w h W h2) (g : Nat) (hg : g = h2.blk) (hm : h2.m = r.1) : Act1 r w h (.returned (.int .i64 r.2)) (W.setCell ⟨g, 0, none⟩ (.int .i32 0)) := by
  subst hg
  exact ⟨_, rfl, D.lock 0, rfl, hm⟩
/-- the lock's own cell -/
theorem Did.mine0 {w W : World} {h h2 : Hp} (D : Did w h W h2) (g : Nat) (hg : g = h2.blk) (hm : h2.mu = 1) : W.cell? ⟨g, 0, none⟩ = some (.int .i32 1) ∧ W.frozen? ⟨g, 0, none⟩ = false := by
  subst hg
  exact ⟨by rw [D.rep.mu0, hm], D.rep.free 0⟩
/-- a block of new bytes, put into a heap -/
theorem did_put {w w0 W : World} {h0 h : Hp} {v : Value} {x : Bk} (D : Did w0 h0 w h) (hr : HpR W { putH h v (putK h x) x with top := takenTop h x.pb }) (ht : Turn (fun b => h.fp b ∨ b = x.row) w W) (hv : ∀ b, v.ownBlock = some b → h.lv.ownBlock = some b ∨ w.heap.size ≤ b) (hB : w0.heap.size ≤ x.row) : Did w0 h0 W { putH h v (putK h x) x with top := takenTop h x.pb } :=
  ⟨hr, D.turn.trans ht fun i hi e => by
    rcases e with e | e
    · rcases D.fp i e with e | e
      · exact e
      · omega
    · omega, D.blk, fun b e => by
    have key : h.fp b ∨ w0.heap.size ≤ b := by
      rcases e with e | e | ⟨y, hy, e⟩ | e
      · exact .inl (.inl e)
      · rcases hv b e with e | e
        · exact .inl (.inr (.inl e))
        · exact .inr (Nat.le_trans D.turn.size e)
      · rcases insAt_mem.1 hy with rfl | hy
        · exact .inr (by omega)
        · exact .inl (.inr (.inr (.inl ⟨y, hy, e⟩)))
      · exact .inl (.inr (.inr (.inr e)))
    rcases key with e | e
    · exact D.fp b e
    · exact .inr e⟩
theorem own_low {w : World} {B B' : Nat} {e : TypeId} {size : Nat} {v : Value} {n : Nat} {xs : List Value} (h : w.ownsRow B e size v n xs) (hb : B' ≤ B) : w.ownsRow B' e size v n xs := by
  refine ⟨h.1, ?_⟩
  rcases h.2 with h2 | ⟨g, cap, cur, a, b, c, d⟩
  · exact .inl h2
  · exact .inr ⟨g, cap, cur, a, by omega, c, d⟩
theorem HpR.k5 {w : World} {h : Hp} (H : HpR w h) : w.cell? ⟨h.blk, 5, none⟩ = some h.lv := by rw [H.cell 5]; rfl
theorem HpR.k6 {w : World} {h : Hp} (H : HpR w h) : w.cell? ⟨h.blk, 6, none⟩ = some h.way := by rw [H.cell 6]; rfl
theorem undefs_len (n : Nat) : (undefs n).length = n := by simp [undefs]
theorem undefs_v (n : Nat) : intsV (undefs n) = List.replicate n (.int .i64 (-1)) := by simp [intsV, undefs]

theorem room_bounds {m : HM} (hs : m.size ≤ 4096) (ht : 0 ≤ m.top) (hp : m.kind = 3 → 1 ≤ m.piece) {n al a : Int} (hn : 1 ≤ n) (hal : 1 ≤ al) (h : roomM m n al = some a) : 0 ≤ a ∧ a + n ≤ m.size := by
  have hscan : ∀ (p : Int → Bool) (lim step : Int), 0 ≤ step → ∀ (f : Nat) (a0 a : Int), 0 ≤ a0 → scanF p lim step f a0 = some a → 0 ≤ a ∧ a ≤ lim ∧ p a = true := by
    intro p lim step hst f
    induction f with
    | zero => intro a0 a _ h; simp [scanF] at h
    | succ f ih =>
      intro a0 a h0 h
      unfold scanF at h
      split at h
      · cases h
      · split at h
        · cases h; rename_i h1 h2; exact ⟨h0, by omega, h2⟩
        · exact ih _ _ (by omega) h
  unfold roomM at h
  split at h
  · have := hscan _ _ _ (by omega) _ _ _ (by omega) h
    omega
  · split at h
    · split at h
      · rename_i _ h3 _
        have := hp h3
        have := hscan _ _ _ (by omega) _ _ _ (by omega) h
        omega
      · cases h
    · split at h
      · cases h
        rename_i h4
        refine ⟨?_, h4⟩
        unfold upTo
        have h5 : 0 ≤ (m.top + al - 1) / al := Int.ediv_nonneg (by omega) (by omega)
        exact Int.mul_nonneg h5 (by omega)
      · cases h
set_option maxHeartbeats 4000000 in
set_option maxRecDepth 100000 in
theorem alloc_any (h : Hp) (n align : Int) (w : World) (H : HpR w h) (I : Inv h.m) (hmu : h.mu = 0) (hcl : h.calls < 1000000000) :
    Calls Tryz.prog 9 #[h.ptr, .int .i64 n, .int .i64 align] w (Act2 (allocM h.m n align) w h) := by
  have c0 := H.mu0
  rw [hmu] at c0
  have f0 := H.free 0
  obtain ⟨w1, hw1⟩ : ∃ w1, w1 = w.setCell ⟨h.blk, 0, none⟩ (.int .i32 1) := ⟨_, rfl⟩
  have D1 : Did w h w1 (locked h) := by rw [hw1]; exact (Did.refl H).lock 1
  obtain ⟨r, hr⟩ : ∃ r, r = allocM h.m n align := ⟨_, rfl⟩
  rw [← hr]
  have hbl := blk_lt D1.rep.cells
  unfold Hp.ptr
  obtain ⟨g, hg⟩ : ∃ g, g = h.blk := ⟨_, rfl⟩
  rw [← hg] at c0 f0 hw1 ⊢
  have HIS : Hid (∀ W, Calls Tryz.prog 59 #[.int .i64 n] W fun e w' => e = .returned (.bool (sizeB n)) ∧ W = w') := fun W => isSize_any n W
  have HIA : Hid (∀ W, Calls Tryz.prog 60 #[.int .i64 align] W fun e w' => e = .returned (.bool (alignB align)) ∧ Q W w') := fun W => isAlign_any align W
  have HCN : Hid (∀ W, HpR W (locked h) → Calls Tryz.prog 61 #[.pointer (some ⟨g, 0, none⟩)] W (CountPost W (locked h))) := by rw [hg]; exact fun W hW => counted_any (locked h) W hW ⟨I.calls, Int.le_of_lt hcl⟩ I.failIn
  have HLV : Hid (∃ A c, h.lv = .slice A h.bks.length c) := by
    obtain ⟨A, c, e, -⟩ := H.open_
    exact ⟨A, c, e⟩
  have HI := hide I
  have HW1 := hide hw1
  have HR := hide hr
  have HG := hide hg
  have HD1 := hide D1
  have HCL := hide hcl
  clear I H hw1 hr hg D1 hcl hbl
  cases hs : sizeB n
  · rw [hs] at HIS
    have KMU := hide (HD1.out.mine0 g HG.out rfl).1
    have KFR := hide (HD1.out.mine0 g HG.out rfl).2
    have hr1 : r = (h.m, 0, 1) := by rw [HR.out]; unfold allocM; simp [hs]
    have FIN := hide (HD1.out.out2 (r := r) g HG.out (by rw [hr1]; rfl))
    rw [hr1] at FIN
    dsimp only at FIN
    rw [hr1]
    clear hr1 HR hs
    go_enter_defers Tryz.func9, Tryz.ntmps9
    go_wp2_with (go_at_call 57; refine (Go.MuLone.lock_free muLib ⟨g, 0, none⟩ _ c0 f0).mono ?_; rintro e w' ⟨rfl, rfl⟩)
    refine (HIS.out _).mono ?_
    rintro e w2 ⟨rfl, rfl⟩
    go_wp2_with fail
    rw [← HW1.out]
    refine leaves_cons (f := 58) (args := #[.pointer (some ⟨g, 0, none⟩)]) (by simp) (by simp [go_sem]) ?_
    refine (Go.MuLone.unlock_deferred muLib ⟨g, 0, none⟩ .returning _ KMU.out KFR.out).mono ?_
    rintro e u' w9 ⟨rfl, rfl, rfl⟩
    refine ⟨_, results_tmp2 rfl _ _ _, ?_⟩
    exact FIN.out
  · rw [hs] at HIS
    cases ha : alignB align
    · rw [ha] at HIA
      have hr1 : r = (h.m, 0, 1) := by rw [HR.out]; unfold allocM; simp [hs, ha]
      have FIN0 : Hid (∀ W, Q w1 W → Act2 (h.m, 0, 1) w h (.returned (.tuple #[.int .i64 0, .int .i64 1])) (W.setCell ⟨g, 0, none⟩ (.int .i32 0))) := fun W hW => (HD1.out.q hW).out2 (r := (h.m, 0, 1)) g HG.out rfl
      have KM : Hid (∀ W, Q w1 W → W.cell? ⟨g, 0, none⟩ = some (.int .i32 1) ∧ W.frozen? ⟨g, 0, none⟩ = false) := fun W hW => (HD1.out.q hW).mine0 g HG.out rfl
      rw [hr1]
      clear hr1 HR hs ha
      go_enter_defers Tryz.func9, Tryz.ntmps9
      go_wp2_with (go_at_call 57; refine (Go.MuLone.lock_free muLib ⟨g, 0, none⟩ _ c0 f0).mono ?_; rintro e w' ⟨rfl, rfl⟩)
      refine (HIS.out _).mono ?_
      rintro e w2 ⟨rfl, rfl⟩
      go_wp2_with fail
      rw [← HW1.out]
      refine (HIA.out w1).mono ?_
      rintro e w3 ⟨rfl, hq3⟩
      go_wp2_with fail
      have FIN := hide (FIN0.out _ hq3)
      have KMU := hide (KM.out _ hq3).1
      have KFR := hide (KM.out _ hq3).2
      refine leaves_cons (f := 58) (args := #[.pointer (some ⟨g, 0, none⟩)]) (by simp) (by simp [go_sem]) ?_
      refine (Go.MuLone.unlock_deferred muLib ⟨g, 0, none⟩ .returning _ KMU.out KFR.out).mono ?_
      rintro e u' w9 ⟨rfl, rfl, rfl⟩
      refine ⟨_, results_tmp2 rfl _ _ _, ?_⟩
      exact FIN.out
    · rw [ha] at HIA
      have hk : ∃ k : Nat, n = (k : Int) ∧ 1 ≤ k ∧ k ≤ 4096 := by
        unfold sizeB at hs
        simp at hs
        exact ⟨n.toNat, by omega, by omega, by omega⟩
      obtain ⟨k, rfl, hk1, hk2⟩ := hk
      obtain ⟨bf, hbf⟩ : ∃ bf, bf = (h.failIn == 1) := ⟨_, rfl⟩
      -- what holds behind counted
      obtain ⟨h2, hh2⟩ : ∃ h2, h2 = countH (locked h) := ⟨_, rfl⟩
      have hm2 : h2.m = countM h.m := by rw [hh2]; rfl
      have I2 : Inv h2.m := by rw [hm2]; exact HI.out.count
      have hb2 : h2.blk = g := by rw [hh2, HG.out]; rfl
      have hmu2 : h2.mu = 1 := by rw [hh2]; rfl
      have hcl2 : h2.calls ≤ 1000000000 := by rw [hh2]; have := HCL.out; show h.calls + 1 ≤ _; omega
      have HC4 : Hid (∀ W, Q w1 W → Calls Tryz.prog 61 #[.pointer (some ⟨g, 0, none⟩)] W fun e w' => e = .returned (.bool bf) ∧ Did w h w' h2) := fun W hq => (HCN.out W (HD1.out.rep.q hq)).mono fun e w' hc => by
        obtain ⟨he, hd⟩ := hc
        refine ⟨by rw [he, hbf]; rfl, ?_⟩
        rw [hh2]
        exact (HD1.out.q hq).trans hd
      have FLS : Hid (allocM h.m k align = (countM h.m, 0, 3) → ∀ W, Did w h W h2 → Act2 r w h (.returned (.tuple #[.int .i64 0, .int .i64 3])) (W.setCell ⟨g, 0, none⟩ (.int .i32 0))) := fun e W D => by
        rw [HR.out, e]
        exact D.out2 (r := (countM h.m, 0, 3)) g hb2.symm hm2
      have KM : Hid (∀ W h3, Did w h W h3 → h3.blk = g → h3.mu = 1 → W.cell? ⟨g, 0, none⟩ = some (.int .i32 1) ∧ W.frozen? ⟨g, 0, none⟩ = false) := fun W h3 D e1 e2 => D.mine0 g e1.symm e2
      have HM2 := hide hm2
      have HI2 := hide I2
      have HB2 := hide hb2
      have HMU2 := hide hmu2
      have HCL2 := hide hcl2
      have HBF := hide hbf
      have HS := hide hs
      have HA := hide ha
      clear hm2 I2 hb2 hmu2 hcl2 hbf hs ha HCN
      cases bf
      rotate_left
      · have FIN0 := hide (FLS.out (by unfold allocM; simp only [HS.out, HA.out]; rw [if_neg (by simp), if_pos (.inl (show h.failIn = 1 from by have := HBF.out; simpa using this.symm))]))
        clear HR hh2
        go_enter_defers Tryz.func9, Tryz.ntmps9
        go_wp2_with (go_at_call 57; refine (Go.MuLone.lock_free muLib ⟨g, 0, none⟩ _ c0 f0).mono ?_; rintro e w' ⟨rfl, rfl⟩)
        refine (HIS.out _).mono ?_
        rintro e w2 ⟨rfl, rfl⟩
        go_wp2_with fail
        rw [← HW1.out]
        refine (HIA.out w1).mono ?_
        rintro e w3 ⟨rfl, hq3⟩
        go_wp2_with fail
        refine (HC4.out w3 hq3).mono ?_
        rintro e w4 ⟨rfl, hd4⟩
        have FIN := hide (FIN0.out _ hd4)
        have KMU := hide (KM.out _ _ hd4 HB2.out HMU2.out).1
        have KFR := hide (KM.out _ _ hd4 HB2.out HMU2.out).2
        clear hd4
        go_wp2_with fail
        refine leaves_cons (f := 58) (args := #[.pointer (some ⟨g, 0, none⟩)]) (by simp) (by simp [go_sem]) ?_
        refine (Go.MuLone.unlock_deferred muLib ⟨g, 0, none⟩ .returning _ KMU.out KFR.out).mono ?_
        rintro e u' w9 ⟨rfl, rfl, rfl⟩
        refine ⟨_, results_tmp2 rfl _ _ _, ?_⟩
        exact FIN.out
      · have hnf : ¬ h.m.failIn = 1 := by have := HBF.out; have e : h.m.failIn = h.failIn := rfl; rw [e]; intro hx; rw [hx] at this; exact absurd this (by decide)
        obtain ⟨N, hN⟩ : ∃ N, N = h2.bks.length := ⟨_, rfl⟩
        have hNm : h.m.live.length = N := by
          have e : h2.m.live.length = h.m.live.length := by rw [HM2.out]; rfl
          rw [← e, hN]
          exact List.length_map _
        have hlv : ∃ A c, h2.lv = .slice A N c := by
          obtain ⟨A, c, e⟩ := HLV.out
          rw [hN, hh2]
          exact ⟨A, c, e⟩
        obtain ⟨A5, c5, hlv⟩ := hlv
        have K5 : Hid (∀ W, Did w h W h2 → W.cell? ⟨g, 5, none⟩ = some (.slice A5 N c5)) := fun W D => by
          have := D.rep.k5
          rw [HB2.out, hlv] at this
          exact this
        have hN64 : N ≤ 64 := by have := HI.out.len; omega
        have HNM := hide hNm
        have HNF := hide hnf
        have HN := hide hN
        clear hN hNm hnf hlv hh2
        by_cases h64 : N = 64
        · have FIN0 := hide (FLS.out (by unfold allocM; simp only [HS.out, HA.out]; rw [if_neg (by simp), if_pos (.inr (by rw [HNM.out, h64]))]))
          clear HR HNM HNF HN hN64
          subst h64
          have h64' : (((64 : Nat) : Int) == 64) = true := by decide
          go_enter_defers Tryz.func9, Tryz.ntmps9
          go_wp2_with (go_at_call 57; refine (Go.MuLone.lock_free muLib ⟨g, 0, none⟩ _ c0 f0).mono ?_; rintro e w' ⟨rfl, rfl⟩)
          refine (HIS.out _).mono ?_
          rintro e w2 ⟨rfl, rfl⟩
          go_wp2_with fail
          rw [← HW1.out]
          refine (HIA.out w1).mono ?_
          rintro e w3 ⟨rfl, hq3⟩
          go_wp2_with fail
          refine (HC4.out w3 hq3).mono ?_
          rintro e w4 ⟨rfl, hd4⟩
          have k5 := K5.out _ hd4
          have FIN := hide (FIN0.out _ hd4)
          have KMU := hide (KM.out _ _ hd4 HB2.out HMU2.out).1
          have KFR := hide (KM.out _ _ hd4 HB2.out HMU2.out).2
          clear hd4
          go_wp2_with fail
          refine leaves_cons (f := 58) (args := #[.pointer (some ⟨g, 0, none⟩)]) (by simp) (by simp [go_sem]) ?_
          refine (Go.MuLone.unlock_deferred muLib ⟨g, 0, none⟩ .returning _ KMU.out KFR.out).mono ?_
          rintro e u' w9 ⟨rfl, rfl, rfl⟩
          refine ⟨_, results_tmp2 rfl _ _ _, ?_⟩
          exact FIN.out
        · obtain ⟨fR, rcvR, ⟨ty, v, hway, hmeth, hent⟩, hroom⟩ := room_any h2 (HI2.out.ok HCL2.out)
          have K6 : Hid (∀ W, Did w h W h2 → W.cell? ⟨g, 6, none⟩ = some (.iface ty v)) := fun W D => by
            have := D.rep.k6
            rw [HB2.out, hway] at this
            exact this
          obtain ⟨ro, hro⟩ : ∃ ro, ro = roomM h2.m (k : Int) align := ⟨_, rfl⟩
          have hal : 1 ≤ align ∧ align ≤ 16 := by
            have := HA.out
            unfold alignB at this
            simp at this
            omega
          have HRM : Hid (∀ W, HpR W h2 → Calls Tryz.prog fR #[rcvR, .int .i64 (k : Int), .int .i64 align] W (RoomPost ro W)) := fun W hW => by
            rw [hro]
            exact hroom (k : Int) align W hW (by omega) (by omega) hal.1 hal.2
          have h64' : ((N : Int) == 64) = false := by simp; omega
          have HRO := hide hro
          clear hroom hway hro hal
          cases ro with
          | none =>
            have FIN0 := hide (FLS.out (by unfold allocM; simp only [HS.out, HA.out]; rw [if_neg (by simp), if_neg (by rintro (h | h); exact HNF.out h; exact h64 (HNM.out.symm.trans h)), ← HM2.out, ← HRO.out]))
            clear HR HNM HNF HN hN64 HRO h64
            go_enter_defers Tryz.func9, Tryz.ntmps9
            go_wp2_with (go_at_call 57; refine (Go.MuLone.lock_free muLib ⟨g, 0, none⟩ _ c0 f0).mono ?_; rintro e w' ⟨rfl, rfl⟩)
            refine (HIS.out _).mono ?_
            rintro e w2 ⟨rfl, rfl⟩
            go_wp2_with fail
            rw [← HW1.out]
            refine (HIA.out w1).mono ?_
            rintro e w3 ⟨rfl, hq3⟩
            go_wp2_with fail
            refine (HC4.out w3 hq3).mono ?_
            rintro e w4 ⟨rfl, hd4⟩
            have k5 := K5.out _ hd4
            have k6 := K6.out _ hd4
            have HD4 := hide hd4
            clear hd4
            go_wp2_with fail
            refine (HRM.out w4 HD4.out.rep).mono ?_
            rintro e w5 ⟨a, ok, rfl, hok, -, hq5⟩
            obtain rfl : ok = false := hok
            have hd5 := HD4.out.q hq5
            have FIN := hide (FIN0.out _ hd5)
            have KMU := hide (KM.out _ _ hd5 HB2.out HMU2.out).1
            have KFR := hide (KM.out _ _ hd5 HB2.out HMU2.out).2
            clear hd5
            go_wp2_with fail
            refine leaves_cons (f := 58) (args := #[.pointer (some ⟨g, 0, none⟩)]) (by simp) (by simp [go_sem]) ?_
            refine (Go.MuLone.unlock_deferred muLib ⟨g, 0, none⟩ .returning _ KMU.out KFR.out).mono ?_
            rintro e u' w9 ⟨rfl, rfl, rfl⟩
            refine ⟨_, results_tmp2 rfl _ _ _, ?_⟩
            exact FIN.out
          | some a0 =>
            have hr1 : allocM h.m k align = (noteM (putM (countM h.m) (a0, undefs k)), a0, 0) := by
              unfold allocM
              simp only [HS.out, HA.out]
              rw [if_neg (by simp), if_neg (by rintro (h | h); exact HNF.out h; exact h64 (HNM.out.symm.trans h)), ← HM2.out, ← HRO.out]
              rfl
            obtain ⟨ha0, ha1⟩ : 0 ≤ a0 ∧ a0 + (k : Int) ≤ h2.m.size := room_bounds HI2.out.fit.sz.2 HI2.out.top.1 (fun e => (HI2.out.piece e).1) (n := (k : Int)) (al := align) (by omega) (by have := HA.out; unfold alignB at this; simp at this; omega) HRO.out.symm
            have hsz := HI2.out.fit.sz.2
            have hmax : maxLen ≥ 4096 := by simp only [maxLen]; omega
            have HFR : Hid (∀ W, Calls Tryz.prog 63 #[.int .i64 (k : Int)] W (RepPost k (.int .i64 (-1)) W)) := fun W => fresh_any k W (by omega)
            have HPT : Hid (∀ W w5 g1, Q w5 W → Did w h w5 h2 → W.ownsRow w5.heap.size 3 1 (.slice (some ⟨g1, 0, none⟩) k k) k (List.replicate k (.int .i64 (-1))) → Calls Tryz.prog 62 #[.pointer (some ⟨g, 0, none⟩), .agg #[.int .i64 a0, .slice (some ⟨g1, 0, none⟩) k k]] W fun e w' =>
                e = .returned (.tuple #[]) ∧ ∃ h3, Did w h w' h3 ∧ h3.blk = g ∧ h3.mu = 1 ∧ h3.m = putM (countM h.m) (a0, undefs k) ∧ Near h3.bks) := fun W w5 g1 hq D hown => by
              have hrow := (hown.lt g1 rfl).1
              have e1 : (⟨(a0, undefs k), g1, k⟩ : Bk).bv = .slice (some ⟨g1, 0, none⟩) k k := by unfold Bk.bv; simp [undefs_len]
              have HW := D.rep.q hq
              have h1 := put_any h2 ⟨(a0, undefs k), g1, k⟩ W HW HI2.out.kind (by have := HI2.out.len; simp only [Hp.m, List.length_map] at this; omega) HI2.out.fit ha0 (by show a0 ≤ 10000; omega) (by show (undefs k).length ≤ 10000; rw [undefs_len]; omega)
                (by show W.ownsRow 0 3 1 _ (undefs k).length (intsV (undefs k)); rw [e1, undefs_len, undefs_v]; exact own_low hown (Nat.zero_le _))
                (fun z hz e => by
                  have := D.rep.lt z.row (.inr (.inr (.inl ⟨z, hz, rfl⟩)))
                  have e : z.row = g1 := e
                  omega)
              rw [e1] at h1
              unfold Hp.ptr at h1
              rw [HB2.out] at h1
              refine h1.mono ?_
              rintro e w' ⟨rfl, v1, hR, hT, hv⟩
              refine ⟨rfl, _, did_put (D.q hq) hR hT hv (by have := D.turn.size; show _ ≤ g1; omega), HB2.out, HMU2.out, ?_, ?_⟩
              · rw [m_put, HM2.out]
              · obtain ⟨n1, n2⟩ := HI2.out.near
                refine ⟨?_, fun x hx => ?_⟩
                · show (insAt h2.bks _ [_]).length ≤ 100
                  rw [(insAt_perm _ _ _).length_eq]
                  have := HI2.out.len
                  simp only [Hp.m, List.length_map] at this
                  simp
                  omega
                · rcases insAt_mem.1 hx with rfl | hx
                  · refine ⟨ha0, ?_, ?_⟩
                    · show a0 ≤ 10000
                      omega
                    · show (undefs k).length ≤ 10000
                      rw [undefs_len]
                      omega
                  · exact n2 x hx
            have HNT : Hid (∀ W h3, HpR W h3 → h3.blk = g → Near h3.bks → Calls Tryz.prog 64 #[.pointer (some ⟨g, 0, none⟩)] W (NotePost W h3)) := fun W h3 hR e hn => by
              have := note_any h3 W hR hn
              unfold Hp.ptr at this
              rw [e] at this
              exact this
            have FIN0 : Hid (∀ W W' h3, Did w h W h3 → h3.blk = g → h3.m = putM (countM h.m) (a0, undefs k) → Did W h3 W' { h3 with peak := max h3.peak (used (h3.bks.map (·.pb))) } → Act2 r w h (.returned (.tuple #[.int .i64 a0, .int .i64 0])) (W'.setCell ⟨g, 0, none⟩ (.int .i32 0))) := fun W W' h3 D e e2 D2 => by
              rw [HR.out, hr1]
              refine (D.trans D2).out2 (r := (noteM (putM (countM h.m) (a0, undefs k)), a0, 0)) g e.symm ?_
              rw [m_note, e2]
            clear HR HNM HNF HN hN64 HRO h64 hr1 hsz hmax ha0 ha1
            go_enter_defers Tryz.func9, Tryz.ntmps9
            go_wp2_with (go_at_call 57; refine (Go.MuLone.lock_free muLib ⟨g, 0, none⟩ _ c0 f0).mono ?_; rintro e w' ⟨rfl, rfl⟩)
            refine (HIS.out _).mono ?_
            rintro e w2 ⟨rfl, rfl⟩
            go_wp2_with fail
            rw [← HW1.out]
            refine (HIA.out w1).mono ?_
            rintro e w3 ⟨rfl, hq3⟩
            go_wp2_with fail
            refine (HC4.out w3 hq3).mono ?_
            rintro e w4 ⟨rfl, hd4⟩
            have k5 := K5.out _ hd4
            have k6 := K6.out _ hd4
            have HD4 := hide hd4
            clear hd4
            go_wp2_with fail
            refine (HRM.out w4 HD4.out.rep).mono ?_
            rintro e w5 ⟨a, ok, rfl, hok, hae, hq5⟩
            obtain rfl : ok = true := hok
            obtain rfl := hae _ rfl
            have HD5 := hide (HD4.out.q hq5)
            go_wp2_with fail
            refine (HFR.out w5).mono ?_
            rintro e w6 ⟨g1, rfl, hown6, hq6⟩
            have HO6 := hide hown6
            clear hown6
            go_wp2_with fail
            refine (HPT.out w6 w5 g1 hq6 HD5.out HO6.out).mono ?_
            rintro e w7 ⟨rfl, h3, hd7, hb7, hm7, hmm7, hn7⟩
            have HD7 := hide hd7
            have HMM7 := hide hmm7
            have HNR7 := hide hn7
            have HB7 := hide hb7
            have HM7 := hide hm7
            clear hd7 hmm7 hn7 hb7 hm7
            go_wp2_with fail
            refine (HNT.out w7 h3 HD7.out.rep HB7.out HNR7.out).mono ?_
            rintro e w8 ⟨rfl, hd8⟩
            have FIN := hide (FIN0.out _ _ _ HD7.out HB7.out HMM7.out hd8)
            have KMU := hide (KM.out _ _ (HD7.out.trans hd8) HB7.out HM7.out).1
            have KFR := hide (KM.out _ _ (HD7.out.trans hd8) HB7.out HM7.out).2
            clear hd8
            go_wp2_with fail
            refine leaves_cons (f := 58) (args := #[.pointer (some ⟨g, 0, none⟩)]) (by simp) (by simp [go_sem]) ?_
            refine (Go.MuLone.unlock_deferred muLib ⟨g, 0, none⟩ .returning _ KMU.out KFR.out).mono ?_
            rintro e u' w9 ⟨rfl, rfl, rfl⟩
            refine ⟨_, results_tmp2 rfl _ _ _, ?_⟩
            exact FIN.out
end Go.Proofs.YtdaklffbfadghaaGreat
