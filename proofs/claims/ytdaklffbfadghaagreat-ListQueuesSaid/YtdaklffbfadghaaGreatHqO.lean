/- Live: the begins and lengths of the live blocks. Conditions: the heap reads so, it is unlocked, and its numbers are within bounds. -/
import Derived.Test.YtdaklffbfadghaaGreatHqN
namespace Go.Proofs.YtdaklffbfadghaaGreat
open Go.RowKit HP
set_option linter.unusedVariables false
theorem El_pair : El Tryz.prog 33 64 2 16 := El.of (z := .agg #[.int .i64 0, .int .i64 0]) Tryz.underlying33 (by kernel_rfl) rfl (by omega) (by omega)
def shape (x : PB) : Int × Int := (x.1, (x.2.length : Int))
def encP (p : Int × Int) : List Value := [.int .i64 p.1, .int .i64 p.2]
def stretches (m : HM) : List (Int × Int) := m.live.map shape
def LivePost (w : World) (h : Hp) (e : Ending) (w' : World) : Prop :=
  ∃ v h', e = .returned v ∧ w'.ownsRow w.heap.size 64 2 v h.bks.length ((stretches h.m).flatMap encP) ∧ Did w h w' h' ∧ h'.mu = 0 ∧ h'.m = h.m
theorem flat_take {α β : Type} (f : α → List β) (l : List α) (k : Nat) (x : α) (h : l[k]? = some x) : (l.take (k + 1)).flatMap f = (l.take k).flatMap f ++ f x := by
  rw [List.take_add_one, h]
  simp
set_option maxHeartbeats 4000000 in
set_option maxRecDepth 100000 in
theorem live_act (h : Hp) (w : World) (H : HpR w h) (I : Inv h.m) (hmu : h.mu = 0) :
    Calls Tryz.prog 12 #[h.ptr] w (LivePost w h) := by
  have c0 := H.mu0
  rw [hmu] at c0
  have f0 := H.free 0
  obtain ⟨w1, hw1⟩ : ∃ w1, w1 = w.setCell ⟨h.blk, 0, none⟩ (.int .i32 1) := ⟨_, rfl⟩
  have D1 : Did w h w1 (locked h) := by rw [hw1]; exact (Did.refl H).lock 1
  obtain ⟨r, hr⟩ : ∃ r, r = stretches h.m := ⟨_, rfl⟩
  unfold Hp.ptr
  obtain ⟨g, hg⟩ : ∃ g, g = h.blk := ⟨_, rfl⟩
  rw [← hg] at c0 f0 hw1 ⊢
  have KM : Hid (∀ W h3, Did w h W h3 → h3.blk = g → h3.mu = 1 → W.cell? ⟨g, 0, none⟩ = some (.int .i32 1) ∧ W.frozen? ⟨g, 0, none⟩ = false) := fun W h3 D e1 e2 => D.mine0 g e1.symm e2
  have HI := hide I
  have HW1 := hide hw1
  have HR := hide hr
  have HG := hide hg
  have HD1 := hide D1
  clear I H hw1 hr hg D1
  obtain ⟨A, c, -, hS, k5, hb⟩ := HD1.out.rep.open_
  have hN2 := HI.out.near.2
  have hN1 := HI.out.near.1
  have hw1s : w1.heap.size = w.heap.size := by rw [HW1.out]; simp [World.setCell]
  have FIN0 : Hid (∀ W v, Q w1 W → W.ownsRow w1.heap.size 64 2 v h.bks.length (r.flatMap encP) → LivePost w h (.returned v) (W.setCell ⟨g, 0, none⟩ (.int .i32 0))) := fun W v hq ho => by
    have D := HD1.out.q hq
    refine ⟨v, unlocked (locked h), rfl, ?_, ?_, rfl, rfl⟩
    · have ho2 := own_low ho (Nat.le_of_eq hw1s.symm)
      rw [HR.out] at ho2
      refine own_same ho2 fun b hb => heap_setCell_other _ _ _ _ ?_
      obtain ⟨cs, e⟩ := own_blk ho hb
      have := D.rep.cells
      rw [show (locked h).blk = g from HG.out.symm] at this
      exact ty_ne e this (by decide)
    · have := D.lock 0
      rw [show (locked h).blk = g from HG.out.symm] at this
      rw [HG.out] at this ⊢
      exact this
  have hrl : Hid (∀ (k : Nat) (x : Bk), h.bks[k]? = some x → r[k]? = some (shape x.pb)) := fun k x hx => by
    rw [HR.out]
    show ((h.bks.map (·.pb)).map shape)[k]? = _
    rw [List.getElem?_map, List.getElem?_map, hx]
    rfl
  have hrn : Hid (r.length = h.bks.length) := by
    rw [HR.out]
    show ((h.bks.map (·.pb)).map shape).length = _
    rw [List.length_map, List.length_map]
  rw [show (locked h).blk = g from HG.out.symm] at k5 hb
  rw [show (locked h).bks = h.bks from rfl] at hS k5
  have HS := hide hS
  have HN2 := hide hN2
  obtain ⟨n, hn⟩ : ∃ n, n = h.bks.length := ⟨_, rfl⟩
  rw [← hn] at HS k5 hN1 FIN0 hrn
  have HNN := hide hn
  have hni : (n : Int) ≤ 100 := by omega
  clear hS hN2 hn HR
  go_enter_defers Tryz.func12, Tryz.ntmps12
  go_wp2_with (go_at_call 57; refine (Go.MuLone.lock_free muLib ⟨g, 0, none⟩ _ c0 f0).mono ?_; rintro e w' ⟨rfl, rfl⟩; rw [← HW1.out])
  go_loopw [3, 21] (fun v vi wr => ∃ k : Nat, k ≤ n ∧ vi = .int .i64 (k : Int) ∧ wr.ownsRow w1.heap.size 64 2 v k ((r.take k).flatMap encP) ∧ Q w1 wr) (fun _ vi _ => n - (intOf vi).toNat)
  case atStart => exact ⟨0, by omega, by go_num, World.ownsRow_nil _ _ _ _, Q.refl _⟩
  case round =>
    obtain ⟨k, hk, rfl, hown, hq⟩ := hrel
    have hsz := hq.size
    by_cases hlt : k < n
    · have hd1 : decide ((k : Int) < (n : Int)) = true := by simp; omega
      have hd0 : decide (k < n) = true := by simp; omega
      have hlti : (k : Int) < (n : Int) := by omega
      obtain ⟨b1, o1, ⟨⟨ya, yb⟩, row, cap⟩, rfl, hb1, g1, x1, x2⟩ := (HS.out.up hq).bk k hlt
      dsimp only at x1 x2
      have hr1 := hrl.out k _ g1
      have hyl := (HN2.out _ (List.mem_of_getElem? g1)).2.2
      dsimp only at hyl
      have HT : Hid ((r.take (k + 1)).flatMap encP = (r.take k).flatMap encP ++ [.int .i64 ya, .int .i64 (yb.length : Int)]) := flat_take encP r k _ hr1
      obtain ⟨m, hm⟩ : ∃ m, m = yb.length := ⟨_, rfl⟩
      rw [← hm] at x2 hyl HT
      have hmi : (m : Int) ≤ 10000 := by omega
      obtain ⟨Ao, co, eo, ho1, ho2, ho3, -⟩ := own_form hown
      subst eo
      clear ho3 hm g1 hr1
      go_wp2_with (at_builtin; refine wpList_app1 rfl El_pair _ _ rfl rfl (hown.alloc _) (by simp) rfl rfl ?_ ?_ ?_ ?_; (focus (simp [Value.oneCell'])); (focus omega); (focus (simp; omega)); intro v1 w5 hown5 hb5)
      go_roundw
      case rel => exact ⟨k + 1, by omega, by go_num, by rw [HT.out]; exact hown5, q_below (hq.alloc _) hb5 (Nat.le_refl _)⟩
      case measure => simp [intOf] <;> omega
    · have hd1 : decide ((k : Int) < (n : Int)) = false := by simp; omega
      have hd0 : decide (k < n) = false := by simp; omega
      obtain rfl : k = n := by omega
      have hall : r.take k = r := by rw [List.take_of_length_le (by rw [hrn.out]; exact Nat.le_refl _)]
      rw [hall] at hown
      have FIN := hide (FIN0.out wr _ hq hown)
      have KMU := hide (KM.out _ _ (HD1.out.q hq) HG.out.symm rfl).1
      have KFR := hide (KM.out _ _ (HD1.out.q hq) HG.out.symm rfl).2
      clear hown hall
      go_wp2_with fail
      refine leaves_cons (f := 58) (args := #[.pointer (some ⟨g, 0, none⟩)]) (by simp) (by simp [go_sem]) ?_
      refine (Go.MuLone.unlock_deferred muLib ⟨g, 0, none⟩ .returning _ KMU.out KFR.out).mono ?_
      rintro e u' w9 ⟨rfl, rfl, rfl⟩
      refine ⟨_, results_tmp rfl _ _ _, ?_⟩
      exact FIN.out
end Go.Proofs.YtdaklffbfadghaaGreat
