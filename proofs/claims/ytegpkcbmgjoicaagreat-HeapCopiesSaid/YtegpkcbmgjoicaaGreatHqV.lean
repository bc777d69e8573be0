/- The acts of a script as they come in; long; the live blocks as a list. Conditions: as each theorem says. -/
import Derived.Test.YtegpkcbmgjoicaaGreatHqU
import Derived.Test.YtegpkcbmgjoicaaGreatChecked
namespace Go.Proofs.YtegpkcbmgjoicaaGreat
open Go.RowKit HP
set_option linter.unusedVariables false
abbrev Ask3 := Int × Int × Int
def encA (p : Ask3) : List Value := [.int .i64 p.1, .int .i64 p.2.1, .int .i64 p.2.2]
def okI (_ : World) (a : Int) : Prop := (Lit.int .i64 a).wf = true
def okA (_ : World) (p : Ask3) : Prop := (Lit.int .i64 p.1).wf = true ∧ (Lit.int .i64 p.2.1).wf = true ∧ (Lit.int .i64 p.2.2).wf = true
theorem rdI64 : Rdr Tryz.prog 3 1 (encI .i64) okI := Rdr.int Tryz.underlying3 (by kernel_rfl)
theorem rdAsk : Rdr Tryz.prog 40 3 encA okA :=
  Rdr.struct Tryz.underlying40 (by kernel_rfl) (by
    refine RdrF.cons (i := 0) (off := 0) (k := 1) (k' := 2) (enc := encI .i64) (enc' := fun p : Int × Int => encI .i64 p.1 ++ encI .i64 p.2) (ok := okI) (ok' := fun (w : World) (p : Int × Int) => okI w p.1 ∧ okI w p.2) (f := _) (hf := rfl) ?_ ?_ ?_
    · rfl
    · exact rdI64
    refine RdrF.cons (i := 1) (off := 1) (k := 1) (k' := 1) (enc := encI .i64) (enc' := encI .i64) (ok := okI) (ok' := okI) (f := _) (hf := rfl) ?_ ?_ ?_
    · rfl
    · exact rdI64
    refine RdrF.one (f := _) (hf := rfl) ?_ ?_
    · rfl
    exact rdI64)
instance : Inhabited Ask3 := ⟨(0, 0, 0)⟩
theorem rdAsks : Rdr Tryz.prog 24 1 (encV (α := Ask3)) (SlOk 3 encA okA) :=
  Rdr.slice' rdAsk (by decide) Tryz.underlying24 (by kernel_rfl) (show Tryz.prog.bytesOf 40 = 24 by kernel_rfl) (by decide)
theorem okI_b {w : World} {a : Int} (h : okI w a) : -9223372036854775808 ≤ a ∧ a ≤ 9223372036854775807 := by
  unfold okI at h
  simp [Lit.wf, IntKind.min, IntKind.max, IntKind.bits, IntKind.signed] at h
  omega
/-- an act, as it lies -/
theorem Sl.ask {w : World} {A : Option Addr} {n c : Nat} {xs : List Ask3} (h : Sl 3 encA w A n c xs) (i : Nat) (hi : i < n) :
    ∃ b o op a1 b1, A = some ⟨b, o, none⟩ ∧ b < w.heap.size ∧ xs[i]? = some (op, a1, b1) ∧ w.cell? ⟨b, o + i * 3, none⟩ = some (.int .i64 op) ∧ w.cell? ⟨b, o + i * 3 + 1, none⟩ = some (.int .i64 a1) ∧ w.cell? ⟨b, o + i * 3 + 2, none⟩ = some (.int .i64 b1) := by
  obtain ⟨b, o, ⟨op, a1, b1⟩, e, hb, hx, hc⟩ := h.at_ (fun _ => rfl) (by decide) i hi
  exact ⟨b, o, op, a1, b1, e, hb, hx, by simpa using hc 0 _ rfl, hc 1 _ rfl, hc 2 _ rfl⟩
theorem long_any (A : Option Addr) (n c : Nat) (w : World) (hn : n ≤ 140737488351232) : Calls Tryz.prog 7 #[.slice A n c] w fun e w' => e = .returned (.bool (decide (320 < n))) ∧ Q w w' := by
  cases hd : decide (320 < n)
  · have hd2 : decide ((320 : Int) < (n : Int)) = false := by simp at hd ⊢; omega
    go_enter Tryz.func7, Tryz.ntmps7
    go_wp2_with fail
    go_ret
    exact ⟨rfl, (by repeat (first | exact Q.refl _ | assumption | refine Q.drew ?_ | refine Q.drewN ?_ _ | refine Q.alloc ?_ _ | refine Q.set ?_ (by first | (simp; done) | (simp; omega) | omega) _ | refine Q.trans ?_ (by assumption)))⟩
  · have hd2 : decide ((320 : Int) < (n : Int)) = true := by simp at hd ⊢; omega
    go_enter Tryz.func7, Tryz.ntmps7
    go_wp2_with fail
    go_ret
    exact ⟨rfl, (by repeat (first | exact Q.refl _ | assumption | refine Q.drew ?_ | refine Q.drewN ?_ _ | refine Q.alloc ?_ _ | refine Q.set ?_ (by first | (simp; done) | (simp; omega) | omega) _ | refine Q.trans ?_ (by assumption)))⟩
/-- a stretch, as it lies -/
theorem Sl.str {w : World} {A : Option Addr} {n c : Nat} {xs : List (Int × Int)} (h : Sl 2 encP w A n c xs) (i : Nat) (hi : i < n) :
    ∃ b o a1 b1, A = some ⟨b, o, none⟩ ∧ b < w.heap.size ∧ xs[i]? = some (a1, b1) ∧ w.cell? ⟨b, o + i * 2, none⟩ = some (.int .i64 a1) ∧ w.cell? ⟨b, o + i * 2 + 1, none⟩ = some (.int .i64 b1) := by
  obtain ⟨b, o, ⟨a1, b1⟩, e, hb, hx, hc⟩ := h.at_ (fun _ => rfl) (by decide) i hi
  exact ⟨b, o, a1, b1, e, hb, hx, by simpa using hc 0 _ rfl, hc 1 _ rfl⟩
def sumS : List (Int × Int) → Int
  | [] => 0
  | x :: r => x.2 + sumS r
theorem sumS_take (l : List (Int × Int)) : ∀ (k : Nat) (x : Int × Int), l[k]? = some x → sumS (l.take (k + 1)) = sumS (l.take k) + x.2 := by
  induction l with
  | nil => intro k x h; simp at h
  | cons y l ih =>
    intro k x h
    cases k with
    | zero => simp at h; subst h; simp [sumS]
    | succ k =>
      simp at h
      rw [List.take_succ_cons, List.take_succ_cons]
      simp only [sumS]
      rw [ih k x h]
      omega
theorem sumS_used (l : List PB) : sumS (l.map shape) = used l := by
  induction l with
  | nil => rfl
  | cons x l ih => simp only [List.map_cons, sumS, used, ih]; rfl
theorem sumS_le (l : List (Int × Int)) (h : ∀ x ∈ l, 0 ≤ x.2) : ∀ k, 0 ≤ sumS (l.take k) ∧ sumS (l.take k) ≤ sumS l := by
  induction l with
  | nil => intro k; simp [sumS]
  | cons x l ih =>
    intro k
    have hx := h x (by simp)
    have h1 := ih (fun y hy => h y (by simp [hy]))
    cases k with
    | zero =>
      have := (h1 l.length).2
      have h0 := (h1 l.length).1
      rw [List.take_length] at h0
      simp only [List.take_zero, sumS]
      omega
    | succ k =>
      have := h1 k
      simp only [List.take_succ_cons, sumS]
      omega
/-- what the live blocks are -/
theorem str_facts {m : HM} (I : Inv m) {k : Nat} {a b : Int} (h : (stretches m)[k]? = some (a, b)) : 0 ≤ a ∧ 1 ≤ b ∧ a + b ≤ m.size ∧ (∀ p q, 0 < k → (stretches m)[k - 1]? = some (p, q) → p + q ≤ a) := by
  unfold stretches at h ⊢
  rw [List.getElem?_map] at h
  cases hx : m.live[k]? with
  | none => rw [hx] at h; cases h
  | some x =>
    rw [hx] at h
    have e : shape x = (a, b) := Option.some.inj h
    unfold shape at e
    injection e with e1 e2
    have hin := I.fit.inn x (List.mem_of_getElem? hx)
    unfold pend at hin
    refine ⟨by omega, by omega, by omega, fun p q hk hp => ?_⟩
    rw [List.getElem?_map] at hp
    cases hy : m.live[k - 1]? with
    | none => rw [hy] at hp; cases hp
    | some y =>
      rw [hy] at hp
      have e' : shape y = (p, q) := Option.some.inj hp
      unfold shape at e'
      injection e' with e3 e4
      have := (I.fit.lt hy hx (by omega)).2
      unfold pend at this
      omega
theorem alloc_ok2 {m : HM} (I : Inv m) {n al : Int} (h : (allocM m n al).2.2 = 0) : (allocM m n al).2.1 % al = 0 ∧ 1 ≤ al ∧ al ≤ 16 ∧ 0 ≤ (allocM m n al).2.1 ∧ (allocM m n al).2.1 ≤ 4096 := by
  have h1 := alloc_ok I h
  unfold allocM at h h1 ⊢
  split at h
  · cases h
  · rename_i hc
    rw [if_neg hc] at h1 ⊢
    split at h
    · cases h
    · rename_i hf
      rw [if_neg hf] at h1 ⊢
      have hnal : 1 ≤ n ∧ 1 ≤ al ∧ al ≤ 16 := by
        unfold sizeB alignB at hc
        simp at hc
        omega
      split at h
      · cases h
      · rename_i a hr
        rw [hr] at h1
        obtain ⟨r1, r2, -⟩ := room_spec I.count hnal.1 hnal.2.1 hr
        have := I.fit.sz
        exact ⟨h1.1, hnal.2.1, hnal.2.2, r1, by show a ≤ 4096; have r2 : a + n ≤ m.size := r2; omega⟩
theorem str_len {m : HM} : (stretches m).length = m.live.length := by unfold stretches; simp
end Go.Proofs.YtegpkcbmgjoicaaGreat
