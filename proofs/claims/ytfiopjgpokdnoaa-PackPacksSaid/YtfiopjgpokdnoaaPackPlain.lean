/- The three digests in plain Lean: how each goes on with a byte, that both ways of the cyclic sum are one, and that one byte that differs makes each differ. Conditions: bytes are below 256. -/
import Derived.KernelRfl
import Derived.Laws.BitsAllLaws
namespace Go.Proofs.Ytfiopjgpokdnoaa.PP

def sStep (s : Nat × Nat) (c : Nat) : Nat × Nat := ((s.1 + c) % 65521, (s.2 + (s.1 + c) % 65521) % 65521)
def sumF (l : List Nat) : Nat × Nat := l.foldl sStep (1, 0)
def cb (t : Nat) : Nat := if t % 2 = 1 then t / 2 ^^^ 3988292384 else t / 2
def cbs : Nat → Nat → Nat
  | 0, t => t
  | k + 1, t => cbs k (cb t)
def cStep (x c : Nat) : Nat := cbs 8 (x ^^^ c)
def cycF (l : List Nat) : Nat := l.foldl cStep 4294967295
/-- bit by bit -/
def rb (n bit : Nat) : Nat := if n % 2 = bit then n / 2 else n / 2 ^^^ 3988292384
def rbs (c : Nat) : Nat → Nat → Nat
  | 0, n => n
  | k + 1, n => rb (rbs c k n) (c / 2 ^ k % 2)
def mStep (x c : Nat) : Nat := (x ^^^ c) * 16777619 % 4294967296
def mixF (l : List Nat) : Nat := l.foldl mStep 2166136261

theorem sumF_bd (l : List Nat) : (sumF l).1 < 65521 ∧ (sumF l).2 < 65521 := by
  unfold sumF
  have : ∀ (l : List Nat) (s : Nat × Nat), s.1 < 65521 ∧ s.2 < 65521 → (l.foldl sStep s).1 < 65521 ∧ (l.foldl sStep s).2 < 65521 := by
    intro l
    induction l with
    | nil => exact fun s h => h
    | cons c l ih => exact fun s h => ih _ ⟨Nat.mod_lt _ (by omega), Nat.mod_lt _ (by omega)⟩
  exact this l _ ⟨by decide, by decide⟩
theorem xor_lt32 {a b : Nat} (ha : a < 4294967296) (hb : b < 4294967296) : a ^^^ b < 4294967296 := Nat.xor_lt_two_pow (n := 32) ha hb
theorem cb_lt {t : Nat} (h : t < 4294967296) : cb t < 4294967296 := by
  unfold cb
  split
  · exact xor_lt32 (by omega) (by omega)
  · omega
theorem cbs_lt : ∀ (k : Nat) {t : Nat}, t < 4294967296 → cbs k t < 4294967296
  | 0, _, h => h
  | k + 1, _, h => cbs_lt k (cb_lt h)
theorem cStep_lt {x c : Nat} (hx : x < 4294967296) (hc : c < 256) : cStep x c < 4294967296 := cbs_lt 8 (xor_lt32 hx (by omega))
theorem foldl_lt {f : Nat → Nat → Nat} (hf : ∀ x c, x < 4294967296 → c < 256 → f x c < 4294967296) : ∀ (l : List Nat) (x : Nat), x < 4294967296 → (∀ c ∈ l, c < 256) → l.foldl f x < 4294967296
  | [], _, h, _ => h
  | c :: l, x, h, hl => foldl_lt hf l _ (hf x c h (hl c (List.mem_cons_self ..))) (fun d hd => hl d (List.mem_cons_of_mem _ hd))
theorem cycF_lt (l : List Nat) (hl : ∀ c ∈ l, c < 256) : cycF l < 4294967296 := foldl_lt (fun _ _ => cStep_lt) l _ (by omega) hl
theorem mStep_lt (x c : Nat) : mStep x c < 4294967296 := Nat.mod_lt _ (by omega)
theorem mixF_lt (l : List Nat) (hl : ∀ c ∈ l, c < 256) : mixF l < 4294967296 := foldl_lt (fun x c _ _ => mStep_lt x c) l _ (by omega) hl

/-! ### both ways of the cyclic sum -/
theorem rb_lt {n bit : Nat} (h : n < 4294967296) : rb n bit < 4294967296 := by
  unfold rb
  split
  · omega
  · exact xor_lt32 (by omega) (by omega)
theorem xor_half (a b : Nat) : (a ^^^ b) / 2 = a / 2 ^^^ b / 2 := by
  have := Nat.xor_div_two_pow (a := a) (b := b) (n := 1)
  simpa using this
theorem xor_mod2 (a b : Nat) : (a ^^^ b) % 2 = if a % 2 = b % 2 then 0 else 1 := by
  have h : (a ^^^ b) % 2 ^ 1 = a % 2 ^ 1 ^^^ b % 2 ^ 1 := Nat.xor_mod_two_pow ..
  simp only [Nat.pow_one] at h
  rw [h]
  have ha := Nat.mod_lt a (show 0 < 2 by omega)
  have hb := Nat.mod_lt b (show 0 < 2 by omega)
  generalize a % 2 = u at *
  generalize b % 2 = v at *
  have hu : u = 0 ∨ u = 1 := by omega
  have hv : v = 0 ∨ v = 1 := by omega
  rcases hu with rfl | rfl <;> rcases hv with rfl | rfl <;> rfl
theorem cb_xor (s c : Nat) : cb (s ^^^ c) = rb s (c % 2) ^^^ (c / 2) := by
  unfold cb rb
  rw [xor_mod2, xor_half]
  by_cases h : s % 2 = c % 2
  · simp [h]
  · simp only [h, if_false, if_true]
    rw [Nat.xor_assoc, Nat.xor_comm (c / 2), ← Nat.xor_assoc]
theorem cbs_succ (k : Nat) : ∀ t, cbs (k + 1) t = cb (cbs k t) := by
  induction k with
  | zero => intro t; rfl
  | succ k ih => intro t; show cbs (k + 1) (cb t) = _; rw [ih]; rfl
theorem cbs_rbs (x c : Nat) : ∀ k, cbs k (x ^^^ c) = rbs c k x ^^^ (c / 2 ^ k)
  | 0 => by simp [cbs, rbs]
  | k + 1 => by
    rw [cbs_succ, cbs_rbs x c k, cb_xor, Nat.div_div_eq_div_mul, ← Nat.pow_succ]
    rfl
theorem cStep_rbs (x c : Nat) (hc : c < 256) : cStep x c = rbs c 8 x := by
  unfold cStep
  rw [cbs_rbs, Nat.div_eq_of_lt (by simpa using hc), Nat.xor_zero]
theorem rbs_lt (c : Nat) : ∀ (k : Nat) {n : Nat}, n < 4294967296 → rbs c k n < 4294967296
  | 0, _, h => h
  | k + 1, _, h => rb_lt (rbs_lt c k h)

/-! ### one byte that differs -/
theorem foldl_ne {α : Type} {f : α → Nat → α} (ok : α → Prop) (hok : ∀ x c, ok x → c < 256 → ok (f x c)) (hf : ∀ x y c, ok x → ok y → c < 256 → f x c = f y c → x = y) :
    ∀ (l : List Nat) (x y : α), ok x → ok y → (∀ c ∈ l, c < 256) → x ≠ y → l.foldl f x ≠ l.foldl f y
  | [], _, _, _, _, _, h => h
  | c :: l, x, y, hx, hy, hl, h => foldl_ne ok hok hf l _ _ (hok x c hx (hl c (List.mem_cons_self ..))) (hok y c hy (hl c (List.mem_cons_self ..))) (fun d hd => hl d (List.mem_cons_of_mem _ hd))
      (fun e => h (hf x y c hx hy (hl c (List.mem_cons_self ..)) e))
theorem cb_inj {a b : Nat} (ha : a < 4294967296) (hb : b < 4294967296) (h : cb a = cb b) : a = b := by
  have hx : ∀ u : Nat, u < 2147483648 → (u ^^^ 3988292384) / 2147483648 = 1 := by
    intro u hu
    have e := Nat.xor_div_two_pow (a := u) (b := 3988292384) (n := 31)
    simp only [Nat.reducePow, Nat.reduceDiv] at e
    rw [e, Nat.div_eq_of_lt hu]; rfl
  have hinj : ∀ u v : Nat, u ^^^ 3988292384 = v ^^^ 3988292384 → u = v := fun u v e => by
    have := congrArg (· ^^^ 3988292384) e
    simpa [Nat.xor_assoc] using this
  unfold cb at h
  split at h <;> split at h
  · have := hinj _ _ h; omega
  · have := hx (a / 2) (by omega); omega
  · have := hx (b / 2) (by omega); omega
  · omega
theorem cbs_inj : ∀ (k : Nat) {a b : Nat}, a < 4294967296 → b < 4294967296 → cbs k a = cbs k b → a = b
  | 0, _, _, _, _, h => h
  | k + 1, _, _, ha, hb, h => cb_inj ha hb (cbs_inj k (cb_lt ha) (cb_lt hb) h)
theorem xor_right_inj {a b c : Nat} (h : a ^^^ c = b ^^^ c) : a = b := by
  have := congrArg (· ^^^ c) h
  simpa [Nat.xor_assoc] using this
theorem xor_left_inj {a b c : Nat} (h : c ^^^ a = c ^^^ b) : a = b := by
  rw [Nat.xor_comm c, Nat.xor_comm c] at h
  exact xor_right_inj h
theorem mul_inj {a b : Nat} (ha : a < 4294967296) (hb : b < 4294967296) (h : a * 16777619 % 4294967296 = b * 16777619 % 4294967296) : a = b := by
  have key : ∀ x : Nat, x < 4294967296 → x * 16777619 % 4294967296 * 899433627 % 4294967296 = x := by
    intro x hx
    rw [Nat.mod_mul_mod, Nat.mul_assoc, Nat.mul_mod, show 16777619 * 899433627 % 4294967296 = 1 by decide +kernel, Nat.mul_one, Nat.mod_mod, Nat.mod_eq_of_lt hx]
  rw [← key a ha, ← key b hb, h]
theorem cyc_ne (a z : List Nat) (u v : Nat) (ha : ∀ c ∈ a, c < 256) (hz : ∀ c ∈ z, c < 256) (hu : u < 256) (hv : v < 256) (h : u ≠ v) : cycF (a ++ u :: z) ≠ cycF (a ++ v :: z) := by
  unfold cycF
  rw [List.foldl_append, List.foldl_append, List.foldl_cons, List.foldl_cons]
  have hx : a.foldl cStep 4294967295 < 4294967296 := foldl_lt (fun _ _ => cStep_lt) a _ (by omega) ha
  generalize a.foldl cStep 4294967295 = x at *
  refine foldl_ne (fun x => x < 4294967296) (fun _ _ => cStep_lt) (fun p q c hp hq hc e => xor_right_inj (cbs_inj 8 (xor_lt32 hp (by omega)) (xor_lt32 hq (by omega)) e)) z _ _ (cStep_lt hx hu) (cStep_lt hx hv) hz ?_
  intro e
  exact h (xor_left_inj (cbs_inj 8 (xor_lt32 hx (by omega)) (xor_lt32 hx (by omega)) e))
theorem mix_ne (a z : List Nat) (u v : Nat) (ha : ∀ c ∈ a, c < 256) (hz : ∀ c ∈ z, c < 256) (hu : u < 256) (hv : v < 256) (h : u ≠ v) : mixF (a ++ u :: z) ≠ mixF (a ++ v :: z) := by
  unfold mixF
  rw [List.foldl_append, List.foldl_append, List.foldl_cons, List.foldl_cons]
  have hx : a.foldl mStep 2166136261 < 4294967296 := foldl_lt (fun x c _ _ => mStep_lt x c) a _ (by omega) ha
  generalize a.foldl mStep 2166136261 = x at *
  refine foldl_ne (fun x => x < 4294967296) (fun x c _ _ => mStep_lt x c) (fun p q c hp hq hc e => xor_right_inj (mul_inj (xor_lt32 hp (by omega)) (xor_lt32 hq (by omega)) e)) z _ _ (mStep_lt _ _) (mStep_lt _ _) hz ?_
  intro e
  exact h (xor_left_inj (mul_inj (xor_lt32 hx (by omega)) (xor_lt32 hx (by omega)) e))
theorem sum_fst (l : List Nat) : ∀ s : Nat × Nat, (l.foldl sStep s).1 = l.foldl (fun x c => (x + c) % 65521) s.1 := by
  induction l with
  | nil => intro s; rfl
  | cons c l ih => intro s; exact ih _
theorem sum_ne (a z : List Nat) (u v : Nat) (hz : ∀ c ∈ z, c < 256) (hu : u < 256) (hv : v < 256) (h : u ≠ v) : (sumF (a ++ u :: z)).1 ≠ (sumF (a ++ v :: z)).1 := by
  unfold sumF
  rw [sum_fst, sum_fst, List.foldl_append, List.foldl_append, List.foldl_cons, List.foldl_cons]
  generalize a.foldl (fun x c => (x + c) % 65521) (1, 0).1 = x
  refine foldl_ne (fun x => x < 65521) (fun _ _ _ _ => Nat.mod_lt _ (by omega)) (fun p q c hp hq hc e => by omega) z _ _ (Nat.mod_lt _ (by omega)) (Nat.mod_lt _ (by omega)) hz ?_
  omega
end Go.Proofs.Ytfiopjgpokdnoaa.PP
