/- The walk of package lex's Lex. Conditions: none. -/
import Derived.Test.YtofigpjabamnhaaDoorLexI
import Derived.RangeFuncBox
import Derived.Maps.AppendAt
namespace Go.Proofs.YtofigpjabamnhaaDoor
open Go.RowKit Go.Shelf LX
set_option linter.unusedVariables false
attribute [local go_sem] Oper.semAt_some
theorem tokens_any (s : ByteArray) (w : World) : Calls Tryd.prog 20 #[.string s] w fun e w' => e = .returned (.func (.func 23) #[] #[.pointer (some ⟨w.heap.size, 0, none⟩)]) ∧ w' = w.alloc (.cells #[.string s] 9) := by
  go_enter Tryd.func20, Tryd.ntmps20
  go_wp2_with fail
  go_ret
  exact ⟨rfl, rfl⟩
abbrev tokV (s : ByteArray) (x : Tok) : Array Value := #[.agg #[.int .i64 (x.1 : Nat), .int .i64 (x.2.1 : Nat), .string (s.extract x.2.1 (x.2.1 + x.2.2))]]
theorem tok_stops (n : Nat) (hn : 1 ≤ n) (Bn n₀ : Nat) (s : ByteArray) (hs : s.size ≤ 1000000000000) (w : World) (hb : w.heap[Bn]? = some (.cells #[.string s] 9 (0, 0))) :
    SeqStopsK Fence.wide n Tryd.prog 23 #[.pointer (some ⟨Bn, 0, none⟩)] (tokV s) (KT n₀) (fun ys => ys = seqL (toksF (nat s))) (fun pre => pre <+: seqL (toksF (nat s))) (s.size + 1) w :=
  fun l J Jx W hW hJ _ hY h0 => tok1_in n hn l Bn n₀ s hs J Jx (fun pre k p m W1 hj hl => hY pre (k, p, m) W1 hj hl) W hJ ((hW.block Bn (Array.getElem?_eq_some_iff.1 hb).1).trans hb) h0
theorem kt_b {n₀ : Nat} {w : World} (hn : n₀ ≤ w.heap.size) (W : World) (l : Nat) (o o' : Obj) (hl : w.heap.size ≤ l) (h : W.heap[l]? = some o) (hc : o.isCells = false) (hw : o.isWalk = false) : KT n₀ W (W.putObj l o') :=
  ⟨belowK_b hn W l o o' hl h hc hw, fun b cs t fr _ hb => by
    by_cases e : b = l
    · subst e
      rw [hb] at h
      cases h
      cases hc
    · rw [World.putObj_heap_other e]; exact hb⟩
theorem kt_grown {n₀ : Nat} {W W' : World} {row : Option Nat} (hg : W.grownBy W' row) (hr : ∀ r, row = some r → n₀ ≤ r ∧ ∃ cs fr, W.heap[r]? = some (.cells cs 39 fr)) (hn : n₀ ≤ W.heap.size) : KT n₀ W W' :=
  ⟨(Below.refl n₀ W).grown hg hn (fun k hk => (hr k hk).1), fun b cs t fr ht hb => by
    have hlt := (Array.getElem?_eq_some_iff.1 hb).1
    refine (hg.block b hlt fun e => ?_).trans hb
    obtain ⟨_, cs', fr', h'⟩ := hr b e.symm
    rw [hb] at h'
    cases h'
    rcases ht with h | h <;> cases h⟩
theorem kt_set {n₀ : Nat} {W : World} {B o : Nat} {cs : Array Value} {t : TypeId} {fr : Nat × Nat} (hb : W.heap[B]? = some (.cells cs t fr)) (ht : ¬ (t = 9 ∨ t = 25)) (hn : n₀ ≤ B) (v : Value) : KT n₀ W (W.setCell ⟨B, o, none⟩ v) :=
  ⟨(Below.refl n₀ W).setCell (p := ⟨B, o, none⟩) hn v, fun b cs' t' fr' ht' hb' => by
    by_cases e : b = B
    · subst e
      rw [hb] at hb'
      cases hb'
      exact absurd ht' ht
    · rw [heap_setCell_other _ _ _ _ (by simpa using e)]; exact hb'⟩
theorem own_block_row {W : World} {base : Nat} {e : TypeId} {size : Nat} {v : Value} {n : Nat} {xs : List Value} (h : W.ownsRow base e size v n xs) : ∀ r, v.ownBlock = some r → base ≤ r ∧ ∃ cs fr, W.heap[r]? = some (.cells cs e fr) := by
  intro r hr
  rcases h.2 with ⟨rfl, _⟩ | ⟨g, cap, cur, rfl, hg, hh, _⟩
  · simp [Value.ownBlock] at hr
  · obtain rfl : g = r := by simpa [Value.ownBlock] using hr
    exact ⟨hg, cur, (0, 0), hh⟩
theorem own_heap {β : Type} (B : Nat) (f : β → Obj) (hf : ∀ s, (f s).isCells = true) : Own (fun s W => W.heap[B]? = some (f s)) := fun s X Y row hs hg hr => by
  refine (hg.block B (Array.getElem?_eq_some_iff.1 hs).1 fun e => ?_).trans hs
  obtain ⟨o, ho, hc⟩ := hr B e.symm
  rw [hs] at ho
  cases ho
  rw [hf] at hc
  cases hc
section
variable {P : Program} {F : Fence} {nf : Nat} {t e size bytes : Nat} {w : World} {base : Nat} {ops : Array Oper} {rest : List Oper} {o : Oper} {a : Act} {Q' : Exit → Act → World → Prop} {v : Value} {n : Nat} {xs : List Value}
theorem wpListIn_app1 (hgd : o.guard = none) (E : El P t e size bytes) (s x : Operand) (ho : o.op = .call { callee := .builtin .append, args := #[s, x], argTypes := #[t, t] })
    (hs : a.eval s = v) (hown : w.ownsRow base e size v n xs) {C : Array Value} {k : Nat} (hk : k = w.heap.size) (hx : a.eval x = .slice (some ⟨k, 0, none⟩) 1 1) (hC : C.size = size) (h1 : ∀ u ∈ C.toList, u.oneCell' = true)
    (hb : (n + 1) * bytes ≤ 140737488355328) (hbase : base ≤ w.heap.size)
    (h : ∀ v' w', w'.ownsRow base e size v' (n + 1) (xs ++ C.toList) → (w.alloc (.cells C e)).grownBy w' v.ownBlock → v' ≠ .slice none 0 0 → wpListIn F nf P ops Q' rest (a.put o.dst v') w') : wpListIn F nf P ops Q' (o :: rest) a (w.alloc (.cells C e)) := by
  obtain ⟨i, z, hi, hz, hsz, hby, hzs⟩ := E.inf
  subst hk
  have hle : n + 1 ≤ (n + 1) * bytes := Nat.le_mul_of_pos_right _ E.bpos
  refine wpListIn_append_own _ hgd s x t ho base e i z size bytes E.und hi hz hsz hby hzs E.pos v n xs hs (hown.alloc _) ⟨w.heap.size, 0, none⟩ 1 1 C.toList hx (by simpa using hC) (fun j u hu => ?_) h1 (by simp only [maxLen]; omega) hb (by simp; omega) (fun v' w' h2 h3 h4 => h v' w' h2 h3 (fun e => by have := (h4.1 e).2; omega))
  rw [addr_add, Nat.zero_add, World.cell?_alloc_new]
  simpa using hu
end
end Go.Proofs.YtofigpjabamnhaaDoor
