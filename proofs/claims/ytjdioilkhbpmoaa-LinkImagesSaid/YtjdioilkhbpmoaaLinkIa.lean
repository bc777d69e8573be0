/- The image of objects: plain words. Conditions: none. -/
import Derived.Test.YtjdioilkhbpmoaaLinkJ
import Derived.Test.YtjdioilkhbpmoaaLinkP
import Derived.Test.YtjdioilkhbpmoaaZeros
namespace Go.Proofs.Ytjdioilkhbpmoaa
open Go.RowKit LK
set_option linter.unusedVariables false
def putW (st q : Int) (x : Wnt) (L : List Value) : List Value := putL ((if x.2.1 = 1 then q - (st + x.1) else q) % 4294967296).toNat (st + x.1).toNat 4 L
def wantsL (T : List (ByteArray × Int × Int)) (st : Int) : List Wnt → List Value → Option (List Value)
  | [], L => some L
  | x :: r, L => match lookS T x.2.2 with
    | none => none
    | some pq => wantsL T st r (putW st pq.2 x L)
def imgStep (T : List (ByteArray × Int × Int)) (a : Nat) (o : OV) (L : List Value) : Option (List Value) :=
  wantsL T (a : Nat) o.2.2.xs (L ++ o.1.xs.map (Value.int .u8) ++ List.replicate (room o.1.n - o.1.n) (.int .u8 0))
def imgF (T : List (ByteArray × Int × Int)) : Nat → List OV → List Value → Option (List Value)
  | _, [], L => some L
  | a, o :: r, L => match imgStep T a o L with
    | none => none
    | some L' => imgF T (a + room o.1.n) r L'
theorem putW_len (st q : Int) (x : Wnt) (L : List Value) : (putW st q x L).length = L.length := putL_len _ _ _ _
theorem wantsL_none {T : List (ByteArray × Int × Int)} {st : Int} {ws : List Wnt} {j : Nat} {x : Wnt} {L : List Value} (h : ws[j]? = some x) (hn : lookS T x.2.2 = none) : wantsL T st (ws.drop j) L = none := by
  obtain ⟨hj, e⟩ := List.getElem?_eq_some_iff.1 h
  rw [List.drop_eq_getElem_cons hj, e]
  simp only [wantsL, hn]
theorem wantsL_some {T : List (ByteArray × Int × Int)} {st : Int} {ws : List Wnt} {j : Nat} {x : Wnt} {L : List Value} {p q : Int} (h : ws[j]? = some x) (hn : lookS T x.2.2 = some (p, q)) : wantsL T st (ws.drop j) L = wantsL T st (ws.drop (j + 1)) (putW st q x L) := by
  obtain ⟨hj, e⟩ := List.getElem?_eq_some_iff.1 h
  rw [List.drop_eq_getElem_cons hj, e]
  simp only [wantsL, hn]
theorem imgF_none {T : List (ByteArray × Int × Int)} {a : Nat} {os : List OV} {k : Nat} {o : OV} {L : List Value} (h : os[k]? = some o) (hn : imgStep T a o L = none) : imgF T a (os.drop k) L = none := by
  obtain ⟨hj, e⟩ := List.getElem?_eq_some_iff.1 h
  rw [List.drop_eq_getElem_cons hj, e]
  simp only [imgF, hn]
theorem imgF_some {T : List (ByteArray × Int × Int)} {a : Nat} {os : List OV} {k : Nat} {o : OV} {L L' : List Value} (h : os[k]? = some o) (hn : imgStep T a o L = some L') : imgF T a (os.drop k) L = imgF T (a + room o.1.n) (os.drop (k + 1)) L' := by
  obtain ⟨hj, e⟩ := List.getElem?_eq_some_iff.1 h
  rw [List.drop_eq_getElem_cons hj, e]
  simp only [imgF, hn]
theorem El_u8 : El Try.prog 37 5 1 1 := El.of Try.underlying37 (show (Try.prog.info? 5).map (fun i => (i.zero, i.size, i.bytes)) = some (some (.int .u8 0), 1, 1) by kernel_rfl) rfl (by decide) (by decide)
/-- the elements of another slice; nothing but the row's block turns -/
theorem wpList_appsg {P : Program} {t e size bytes : Nat} {w : World} {base : Nat} {ops : Array Oper} {rest : List Oper} {o : Oper} {a : Act} {Q' : Exit → Act → World → Prop} {v : Value} {n : Nat} {xs : List Value}
    (hgd : o.guard = none) (E : El P t e size bytes) (s x : Operand) (ho : o.op = .call { callee := .builtin .append, args := #[s, x], argTypes := #[t, t] })
    (hs : a.eval s = v) (hown : w.ownsRow base e size v n xs) {A : Option Addr} {m c B : Nat} {news : List Value} (hx : a.eval x = .slice A m c) (hA : A = none → m = 0 ∧ c = 0) (hl : news.length = m * size) (hr : Rd w B A news) (h1 : ∀ u ∈ news, u.oneCell' = true)
    (hb : (n + m) * bytes ≤ 140737488355328) (hbase : base ≤ w.heap.size)
    (h : ∀ v' w', w'.ownsRow base e size v' (n + m) (xs ++ news) → w.grownBy w' v.ownBlock → wpList P ops Q' rest (a.put o.dst v') w') : wpList P ops Q' (o :: rest) a w := by
  obtain ⟨i, z, hi, hz, hsz, hby, hzs⟩ := E.inf
  rcases A with _ | ad
  · obtain ⟨rfl, rfl⟩ := hA rfl
    have : news = [] := List.eq_nil_of_length_eq_zero (by simpa using hl)
    subst this
    refine wpList_append_own_none hgd s x t ho base e i size E.und hi v n xs hs hown hx (h v w (by simpa using hown) (grown_refl _ _))
  · have hle : n + m ≤ (n + m) * bytes := Nat.le_mul_of_pos_right _ E.bpos
    refine wpList_append_own _ hgd s x t ho base e i z size bytes E.und hi hz hsz hby hzs E.pos v n xs hs hown ad m c news hx hl (fun j u hu => ?_) h1 (by simp only [maxLen]; omega) hb hbase (fun v' w' h2 h3 _ => h v' w' h2 h3)
    rcases hr with rfl | ⟨b, o, h2, _, h3⟩
    · simp at hu
    · obtain rfl := Option.some.inj h2
      rw [addr_add]
      exact h3 j u hu
/-- a row's growth leaves what stands below its base -/
theorem q_grown {w0 w w' : World} {row : Option Nat} (hq : Q w0 w) (hg : w.grownBy w' row) (hr : ∀ k, row = some k → w0.heap.size ≤ k) : Q w0 w' := by
  have hs := hq.size
  exact q_below (B := w0.heap.size) hq ⟨hg.os, hg.tape, hg.output, hg.size, fun i hi => hg.block i (by omega) (fun e => by have := hr i e.symm; omega)⟩ (Nat.le_refl _)
def ImgPost (w : World) (R : Option (List Value)) (e : Ending) (w' : World) : Prop :=
  Q w w' ∧ ((R = none ∧ e = .returned (.tuple #[.slice none 0 0, .int .i64 4])) ∨ ∃ L v N, R = some L ∧ e = .returned (.tuple #[v, .int .i64 0]) ∧ w'.ownsRow w.heap.size 5 1 v N L)
end Go.Proofs.Ytjdioilkhbpmoaa
